/- A law's arguments, typed; a law that answers true. -/
import Derived.Test.YtoaadbakbfphgaaVi
namespace Go.PI
open Go Go.ChangeShapes Go.WideShapes Go.ChangeAt Go.RowKit

variable {P : Program} {H : Type} {enc : TypeId × Value → H}

/-- A slot's type, of a parameter's. -/
def slotT (P : Program) (t : Nat) : Option Ty :=
  match P.underlying t with
  | some (.struct _) | some (.array _ _) => (tyP P 8 t).map .agg
  | _ => tyP P 8 t

def RoF (w : World) (ds : List D) (vs : List Value) : Prop :=
  ds.length = vs.length ∧ ∀ i (h : i < ds.length) (h' : i < vs.length), Ro allFr w ds[i] vs[i] ∧ Flat ds[i]

theorem RoF.app {w : World} {a b : List D} {x y : List Value} (h : RoF w a x) (k : RoF w b y) : RoF w (a ++ b) (x ++ y) := by
  refine ⟨by simp [h.1, k.1], fun i hi hi' => ?_⟩
  by_cases hl : i < a.length
  · rw [List.getElem_append_left hl, List.getElem_append_left (by rw [← h.1]; exact hl)]
    exact h.2 i hl (by rw [← h.1]; exact hl)
  · rw [List.getElem_append_right (by omega), List.getElem_append_right (by rw [← h.1]; omega)]
    have := k.2 (i - a.length) (by simp at hi; omega) (by simp at hi' hi; have := h.1; have := k.1; omega)
    have e := h.1
    simp only [e] at this ⊢
    exact this

theorem rof_one {w : World} {d : D} {v : Value} (h : Ro allFr w d v) (hn : Flat d) : RoF w [d] [v] := by
  refine ⟨rfl, fun i hi hi' => ?_⟩
  match i, hi with
  | 0, _ => exact ⟨h, hn⟩

theorem slot_ok {W : World} {base b0 : Nat} {sp : Nat → Bool} {held : Bool} {t : Nat} {u : Ty} {v : Value} {d : DataW H} {ps : List MemPlace} (hu : slotT P t = some u) (hval : Value.okWide P W .any b0 t v) (h : DataW.Trod enc P W base sp held t v d ps) :
    ∃ y : u.den, u.ok y ∧ RoF W (cellsD u y) [v] := by
  obtain ⟨fuel, hf⟩ := h
  have one : ∀ (k : Nat), tyP P k t = some u → v.cells = #[v] → ∃ y : u.den, u.ok y ∧ RoF W (cellsD u y) [v] := by
    intro k hk hv
    rw [hv] at hf
    obtain ⟨y, ho, hy⟩ := read_ok k t u hk _ _ _ hf
    refine ⟨y, ho, hy.1, fun i hi hi' => ⟨(hy.2 i hi hi').1, fun l e => absurd e ((hy.2 i hi hi').2 l)⟩⟩
  have agg : ∀ (k : Nat) (u' : Ty), tyP P k t = some u' → ∀ cs, v = .agg cs → ∃ y : u'.den, u'.ok y ∧ RoF W [.agg (cellsD u' y)] [v] := by
    rintro k u' hk cs rfl
    obtain ⟨y, ho, hy⟩ := read_ok k t u' hk _ _ _ hf
    refine ⟨y, ho, rof_one (.agg _ _ (by have := hy.1; simpa [Value.cells] using this.symm) fun i hi hi' => ?_) ?_⟩
    · have := (hy.2 i hi (by simpa [Value.cells] using hi')).1
      simpa [Value.cells] using this
    · intro l e x hx q
      cases e
      obtain ⟨j, hj, rfl⟩ := List.mem_iff_getElem.mp hx
      exact (hy.2 j hj (by rw [← hy.1]; exact hj)).2 q
  unfold slotT at hu
  split at hu
  · rename_i fs ht
    simp only [Option.map_eq_some_iff] at hu
    obtain ⟨u', hu', rfl⟩ := hu
    obtain ⟨cs, rfl, _⟩ := okWide_struct ht hval
    exact agg 8 u' hu' cs rfl
  · rename_i n e ht
    simp only [Option.map_eq_some_iff] at hu
    obtain ⟨u', hu', rfl⟩ := hu
    have : ∃ cs, v = .agg cs := by
      unfold Value.okWide at hval
      rw [ht] at hval
      obtain ⟨cs, e, _⟩ := hval
      exact ⟨cs, e⟩
    obtain ⟨cs, rfl⟩ := this
    exact agg 8 u' hu' cs rfl
  · rename_i h1 h2
    have hu2 := hu
    simp only [tyP] at hu2
    split at hu2
    · rename_i ht; obtain ⟨n, rfl⟩ := okWide_int ht hval; exact one 8 hu rfl
    · rename_i ht; obtain ⟨n, rfl⟩ := okWide_bool ht hval; exact one 8 hu rfl
    · rename_i ht; obtain ⟨n, rfl⟩ := okWide_string ht hval; exact one 8 hu rfl
    · rename_i ht; obtain ⟨a, l, c, rfl⟩ := okWide_slice ht hval; exact one 8 hu rfl
    · rename_i ht; exact (h1 _ ht).elim
    · rename_i ht; exact (h2 _ _ ht).elim
    · cases hu2

theorem rof_cons {w : World} {u : Ty} {l : List Ty} {y : u.den} {z : (listTy l).den} {v : Value} {vs : List Value} (oy : u.ok y) (oz : (listTy l).ok z) (h : RoF w (cellsD u y) [v]) (k : RoF w (cellsD (listTy l) z) vs) : ∃ x : (listTy (u :: l)).den, (listTy (u :: l)).ok x ∧ RoF w (cellsD (listTy (u :: l)) x) (v :: vs) := by
  cases l with
  | nil =>
    have : vs = [] := by
      have := k.1
      simp only [listTy, cellsD, List.length_nil] at this
      exact List.length_eq_zero_iff.mp this.symm
    rw [this]
    exact ⟨y, oy, h⟩
  | cons a l => exact ⟨(y, z), ⟨oy, oz⟩, h.app k⟩

/-- All arguments. -/
theorem params_ok {W : World} {base b0 : Nat} {sp : Nat → Bool} {held : Bool} : ∀ (ts : List TypeId) (vs : List Value) (ds : List (DataW H)) (ps : List MemPlace) (us : List Ty), DataW.TrodAll enc P W base sp held ts vs ds ps →
    (∀ (j : Nat) t v, ts[j]? = some t → vs[j]? = some v → Value.okWide P W .any b0 t v) → ts.mapM (slotT P) = some us → ds.length = ts.length ∧ ∃ x : (listTy us).den, (listTy us).ok x ∧ RoF W (cellsD (listTy us) x) vs
  | [], [], [], _, us, _, _, h => by
    simp only [List.mapM_nil] at h
    cases h
    exact ⟨rfl, (), trivial, rfl, fun i hi => by simp [listTy, cellsD] at hi⟩
  | [], [], _ :: _, _, _, h, _, _ => h.elim
  | [], _ :: _, _, _, _, h, _, _ => by cases h
  | _ :: _, [], _, _, _, h, _, _ => by cases h
  | _ :: _, _ :: _, [], _, _, h, _, _ => h.elim
  | t :: ts, v :: vs, d :: ds, ps, us, h, hv, hu => by
    obtain ⟨p, q, h1, h2, _⟩ := h
    simp only [List.mapM_cons, Option.bind_eq_bind, Option.bind_eq_some_iff] at hu
    obtain ⟨u, hu1, us', hu2, e⟩ := hu
    cases e
    obtain ⟨y, oy, hy⟩ := slot_ok hu1 (hv 0 t v rfl rfl) h1
    obtain ⟨hl, z, oz, hz⟩ := params_ok ts vs ds q us' h2 (fun j t v a b => hv (j + 1) t v a b) hu2
    exact ⟨by simp [hl], rof_cons oy oz hy hz⟩

/-- A law that answers true at typed arguments, answers true. -/
theorem law_told {sig : Sigs} {C : TyC sig} (hT : ∀ j x y, C j x = some y → EntOk P (sig j) x y) {j : Nat} {us : List Ty} (hg : (sig j).g = j) (hin : (sig j).inT = listTy us) (hna : (sig j).na = (listTy us).width) (hout : (sig j).outT = .bool) {W : World} {vs : Array Value} {x : (listTy us).den}
    (hx : RoF W (cellsD (listTy us) x) vs.toList) (hc : C j (hin ▸ x) = some (hout ▸ true)) :
    Calls P j vs W fun e W' => e = .returned (.bool true) ∧ Below W.heap.size W W' := by
  have hm := plain_matches C (fun g => g)
  have ex : ∀ (a : Ty) (e : a = listTy us), cellsD a (e ▸ x) = cellsD (listTy us) x := by
    rintro a rfl; rfl
  have ecells := ex _ hin
  have eds : (sig j).ds (hin ▸ x) = cellsD (listTy us) x := by
    unfold Sig.ds
    rw [ecells, hna, ← cellsD_len (listTy us) x, List.take_length]
  have ebx : (sig j).bxs (hin ▸ x) = [] := by
    unfold Sig.bxs
    rw [ecells, hna, ← cellsD_len (listTy us) x, List.drop_length]
    rfl
  have key := hm.says j (hin ▸ x) (hout ▸ true) hg hc (by rw [eds, ebx, ecells]; simp)
  have er : (sig j).res (hout ▸ true) = .bool true ∧ (sig j).bxs' (hout ▸ true) = [] := by
    have : ∀ (a : Ty) (e : a = .bool), cellsD a (e ▸ true) = [.bool true] := by
      rintro a rfl; rfl
    unfold Sig.res Sig.bxs'
    rw [this _ hout]
    exact ⟨rfl, rfl⟩
  simp only [eds, ebx, er.1, er.2] at key
  refine (calls_told (plain_ok hT (fun g => g)) key W vs (by have := hx.1; simpa using this.symm) fun i h h' => ?_).mono fun e W' ⟨v, he, hb, G', hs⟩ => ?_
  · have := hx.2 i h (by simpa using h')
    simpa using this
  · obtain rfl := told_bool hs
    exact ⟨he, hb⟩

end Go.PI
