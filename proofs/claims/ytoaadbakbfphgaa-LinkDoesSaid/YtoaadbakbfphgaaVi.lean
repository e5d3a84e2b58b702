/- What comes in to a law, as typed data; a law's row. -/
import Derived.Test.YtoaadbakbfphgaaVh
import Derived.Test.YtoaadbakbfphgaaLn
import Derived.Deep.Slices
namespace Go.PI
open Go Go.ChangeShapes Go.WideShapes Go.ChangeAt Go.RowKit

set_option linter.unusedVariables false
variable {P : Program} {H : Type} {enc : TypeId × Value → H}

def fieldsP (P : Program) (f : Nat → Option Ty) : Nat → List Field → Option (List Ty)
  | _, [] => some []
  | off, x :: r =>
    match f x.type with
    | some u => if x.offset = off ∧ P.cellsOf x.type = u.width then
        match fieldsP P f (off + u.width) r with
        | some l => some (u :: l)
        | none => none
      else none
    | none => none

/-- A type's typed rows. -/
def tyP (P : Program) : Nat → Nat → Option Ty
  | 0, _ => none
  | k + 1, t =>
    match P.underlying t with
    | some (.int i) => some (.int i)
    | some .bool => some .bool
    | some .string => some .str
    | some (.slice e) =>
      match tyP P k e with
      | some u => if P.cellsOf e = u.width ∧ 0 < u.width then some (.sl 0 u) else none
      | none => none
    | some (.struct fs) =>
      match fieldsP P (tyP P k) 0 fs.toList with
      | some l => if P.cellsOf t = (listTy l).width then some (listTy l) else none
      | none => none
    | some (.array n e) =>
      match tyP P k e with
      | some u => if P.cellsOf e = u.width ∧ P.cellsOf t = n * u.width then some (listTy (List.replicate n u)) else none
      | none => none
    | _ => none

def RoL (w : World) (ds : List D) (vs : List Value) : Prop :=
  ds.length = vs.length ∧ ∀ i (h : i < ds.length) (h' : i < vs.length), Ro allFr w ds[i] vs[i] ∧ ∀ q, ds[i] ≠ .agg q

/-- Data as large as memory lets them be. -/
def Ty.ok : (t : Ty) → t.den → Prop
  | .int k, n => k.min ≤ n ∧ n ≤ k.max
  | .bool, _ => True
  | .str, s => s.size ≤ maxLen
  | .sl _ t, l => l.length ≤ maxLen ∧ ∀ x ∈ l, t.ok x
  | .unit, _ => True
  | .pair a b, x => a.ok x.1 ∧ b.ok x.2
  | .agg t, x => t.ok x
  | .tup t, x => t.ok x
  | .rp t, x => t.ok x
  | .ptr _ _, _ => True
  | .nilp, _ => True
  | .nilf, _ => True
  | .nili, _ => True
  | .undef, _ => True
  | .fn _ a b, x => a.ok x.1 ∧ b.ok x.2

def Rd (w : World) (u : Ty) (cs : List Value) : Prop := ∃ y : u.den, u.ok y ∧ RoL w (cellsD u y) cs

theorem RoL.app {w : World} {a b : List D} {x y : List Value} (h : RoL w a x) (k : RoL w b y) : RoL w (a ++ b) (x ++ y) := by
  refine ⟨by simp [h.1, k.1], fun i hi hi' => ?_⟩
  by_cases hl : i < a.length
  · rw [List.getElem_append_left hl, List.getElem_append_left (by rw [← h.1]; exact hl)]
    exact h.2 i hl (by rw [← h.1]; exact hl)
  · rw [List.getElem_append_right (by omega), List.getElem_append_right (by rw [← h.1]; omega)]
    have := k.2 (i - a.length) (by simp at hi; omega) (by simp at hi' hi; have := h.1; have := k.1; omega)
    have e := h.1
    simp only [e] at this ⊢
    exact this

theorem Rd.pair {w : World} {a b : Ty} {x y : List Value} (h : Rd w a x) (k : Rd w b y) : Rd w (.pair a b) (x ++ y) := by
  obtain ⟨p, op, hp⟩ := h
  obtain ⟨q, oq, hq⟩ := k
  exact ⟨(p, q), ⟨op, oq⟩, hp.app hq⟩

theorem rol_one {w : World} {d : D} {v : Value} (h : Ro allFr w d v) (hn : ∀ q, d ≠ .agg q) : RoL w [d] [v] := by
  refine ⟨rfl, fun i hi hi' => ?_⟩
  match i, hi with
  | 0, _ => exact ⟨h, hn⟩

theorem rd_cons {w : World} {u : Ty} {l : List Ty} {x y : List Value} (h : Rd w u x) (k : Rd w (listTy l) y) : Rd w (listTy (u :: l)) (x ++ y) := by
  cases l with
  | nil =>
    obtain ⟨q, _, hq⟩ := k
    have : y = [] := by
      have := hq.1
      simp only [listTy, cellsD, List.length_nil] at this
      exact List.length_eq_zero_iff.mp this.symm
    rw [this, List.append_nil]
    exact h
  | cons a l => exact h.pair k

theorem width_cons (u : Ty) (l : List Ty) : (listTy (u :: l)).width = u.width + (listTy l).width := by
  cases l <;> rfl

theorem fields_rd {w : World} {f : Nat → Option Ty} {R : Nat → List Value → Prop} (hR : ∀ t u cs, f t = some u → R t cs → Rd w u cs) (cs : List Value) : ∀ (fs : List Field) (off : Nat) (l : List Ty), fieldsP P f off fs = some l →
    (∀ x ∈ fs, R x.type ((cs.drop x.offset).take (P.cellsOf x.type))) → cs.length = off + (listTy l).width → Rd w (listTy l) (cs.drop off)
  | [], off, l, h, _, hl => by
    simp only [fieldsP, Option.some.injEq] at h
    subst h
    have : cs.drop off = [] := by
      rw [List.drop_eq_nil_iff]
      simp only [listTy, Ty.width] at hl
      omega
    rw [this]
    exact ⟨(), trivial, rfl, fun i hi => by simp [listTy, cellsD] at hi⟩
  | x :: r, off, l, h, hx, hl => by
    simp only [fieldsP] at h
    split at h
    · rename_i u hu
      split at h
      · rename_i hc
        split at h
        · rename_i l' hl'
          cases h
          rw [width_cons] at hl
          have h1 := hR _ _ _ hu (hx x (by simp))
          rw [hc.1, hc.2] at h1
          have h2 := fields_rd hR cs r (off + u.width) l' hl' (fun y hy => hx y (by simp [hy])) (by omega)
          have e : cs.drop off = (cs.drop off).take u.width ++ cs.drop (off + u.width) := by
            rw [← List.drop_drop, List.take_append_drop]
          rw [e]
          exact rd_cons h1 h2
        · cases h
      · cases h
    · cases h

theorem array_rd {w : World} {u : Ty} (cs : List Value) (n : Nat) : ∀ (m : Nat), m ≤ n → (∀ i, i < n → Rd w u ((cs.drop (i * u.width)).take u.width)) → cs.length = n * u.width → Rd w (listTy (List.replicate m u)) (cs.drop ((n - m) * u.width))
  | 0, _, _, hl => by
    have : cs.drop ((n - 0) * u.width) = [] := by
      rw [List.drop_eq_nil_iff]
      simp [hl]
    rw [this]
    exact ⟨(), trivial, rfl, fun i hi => by simp [listTy, cellsD] at hi⟩
  | m + 1, hm, hx, hl => by
    have h1 := hx (n - (m + 1)) (by omega)
    have h2 := array_rd cs n m (by omega) hx hl
    have e : cs.drop ((n - (m + 1)) * u.width) = (cs.drop ((n - (m + 1)) * u.width)).take u.width ++ cs.drop ((n - m) * u.width) := by
      have : (n - m) * u.width = (n - (m + 1)) * u.width + u.width := by
        rw [show n - m = n - (m + 1) + 1 by omega, Nat.add_mul, Nat.one_mul]
      rw [this, ← List.drop_drop, List.take_append_drop]
    rw [e, List.replicate_succ]
    exact rd_cons h1 h2

/-- Elements in a row. -/
theorem slice_rd {W : World} {u : Ty} (hw : 0 < u.width) {a : Addr} {len cap : Nat} (hcap : len ≤ cap) (hx : ∀ i, i < len → ∃ cs, (∀ j (hj : j < u.width), W.cell? ((a.add (i * u.width)).add j) = cs[j]?) ∧ cs.length = u.width ∧ Rd W u cs) :
    ∃ l : List u.den, l.length = len ∧ (∀ x ∈ l, u.ok x) ∧ Ro allFr W (.sl 0 u.width (l.map (cellsD u))) (.slice (some a) len cap) := by
  cases len with
  | zero => exact ⟨[], rfl, by simp, .nila _ _ _⟩
  | succ len =>
    have hsp : a.spot = none := by
      obtain ⟨cs, h1, h2, _⟩ := hx 0 (by omega)
      have := h1 0 hw
      rw [List.getElem?_eq_getElem (by omega)] at this
      unfold World.cell? at this
      split at this
      · split at this
        · cases this
        · rename_i hs
          simpa [Addr.add] using hs
      · cases this
    obtain ⟨b, o, spot⟩ := a
    simp only at hsp
    subst hsp
    have hch : ∃ f : Nat → u.den × List Value, ∀ i, i < len + 1 → (∀ j (hj : j < u.width), W.cell? (at_ b (o + i * u.width + j)) = (f i).2[j]?) ∧ (f i).2.length = u.width ∧ u.ok (f i).1 ∧ RoL W (cellsD u (f i).1) (f i).2 := by
      have hex : ∀ i, i < len + 1 → ∃ p : u.den × List Value, (∀ j (hj : j < u.width), W.cell? (at_ b (o + i * u.width + j)) = p.2[j]?) ∧ p.2.length = u.width ∧ u.ok p.1 ∧ RoL W (cellsD u p.1) p.2 := by
        intro i hi
        obtain ⟨cs, h1, h2, y, ho, hy⟩ := hx i hi
        refine ⟨(y, cs), fun j hj => ?_, h2, ho, hy⟩
        have := h1 j hj
        have e : ((⟨b, o, none⟩ : Addr).add (i * u.width)).add j = at_ b (o + i * u.width + j) := by
          have := add_at b o (i * u.width)
          unfold at_ at this
          rw [this]
          exact add_at b (o + i * u.width) j
        rw [e] at this
        exact this
      refine ⟨fun i => if h : i < len + 1 then Classical.choose (hex i h) else (u.dflt, []), fun i hi => ?_⟩
      simp only [dif_pos hi]
      exact Classical.choose_spec (hex i hi)
    obtain ⟨f, hf⟩ := hch
    refine ⟨(List.range (len + 1)).map fun i => (f i).1, by simp, fun x hx => ?_, ?_⟩
    · simp only [List.mem_map, List.mem_range] at hx
      obtain ⟨i, hi, rfl⟩ := hx
      exact (hf i hi).2.2.1
    have hlen : (((List.range (len + 1)).map fun i => (f i).1).map (cellsD u)).length = len + 1 := by simp
    have get : ∀ i (hi : i < (((List.range (len + 1)).map fun i => (f i).1).map (cellsD u)).length), (((List.range (len + 1)).map fun i => (f i).1).map (cellsD u))[i] = cellsD u (f i).1 := by
      intro i hi
      simp
    have key := Ro.sl (G := allFr) (w := W) u.width (((List.range (len + 1)).map fun i => (f i).1).map (cellsD u)) b o cap (fun i j => (f i).2.getD j undef) (by rw [hlen]; exact hcap)
      (fun x hx => by
        simp only [List.map_map, List.mem_map] at hx
        obtain ⟨i, hi, rfl⟩ := hx
        refine ⟨cellsD_len _ _, fun d hd q e => ?_⟩
        simp only [List.mem_range] at hi
        obtain ⟨_, h2, _, h3⟩ := hf i hi
        obtain ⟨j, hj, rfl⟩ := List.mem_iff_getElem.mp hd
        exact (h3.2 j hj (by rw [← h3.1]; exact hj)).2 q e)
      (fun i j hi hj => by
        rw [hlen] at hi
        obtain ⟨h1, h2, _⟩ := hf i hi
        refine ⟨?_, .inl rfl⟩
        rw [h1 j hj, List.getD_eq_getElem?_getD, List.getElem?_eq_getElem (by omega)]
        rfl)
      (fun i j hi hj => by
        have hi' : i < len + 1 := by rwa [hlen] at hi
        obtain ⟨_, h2, _, h3⟩ := hf i hi'
        have hj' : j < (cellsD u (f i).1).length := by rwa [get i hi] at hj
        have hj2 : j < (f i).2.length := by rw [← h3.1]; exact hj'
        have e : (((List.range (len + 1)).map fun i => (f i).1).map (cellsD u))[i][j] = (cellsD u (f i).1)[j] := by simp only [get i hi]
        rw [e, List.getD_eq_getElem?_getD, List.getElem?_eq_getElem hj2]
        exact (h3.2 j hj' hj2).1)
    rw [hlen] at key
    exact key

theorem read_ok {W : World} {base : Nat} {sp : Nat → Bool} {held : Bool} : ∀ (k : Nat) (t : Nat) (u : Ty), tyP P k t = some u → ∀ (n : Nat) (cs : List Value) (x : DataW H × List MemPlace), DataW.trod enc P W base sp held n t cs = some x → Rd W u cs
  | 0, _, _, h, _, _, _, _ => by cases h
  | k + 1, t, u, h, n, cs, x, hx => by
    simp only [tyP] at h
    split at h
    · rename_i i ht
      cases h
      obtain ⟨a, e, _, hwf⟩ := DataW.trod_int ht hx
      subst e
      exact ⟨a, (by have h := hwf; simp [Lit.wf] at h; exact h), rol_one (.int _ _) (by intro q e; cases e)⟩
    · rename_i ht
      cases h
      cases n with
      | zero => simp [DataW.trod] at hx
      | succ n =>
        unfold DataW.trod at hx
        simp only [ht] at hx
        split at hx <;> first | (rename_i heq; cases heq; done) | (rename_i b heq; exact ⟨b, trivial, rol_one (.bool _) (by intro q e; cases e)⟩) | (cases hx; done)
    · rename_i ht
      cases h
      obtain ⟨s, e, _, hsz⟩ := DataW.trod_string ht hx
      subst e
      exact ⟨s, hsz, rol_one (.str _) (by intro q e; cases e)⟩
    · rename_i e ht
      split at h
      · rename_i u' hu'
        split at h
        · rename_i hc
          cases h
          rcases Go.Deep.open_slice ht hx with ⟨hcs, _⟩ | ⟨a, len, cap, m, n', Dd, Pl, hcs, hb, hl, hm, hmm, _, hx'⟩
          · subst hcs
            exact ⟨[], ⟨by simp, by simp⟩, rol_one (.nils _) (by intro q e; cases e)⟩
          · subst hcs
            have hlm : len ≤ m := by
              rw [hmm]
              split <;> omega
            obtain ⟨l, hll, hlo, hl'⟩ := slice_rd (W := W) hc.2 hl (a := a) fun i hi => by
              obtain ⟨cs', h1, h2⟩ := hx' i (by omega)
              rw [hc.1] at h1
              obtain ⟨_, hlen, hc'⟩ := World.cells?_some h1
              exact ⟨cs', fun j hj => hc' j hj, hlen, read_ok k e u' hu' _ _ _ h2⟩
            exact ⟨l, ⟨by omega, hlo⟩, rol_one hl' (by intro q e; cases e)⟩
        · cases h
      · cases h
    · rename_i fs ht
      split at h
      · rename_i l hl
        split at h
        · rename_i hc
          cases h
          cases n with
          | zero => simp [DataW.trod] at hx
          | succ n =>
            have hx2 : ∃ hlen : cs.length = P.cellsOf t, ∃ xs, fs.toList.mapM (fun f => DataW.trod enc P W base sp held n f.type ((cs.drop f.offset).take (P.cellsOf f.type))) = some xs := by
              unfold DataW.trod at hx
              simp only [ht] at hx
              split at hx
              · rename_i hlen
                simp only [Option.map_eq_some_iff] at hx
                obtain ⟨xs, h1, _⟩ := hx
                exact ⟨hlen, xs, h1⟩
              · cases hx
            obtain ⟨hlen, xs, hxs⟩ := hx2
            have hall : ∀ f ∈ fs.toList, ∃ y, DataW.trod enc P W base sp held n f.type ((cs.drop f.offset).take (P.cellsOf f.type)) = some y := by
              have : ∀ (fl : List Field) (xs : List (DataW H × List MemPlace)), fl.mapM (fun f => DataW.trod enc P W base sp held n f.type ((cs.drop f.offset).take (P.cellsOf f.type))) = some xs → ∀ f ∈ fl, ∃ y, DataW.trod enc P W base sp held n f.type ((cs.drop f.offset).take (P.cellsOf f.type)) = some y := by
                intro fl
                induction fl with
                | nil => intro xs _ f hf; simp at hf
                | cons a fl ih =>
                  intro xs h f hf
                  simp only [List.mapM_cons, Option.bind_eq_bind, Option.bind_eq_some_iff] at h
                  obtain ⟨y, h1, ys, h2, _⟩ := h
                  rcases List.mem_cons.mp hf with rfl | hf
                  · exact ⟨y, h1⟩
                  · exact ih ys h2 f hf
              exact this _ _ hxs
            have := fields_rd (P := P) (w := W) (f := tyP P k) (R := fun t cs => ∃ y, DataW.trod enc P W base sp held n t cs = some y) (fun t u cs hu ⟨y, hy⟩ => read_ok k t u hu _ _ _ hy) cs fs.toList 0 l hl hall (by rw [hlen, hc]; omega)
            simpa using this
        · cases h
      · cases h
    · rename_i m e ht
      split at h
      · rename_i u' hu'
        split at h
        · rename_i hc
          cases h
          cases n with
          | zero => simp [DataW.trod] at hx
          | succ n =>
            have hx2 : ∃ hlen : cs.length = P.cellsOf t, ∃ xs, (List.range m).mapM (fun i => DataW.trod enc P W base sp held n e ((cs.drop (i * P.cellsOf e)).take (P.cellsOf e))) = some xs := by
              unfold DataW.trod at hx
              simp only [ht] at hx
              split at hx
              · rename_i hlen
                simp only [Option.map_eq_some_iff] at hx
                obtain ⟨xs, h1, _⟩ := hx
                exact ⟨hlen, xs, h1⟩
              · cases hx
            obtain ⟨hlen, xs, hxs⟩ := hx2
            have hall : ∀ i ∈ List.range m, ∃ y, DataW.trod enc P W base sp held n e ((cs.drop (i * P.cellsOf e)).take (P.cellsOf e)) = some y := by
              have : ∀ (fl : List Nat) (xs : List (DataW H × List MemPlace)), fl.mapM (fun i => DataW.trod enc P W base sp held n e ((cs.drop (i * P.cellsOf e)).take (P.cellsOf e))) = some xs → ∀ i ∈ fl, ∃ y, DataW.trod enc P W base sp held n e ((cs.drop (i * P.cellsOf e)).take (P.cellsOf e)) = some y := by
                intro fl
                induction fl with
                | nil => intro xs _ f hf; simp at hf
                | cons a fl ih =>
                  intro xs h f hf
                  simp only [List.mapM_cons, Option.bind_eq_bind, Option.bind_eq_some_iff] at h
                  obtain ⟨y, h1, ys, h2, _⟩ := h
                  rcases List.mem_cons.mp hf with rfl | hf
                  · exact ⟨y, h1⟩
                  · exact ih ys h2 f hf
              exact this _ _ hxs
            have := array_rd (w := W) (u := u') cs m m (Nat.le_refl _) (fun i hi => by
              obtain ⟨y, hy⟩ := hall i (by simpa using hi)
              rw [hc.1] at hy
              exact read_ok k e u' hu' _ _ _ hy) (by rw [hlen, hc.2])
            simpa using this
        · cases h
      · cases h
    · cases h

end Go.PI
