/- Equality of structs and arrays. -/
import Derived.Test.YtoaadbakbfphgaaIi
namespace Go.PI
open Go

/-- What a leaf that can be compared says of a value. -/
structure Lf (d : D) (v : Value) : Prop where
  int : ∀ k n, d = .int k n → v = .int k n
  bool : ∀ b, d = .bool b → v = .bool b
  str : ∀ s, d = .str s → v = .string s
  nilp : d = .nilp → v = .pointer none
  ptr : ∀ l o, d = .ptr l o → ∃ a, v = .pointer (some a)

theorem leaf_lf {G : Gh} {w : World} {tmps : Array Value} {κ : Key} {d : D} {v : Value} (h : Leaf G w tmps κ d v) : Lf d v := by
  refine ⟨?_, ?_, ?_, ?_, ?_⟩
  · rintro k n rfl
    have h : Ro G w (.int k n) v := h
    cases h; rfl
  · rintro b rfl
    have h : Ro G w (.bool b) v := h
    cases h; rfl
  · rintro s rfl
    have h : Ro G w (.str s) v := h
    cases h; rfl
  · rintro rfl
    have h : Ro G w .nilp v := h
    cases h; rfl
  · rintro l o rfl
    have h : Ro G w (.ptr l o) v := h
    cases h; exact ⟨_, rfl⟩

def Cl (x : List D) (a : Array Value) : Prop := a.size = x.length ∧ ∀ j (h : j < x.length) (h' : j < a.size), Lf x[j] a[j]

theorem Cl.sub {x : List D} {a : Array Value} (h : Cl x a) {o n : Nat} (hn : o + n ≤ x.length) : Cl ((x.drop o).take n) (a.extract o (o + n)) := by
  refine ⟨by have := h.1; simp; omega, fun j hj hj' => ?_⟩
  simp only [List.length_take, List.length_drop] at hj
  simp only [List.getElem_take, List.getElem_drop, Array.getElem_extract]
  exact h.2 (o + j) (by omega) (by have := h.1; omega)

def asV (agg : Bool) (a : Array Value) : Value := if agg then .agg a else a.getD 0 undef

variable {P : Program} {w : World} {T : Nat → TI}

theorem run_part (tk : TOk P T) {t : Nat} (h : T t ≠ .other) {a : Array Value} {o : Nat} (ho : o + (T t).size ≤ a.size) : (part t a o).run P w = .ok (asV (T t).agg (a.extract o (o + (T t).size))) w := by
  unfold part
  simp only [Sem.run_bind, tk.isAgg h, Result.andThen_ok]
  cases ha : (T t).agg with
  | true => simp [tk.sizeOf h, asV]
  | false =>
    have h1 := size_one ha h
    have h2 : o < a.size := by omega
    simp [Array.getElem?_eq_getElem h2, asV, h1, Array.getD]
    intro h3
    omega

theorem eqLeafT_ok (tk : TOk P T) {ty m : Nat} {d e : D} {u v : Value} {b : Bool} (h : eqLeafT (T ty) d e = some b) (hd : Lf d u) (he : Lf e v) : (Op.equalIn (m + 1) ty u v).run P w = .ok b w := by
  have ht := tk.desc ty
  revert h
  generalize T ty = ti at ht
  intro h
  unfold eqLeafT at h
  split at h
  · rw [hd.int _ _ rfl, he.int _ _ rfl]
    split at h
    · rename_i hk
      subst hk
      cases h
      simp only [TDesc] at ht
      simp [Op.equalIn, run_underlying ht]
    · cases h
  · rw [hd.bool _ rfl, he.bool _ rfl]
    cases h
    simp only [TDesc] at ht
    simp [Op.equalIn, run_underlying ht]
  · rw [hd.str _ rfl, he.str _ rfl]
    cases h
    simp only [TDesc] at ht
    simp [Op.equalIn, run_underlying ht]
  · rw [hd.nilp rfl, he.nilp rfl]
    cases h
    obtain ⟨x, ht⟩ := ht
    simp [Op.equalIn, run_underlying ht]
  · obtain ⟨x, hx⟩ := hd.ptr _ _ rfl
    rw [hx, he.nilp rfl]
    cases h
    obtain ⟨x, ht⟩ := ht
    simp [Op.equalIn, run_underlying ht]
  · obtain ⟨x, hx⟩ := he.ptr _ _ rfl
    rw [hx, hd.nilp rfl]
    cases h
    obtain ⟨x, ht⟩ := ht
    simp [Op.equalIn, run_underlying ht]
  · cases h

theorem eqD_other {k ty : Nat} {x y : List D} {b : Bool} (h : eqD T k ty x y = some b) : T ty ≠ .other := by
  intro hT
  cases k with
  | zero => cases h
  | succ k =>
    simp only [eqD, hT] at h
    split at h
    · simp [eqLeafT] at h
    · cases h

theorem eqD_ok (tk : TOk P T) : ∀ (k m ty : Nat) (x y : List D) (b : Bool), k ≤ m → eqD T k ty x y = some b → ∀ (a c : Array Value), Cl x a → Cl y c → (Op.equalIn m ty (asV (T ty).agg a) (asV (T ty).agg c)).run P w = .ok b w
  | 0, _, _, _, _, _, _, h, _, _, _, _ => by cases h
  | _ + 1, 0, _, _, _, _, hm, _, _, _, _, _ => by omega
  | k + 1, m + 1, ty, x, y, b, hm, h, a, c, ha, hc => by
    have IH := eqD_ok tk k m
    simp only [eqD] at h
    have ht := tk.desc ty
    split at h
    · rename_i fs z hT
      rw [hT] at ht
      obtain ⟨fields, hu, ⟨hsz, hnm, hst⟩, hf⟩ := ht
      rw [hT]
      simp only [TI.agg, asV, if_true, Op.equalIn, Sem.run_bind, run_underlying hu, Result.andThen_ok, run_program, hst, Bool.false_eq_true, if_false]
      rw [← Array.forIn_toList]
      have hsz' : fields.toList.length = fs.length := by simpa using hsz
      have hf' : ∀ (k : Nat) (f : Nat × Nat × Nat), fs[k]? = some f → ∃ (fl : Field), fields.toList[k]? = some fl ∧ fl.offset = f.1 ∧ fl.type = f.2.2 := fun k f hk => by
        obtain ⟨fl, i, h1, h2, h3, _⟩ := hf k f hk
        exact ⟨fl, by simpa using h1, h2, h3⟩
      clear hf hsz hT hu
      generalize fields.toList = L at hsz' hf' hnm
      induction L generalizing fs with
      | nil =>
        cases fs with
        | nil => cases h; simp
        | cons f fs => simp at hsz'
      | cons fl L ih =>
        cases fs with
        | nil => simp at hsz'
        | cons f fs =>
          obtain ⟨off, n, ft⟩ := f
          obtain ⟨fl', e1, e2, e3⟩ := hf' 0 _ rfl
          cases e1
          replace e2 : fl.offset = off := e2
          replace e3 : fl.type = ft := e3
          simp only [eqFields] at h
          split at h
          · rename_i hb
            have hx := Cl.sub ha hb.1
            have hy := Cl.sub hc hb.2
            have hn := hnm fl (by simp)
            have next : ∀ b', eqD T k ft ((x.drop off).take (T ft).size) ((y.drop off).take (T ft).size) = some b' → _ := fun b' hb' => IH ft _ _ b' (by omega) hb' _ _ hx hy
            have go : ∀ b', eqD T k ft ((x.drop off).take (T ft).size) ((y.drop off).take (T ft).size) = some b' → (part ft a off).run P w = .ok (asV (T ft).agg (a.extract off (off + (T ft).size))) w ∧ (part ft c off).run P w = .ok (asV (T ft).agg (c.extract off (off + (T ft).size))) w := fun b' hb' => by
              have ho := eqD_other hb'
              exact ⟨run_part tk ho (by rw [ha.1]; exact hb.1), run_part tk ho (by rw [hc.1]; exact hb.2)⟩
            split at h
            · rename_i he
              obtain ⟨p1, p2⟩ := go _ he
              have p3 := next _ he
              simp only [List.forIn_cons, Sem.run_bind, hn, ne_eq, not_false_eq_true, if_true, Result.andThen_ok, e2, e3, p1, p2, p3, Sem.run_pure, Bool.not_true, Bool.false_eq_true, if_false]
              exact ih fs h (by simpa using hsz') (fun k f hk => by simpa using hf' (k + 1) f (by simpa using hk)) (fun fl h => hnm fl (by simp [h]))
            · rename_i he
              obtain ⟨p1, p2⟩ := go _ he
              have p3 := next _ he
              cases h
              simp only [List.forIn_cons, Sem.run_bind, hn, ne_eq, not_false_eq_true, if_true, Result.andThen_ok, e2, e3, p1, p2, p3, Sem.run_pure, Bool.not_false]
            · cases h
          · cases h
    · cases h
    · rename_i h1 h2
      have hna : (T ty).agg = false := by
        revert h1 h2
        cases T ty <;> simp [TI.agg]
      rw [hna]
      split at h
      · rename_i d e
        have h3 := ha.2 0 (by simp) (by rw [ha.1]; simp)
        have h4 := hc.2 0 (by simp) (by rw [hc.1]; simp)
        have e1 : a.getD 0 undef = a[0]'(by rw [ha.1]; simp) := by simp [Array.getD, ha.1]
        have e2 : c.getD 0 undef = c[0]'(by rw [hc.1]; simp) := by simp [Array.getD, hc.1]
        simp only [asV, Bool.false_eq_true, if_false, e1, e2]
        exact eqLeafT_ok tk h h3 h4
      · cases h

end Go.PI
