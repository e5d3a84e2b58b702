/- What an operation looks at alone decides what it does: steps of open regions change places. -/
import Derived.Test.YtoaadbakbfphgaaIa
namespace Go.PI
open Go

def Ag (X : List Nat) (s s2 : St) : Prop := s.tm.length = s2.tm.length ∧ ∀ t ∈ X, s.get t = s2.get t
def NB (X : List Nat) (s : St) : Prop := ∀ t ∈ X, (s.get t).nb = true

structure Only (W : List Nat) (s s' : St) : Prop where
  len : s'.tm.length = s.tm.length
  ln : s'.ln = s.ln
  bx : s'.bx = s.bx
  dirty : s'.dirty = s.dirty
  up : s'.up = s.up
  get : ∀ t, t ∉ W → s'.get t = s.get t

theorem Only.refl (W : List Nat) (s : St) : Only W s s := ⟨rfl, rfl, rfl, rfl, rfl, fun _ _ => rfl⟩
theorem Only.trans {W : List Nat} {a b c : St} (h : Only W a b) (k : Only W b c) : Only W a c :=
  ⟨k.len.trans h.len, k.ln.trans h.ln, k.bx.trans h.bx, k.dirty.trans h.dirty, k.up.trans h.up, fun t ht => (k.get t ht).trans (h.get t ht)⟩
theorem Only.mono {W V : List Nat} {a b : St} (h : Only W a b) (hv : ∀ t ∈ W, t ∈ V) : Only V a b :=
  ⟨h.len, h.ln, h.bx, h.dirty, h.up, fun t ht => h.get t fun hw => ht (hv t hw)⟩

/-- A way to a value that the slots X decide, and that changes slots of W alone. -/
def Cg {α : Type} (X W : List Nat) (F : St → Option (α × St)) : Prop :=
  ∀ s s2 d s1, Ag X s s2 → NB X s → F s = some (d, s1) → ∃ s3, F s2 = some (d, s3) ∧ Ag X s1 s3 ∧ NB X s1 ∧ Only W s s1 ∧ Only W s2 s3

theorem get_set {s : St} {x t : Nat} {v : D} (h : x < s.tm.length) : ({ s with tm := s.tm.set x v } : St).get t = if t = x then v else s.get t := by
  unfold St.get
  simp only [List.getD_eq_getElem?_getD]
  by_cases e : t = x
  · subst e; simp [h]
  · rw [List.getElem?_set_ne (fun h => e h.symm), if_neg e]

theorem get_out {s : St} {x : Nat} (h : ¬ x < s.tm.length) : s.get x = .undef := by
  simp [St.get, List.getD_eq_getElem?_getD, List.getElem?_eq_none (Nat.le_of_not_lt h)]

/-- One slot of X is written alike. -/
theorem slot_alike {X : List Nat} {s s2 : St} {x : Nat} (v : D) (ha : Ag X s s2) (hn : NB X s) (hv : v.nb = true) :
    Ag X { s with tm := s.tm.set x v } { s2 with tm := s2.tm.set x v } ∧ NB X { s with tm := s.tm.set x v } ∧ Only [x] s { s with tm := s.tm.set x v } ∧ Only [x] s2 { s2 with tm := s2.tm.set x v } := by
  have hl := ha.1
  have key : ∀ (a : St), Only [x] a { a with tm := a.tm.set x v } := fun a => ⟨by simp, rfl, rfl, rfl, rfl, fun t ht => by
    by_cases hx : x < a.tm.length
    · rw [get_set hx, if_neg (by simpa using ht)]
    · simp [List.set_eq_of_length_le (Nat.le_of_not_lt hx)]⟩
  refine ⟨⟨by simp [hl], fun t ht => ?_⟩, fun t ht => ?_, key s, key s2⟩
  · by_cases hx : x < s.tm.length
    · rw [get_set hx, get_set (by omega)]
      split
      · rfl
      · exact ha.2 t ht
    · rw [List.set_eq_of_length_le (Nat.le_of_not_lt hx), List.set_eq_of_length_le (by omega)]
      exact ha.2 t ht
  · by_cases hx : x < s.tm.length
    · rw [get_set hx]
      split
      · exact hv
      · exact hn t ht
    · rw [List.set_eq_of_length_le (Nat.le_of_not_lt hx)]
      exact hn t ht

theorem nb_setLeaf {d x : D} {j : Nat} (h : d.nb = true) (hx : x.nbl = true) (hxa : ∀ l, x ≠ .agg l) : (d.setLeaf j x).nb = true := by
  have hx2 : x.nb = true := by cases x <;> first | exact hx | exact absurd rfl (hxa _)
  cases d with
  | agg l =>
    simp only [D.setLeaf, D.nb, List.all_eq_true] at h ⊢
    intro y hy
    rcases List.mem_or_eq_of_mem_set hy with hy | rfl
    · exact h y hy
    · exact hx
  | _ => cases j <;> first | exact hx2 | exact h

theorem leaf_nbl {d : D} {j : Nat} (h : d.nb = true) : (d.leaf j).nbl = true := by
  cases d with
  | agg l =>
    simp only [D.nb, List.all_eq_true] at h
    simp only [D.leaf, List.getD_eq_getElem?_getD]
    cases e : l[j]? with
    | none => rfl
    | some y => exact h y (List.mem_of_getElem? e)
  | _ => cases j <;> first | rfl | exact h

theorem leafUse_cg (base : Nat) {X : List Nat} {x : Nat} (hx : x ∈ X) (j : Nat) {s s2 s1 : St} {d d' : D} (hd : d.nbl = true) (ha : Ag X s s2) (hn : NB X s) (h : leafUse base s (some (.s x j)) d = some (d', s1)) :
    ∃ s3, leafUse base s2 (some (.s x j)) d = some (d', s3) ∧ Ag X s1 s3 ∧ NB X s1 ∧ Only [x] s s1 ∧ Only [x] s2 s3 := by
  have hat : s.at (.s x j) = s2.at (.s x j) := by simp only [St.at, ha.2 x hx]
  cases d with
  | sl f n l =>
    simp only [leafUse] at h ⊢
    rw [← hat]
    split at h
    · rename_i f' n' l' e
      simp only [Option.some.injEq, Prod.mk.injEq] at h
      obtain ⟨rfl, rfl⟩ := h
      by_cases hf : f' = 2
      · subst hf
        have hat2 := hat.symm.trans e
        simp only [if_true, St.down, e, hat2, St.put]
        rw [← ha.2 x hx]
        exact ⟨_, rfl, slot_alike _ ha hn (nb_setLeaf (hn x hx) rfl (by simp))⟩
      · simp only [if_neg hf]
        exact ⟨_, rfl, ha, hn, .refl _ _, .refl _ _⟩
    · cases h
  | bor q => cases hd
  | ea p n i off => cases hd
  | undef => cases h
  | rp l => cases h
  | agg l => cases h
  | tup l => cases h
  | _ =>
    simp only [leafUse, Option.some.injEq, Prod.mk.injEq] at h ⊢
    obtain ⟨rfl, rfl⟩ := h
    exact ⟨s2, ⟨rfl, rfl⟩, ha, hn, .refl _ _, .refl _ _⟩

theorem leafTake_cg (base : Nat) {X : List Nat} {x : Nat} (hx : x ∈ X) (j : Nat) {s s2 s1 : St} {d d' : D} (hd : d.nbl = true) (ha : Ag X s s2) (hn : NB X s) (h : leafTake base s (some (.s x j)) d = some (d', s1)) :
    ∃ s3, leafTake base s2 (some (.s x j)) d = some (d', s3) ∧ Ag X s1 s3 ∧ NB X s1 ∧ Only [x] s s1 ∧ Only [x] s2 s3 := by
  have hat : s.at (.s x j) = s2.at (.s x j) := by simp only [St.at, ha.2 x hx]
  cases d with
  | sl f n l =>
    simp only [leafTake] at h ⊢
    rw [← hat]
    split at h
    · rename_i f' n' l' e
      simp only [Option.some.injEq, Prod.mk.injEq] at h
      obtain ⟨rfl, rfl⟩ := h
      by_cases hf : f' = 0
      · simp only [if_pos hf]
        exact ⟨_, rfl, ha, hn, .refl _ _, .refl _ _⟩
      · have hat2 := hat.symm.trans e
        simp only [if_neg hf, St.undo, e, hat2, St.put]
        rw [← ha.2 x hx]
        exact ⟨_, rfl, slot_alike _ ha hn (nb_setLeaf (hn x hx) rfl (by simp))⟩
    · cases h
  | bor q => cases hd
  | ea p n i off => cases hd
  | undef => cases h
  | rp l => cases h
  | agg l => cases h
  | tup l => cases h
  | _ =>
    simp only [leafTake, Option.some.injEq, Prod.mk.injEq] at h ⊢
    obtain ⟨rfl, rfl⟩ := h
    exact ⟨s2, ⟨rfl, rfl⟩, ha, hn, .refl _ _, .refl _ _⟩

theorem leavesUse_cg (base : Nat) {X : List Nat} {x : Nat} (hx : x ∈ X) : ∀ (l : List D) (j : Nat) {s s2 s1 : St} {l' : List D}, (∀ d ∈ l, d.nbl = true) → Ag X s s2 → NB X s → leavesUse base (fun j => some (.s x j)) j s l = some (l', s1) →
    ∃ s3, leavesUse base (fun j => some (.s x j)) j s2 l = some (l', s3) ∧ Ag X s1 s3 ∧ NB X s1 ∧ Only [x] s s1 ∧ Only [x] s2 s3
  | [], j, s, s2, s1, l', _, ha, hn, h => by
    simp only [leavesUse, Option.some.injEq, Prod.mk.injEq] at h ⊢
    obtain ⟨rfl, rfl⟩ := h
    exact ⟨s2, ⟨rfl, rfl⟩, ha, hn, .refl _ _, .refl _ _⟩
  | d :: r, j, s, s2, s1, l', hd, ha, hn, h => by
    simp only [leavesUse] at h ⊢
    split at h
    · rename_i y a e1
      split at h
      · rename_i z b e2
        simp only [Option.some.injEq, Prod.mk.injEq] at h
        obtain ⟨rfl, rfl⟩ := h
        obtain ⟨c, f1, f2, f3, f4, f5⟩ := leafUse_cg base hx j (hd d (by simp)) ha hn e1
        obtain ⟨c', g1, g2, g3, g4, g5⟩ := leavesUse_cg base hx r (j + 1) (fun d h => hd d (by simp [h])) f2 f3 e2
        simp only [f1, g1]
        exact ⟨c', rfl, g2, g3, f4.trans g4, f5.trans g5⟩
      · cases h
    · cases h

theorem leavesTake_cg (base : Nat) {X : List Nat} {x : Nat} (hx : x ∈ X) : ∀ (l : List D) (j : Nat) {s s2 s1 : St} {l' : List D}, (∀ d ∈ l, d.nbl = true) → Ag X s s2 → NB X s → leavesTake base (fun j => some (.s x j)) j s l = some (l', s1) →
    ∃ s3, leavesTake base (fun j => some (.s x j)) j s2 l = some (l', s3) ∧ Ag X s1 s3 ∧ NB X s1 ∧ Only [x] s s1 ∧ Only [x] s2 s3
  | [], j, s, s2, s1, l', _, ha, hn, h => by
    simp only [leavesTake, Option.some.injEq, Prod.mk.injEq] at h ⊢
    obtain ⟨rfl, rfl⟩ := h
    exact ⟨s2, ⟨rfl, rfl⟩, ha, hn, .refl _ _, .refl _ _⟩
  | d :: r, j, s, s2, s1, l', hd, ha, hn, h => by
    simp only [leavesTake] at h ⊢
    split at h
    · rename_i y a e1
      split at h
      · rename_i z b e2
        simp only [Option.some.injEq, Prod.mk.injEq] at h
        obtain ⟨rfl, rfl⟩ := h
        obtain ⟨c, f1, f2, f3, f4, f5⟩ := leafTake_cg base hx j (hd d (by simp)) ha hn e1
        obtain ⟨c', g1, g2, g3, g4, g5⟩ := leavesTake_cg base hx r (j + 1) (fun d h => hd d (by simp [h])) f2 f3 e2
        simp only [f1, g1]
        exact ⟨c', rfl, g2, g3, f4.trans g4, f5.trans g5⟩
      · cases h
    · cases h

theorem leafUse_none (base : Nat) {s s2 s1 : St} {d d' : D} (hd : d.nbl = true) (h : leafUse base s none d = some (d', s1)) : s1 = s ∧ leafUse base s2 none d = some (d', s2) := by
  cases d <;> first | (cases hd; done) | (cases h; done) | (simp only [leafUse, Option.some.injEq, Prod.mk.injEq] at h ⊢; obtain ⟨rfl, rfl⟩ := h; simp)

theorem leafTake_none (base : Nat) {s s2 s1 : St} {d d' : D} (hd : d.nbl = true) (h : leafTake base s none d = some (d', s1)) : s1 = s ∧ leafTake base s2 none d = some (d', s2) := by
  cases d <;> first | (cases hd; done) | (cases h; done) | (simp only [leafTake, Option.some.injEq, Prod.mk.injEq] at h ⊢; obtain ⟨rfl, rfl⟩ := h; simp)

theorem constD_plain (T : Nat → TI) (ty : Nat) (v : Value) : (constD T ty v).nbl = true ∧ ∀ l, constD T ty v ≠ .agg l := by
  unfold constD
  split <;> first | exact ⟨rfl, by simp⟩ | (split <;> exact ⟨rfl, by simp⟩)

theorem useD_flat (base : Nat) (s : St) {v : D} (t : Nat) (h : ∀ l, v ≠ .agg l) : useD base s (some t) v = leafUse base s (some (.s t 0)) v := by
  cases v <;> first | rfl | exact absurd rfl (h _)

theorem takeD_flat (base : Nat) (s : St) {v : D} (t : Nat) (h : ∀ l, v ≠ .agg l) : takeD base s (some t) v = leafTake base s (some (.s t 0)) v := by
  cases v <;> first | rfl | exact absurd rfl (h _)

theorem use_cg (base : Nat) (T : Nat → TI) (ty : Nat) (x : Operand) {X W : List Nat} (hx : ∀ t, tmpOf x = some t → t ∈ X ∧ t ∈ W) : Cg X W fun s => s.use base T ty x := by
  intro s s2 d s1 ha hn h
  have flat : ∀ (c : D), (∀ l, c ≠ .agg l) → c.nbl = true → (∀ l, constD T ty (.bool true) ≠ .agg l) → leafUse base s none c = some (d, s1) → ∃ s3, leafUse base s2 none c = some (d, s3) ∧ Ag X s1 s3 ∧ NB X s1 ∧ Only W s s1 ∧ Only W s2 s3 := by
    intro c _ hc _ h
    obtain ⟨rfl, h2⟩ := leafUse_none (s2 := s2) base hc h
    exact ⟨s2, h2, ha, hn, .refl _ _, .refl _ _⟩
  cases x with
  | tmp t =>
    obtain ⟨h1, h2⟩ := hx t rfl
    have hs := ha.2 t h1
    have hb := hn t h1
    simp only [St.use, St.raw, tmpOf] at h ⊢
    rw [← hs]
    generalize s.get t = v at h hb
    cases v with
    | agg l =>
      simp only [useD, Option.map_eq_some_iff, Option.map_some] at h ⊢
      obtain ⟨⟨l', a⟩, e, e2⟩ := h
      simp only [Prod.mk.injEq] at e2
      obtain ⟨rfl, rfl⟩ := e2
      obtain ⟨s3, f1, f2, f3, f4, f5⟩ := leavesUse_cg base h1 l 0 (by simpa [D.nb] using hb) ha hn e
      exact ⟨s3, ⟨(l', s3), f1, rfl⟩, f2, f3, f4.mono (by simpa using h2), f5.mono (by simpa using h2)⟩
    | _ =>
      rw [useD_flat _ _ _ (by simp)] at h
      rw [useD_flat _ _ _ (by simp)]
      obtain ⟨s3, f1, f2, f3, f4, f5⟩ := leafUse_cg base h1 0 (by simpa [D.nb] using hb) ha hn h
      exact ⟨s3, f1, f2, f3, f4.mono (by simpa using h2), f5.mono (by simpa using h2)⟩
  | const v =>
    simp only [St.use, St.raw, tmpOf] at h ⊢
    obtain ⟨hc, hl⟩ := constD_plain T ty v
    generalize constD T ty v = c at h hc hl
    cases c <;> first | exact absurd rfl (hl _) | exact flat _ (by simp) hc (by simp [constD]) h
  | func f => exact flat (.fn (.func f) [] []) (by simp) rfl (by simp [constD]) h
  | global g => cases h

theorem take_cg (base : Nat) (T : Nat → TI) (ty : Nat) (x : Operand) {X W : List Nat} (hx : ∀ t, tmpOf x = some t → t ∈ X ∧ t ∈ W) : Cg X W fun s => s.take base T ty x := by
  intro s s2 d s1 ha hn h
  have flat : ∀ (c : D), c.nbl = true → leafTake base s none c = some (d, s1) → ∃ s3, leafTake base s2 none c = some (d, s3) ∧ Ag X s1 s3 ∧ NB X s1 ∧ Only W s s1 ∧ Only W s2 s3 := by
    intro c hc h
    obtain ⟨rfl, h2⟩ := leafTake_none (s2 := s2) base hc h
    exact ⟨s2, h2, ha, hn, .refl _ _, .refl _ _⟩
  cases x with
  | tmp t =>
    obtain ⟨h1, h2⟩ := hx t rfl
    have hs := ha.2 t h1
    have hb := hn t h1
    simp only [St.take, St.raw, tmpOf] at h ⊢
    rw [← hs]
    generalize s.get t = v at h hb
    cases v with
    | agg l =>
      simp only [takeD, Option.map_eq_some_iff, Option.map_some] at h ⊢
      obtain ⟨⟨l', a⟩, e, e2⟩ := h
      simp only [Prod.mk.injEq] at e2
      obtain ⟨rfl, rfl⟩ := e2
      obtain ⟨s3, f1, f2, f3, f4, f5⟩ := leavesTake_cg base h1 l 0 (by simpa [D.nb] using hb) ha hn e
      exact ⟨s3, ⟨(l', s3), f1, rfl⟩, f2, f3, f4.mono (by simpa using h2), f5.mono (by simpa using h2)⟩
    | _ =>
      rw [takeD_flat _ _ _ (by simp)] at h
      rw [takeD_flat _ _ _ (by simp)]
      obtain ⟨s3, f1, f2, f3, f4, f5⟩ := leafTake_cg base h1 0 (by simpa [D.nb] using hb) ha hn h
      exact ⟨s3, f1, f2, f3, f4.mono (by simpa using h2), f5.mono (by simpa using h2)⟩
  | const v =>
    simp only [St.take, St.raw, tmpOf] at h ⊢
    obtain ⟨hc, hl⟩ := constD_plain T ty v
    generalize constD T ty v = c at h hc hl
    cases c <;> first | exact absurd rfl (hl _) | exact flat _ hc h
  | func f => exact flat (.fn (.func f) [] []) rfl h
  | global g => cases h

theorem tmpsL_cons {x : Operand} {r : List Operand} {t : Nat} : t ∈ tmpsL (x :: r) ↔ tmpOf x = some t ∨ t ∈ tmpsL r := by
  simp only [tmpsL, List.filterMap_cons]
  cases tmpOf x with
  | none => simp
  | some u => simp [eq_comm]

theorem uses_cg (base : Nat) (T : Nat → TI) : ∀ (xs : List (Operand × Nat)) {X W : List Nat}, (∀ t ∈ tmpsL (xs.map (·.1)), t ∈ X ∧ t ∈ W) → Cg X W fun s => s.uses base T xs
  | [], X, W, _ => by
    intro s s2 d s1 ha hn h
    simp only [St.uses, Option.some.injEq, Prod.mk.injEq] at h ⊢
    obtain ⟨rfl, rfl⟩ := h
    exact ⟨s2, ⟨rfl, rfl⟩, ha, hn, .refl _ _, .refl _ _⟩
  | (x, ty) :: r, X, W, hx => by
    intro s s2 d s1 ha hn h
    simp only [St.uses] at h ⊢
    split at h
    · cases h
    · rename_i a b e1
      split at h
      · cases h
      · rename_i a' b' e2
        simp only [Option.some.injEq, Prod.mk.injEq] at h
        obtain ⟨rfl, rfl⟩ := h
        obtain ⟨c, f1, f2, f3, f4, f5⟩ := use_cg (X := X) (W := W) base T ty x (fun t ht => hx t (tmpsL_cons.mpr (.inl ht))) s s2 _ _ ha hn e1
        obtain ⟨c', g1, g2, g3, g4, g5⟩ := uses_cg base T r (X := X) (W := W) (fun t ht => hx t (tmpsL_cons.mpr (.inr ht))) _ _ _ _ f2 f3 e2
        simp only [f1, g1]
        exact ⟨c', rfl, g2, g3, f4.trans g4, f5.trans g5⟩

theorem takes_cg (base : Nat) (T : Nat → TI) : ∀ (xs : List (Operand × Nat)) {X W : List Nat}, (∀ t ∈ tmpsL (xs.map (·.1)), t ∈ X ∧ t ∈ W) → Cg X W fun s => s.takes base T xs
  | [], X, W, _ => by
    intro s s2 d s1 ha hn h
    simp only [St.takes, Option.some.injEq, Prod.mk.injEq] at h ⊢
    obtain ⟨rfl, rfl⟩ := h
    exact ⟨s2, ⟨rfl, rfl⟩, ha, hn, .refl _ _, .refl _ _⟩
  | (x, ty) :: r, X, W, hx => by
    intro s s2 d s1 ha hn h
    simp only [St.takes] at h ⊢
    split at h
    · cases h
    · rename_i a b e1
      split at h
      · cases h
      · rename_i a' b' e2
        simp only [Option.some.injEq, Prod.mk.injEq] at h
        obtain ⟨rfl, rfl⟩ := h
        obtain ⟨c, f1, f2, f3, f4, f5⟩ := take_cg (X := X) (W := W) base T ty x (fun t ht => hx t (tmpsL_cons.mpr (.inl ht))) s s2 _ _ ha hn e1
        obtain ⟨c', g1, g2, g3, g4, g5⟩ := takes_cg base T r (X := X) (W := W) (fun t ht => hx t (tmpsL_cons.mpr (.inr ht))) _ _ _ _ f2 f3 e2
        simp only [f1, g1]
        exact ⟨c', rfl, g2, g3, f4.trans g4, f5.trans g5⟩

theorem see_cg (T : Nat → TI) (ty : Nat) (x : Operand) {X : List Nat} {s s2 : St} (hx : ∀ t, tmpOf x = some t → t ∈ X) (ha : Ag X s s2) (hn : NB X s) : s2.see T ty x = s.see T ty x ∧ s2.raw T ty x = s.raw T ty x ∧ ∀ p, s.raw T ty x ≠ .bor p := by
  cases x with
  | tmp t =>
    have h := ha.2 t (hx t rfl)
    have hb := hn t (hx t rfl)
    simp only [St.see, St.raw, ← h]
    generalize s.get t = v at hb
    cases v <;> first | (cases hb; done) | simp
  | const v =>
    obtain ⟨hc, hl⟩ := constD_plain T ty v
    simp only [St.see, St.raw]
    generalize constD T ty v = c at hc
    cases c <;> first | (cases hc; done) | simp
  | func f => exact ⟨rfl, rfl, by simp [St.raw]⟩
  | global g => exact ⟨rfl, rfl, by simp [St.raw]⟩

def MemLe (s s2 : St) : Prop := ∀ loc, s.box loc ≠ [] → s2.box loc = s.box loc
def MemEq (s s2 : St) : Prop := s2.bx = s.bx ∧ s2.dirty = s.dirty ∧ s2.up = s.up

variable {C : CallT} {T : Nat → TI} {base : Nat} {ds : List Nat} {o : Oper} {s s2 s1 : St} {d : D} {ps : List Pl}

/-- What is to be shown of an operation's value. -/
def Vg (C : CallT) (T : Nat → TI) (base : Nat) (ds : List Nat) (o : Oper) (s s2 s1 : St) (d : D) (ps : List Pl) : Prop :=
  ∃ s3, opV C T base ds o s2 = some (d, ps, s3) ∧ (∀ t ∈ opRd o.op, s1.get t = s3.get t) ∧ Only (opWr ds o.op) s s1 ∧ Only (opWr ds o.op) s2 s3

/-- Operations that look alone. -/
theorem vg_look (ha : Ag (opRd o.op) s s2) (h : opV C T base ds o s = some (d, ps, s1)) (e : s1 = s) (e2 : opV C T base ds o s2 = some (d, ps, s2)) : Vg C T base ds o s s2 s1 d ps := by
  subst e
  exact ⟨s2, e2, ha.2, .refl _ _, .refl _ _⟩

theorem vg_of {X W : List Nat} (hX : opRd o.op = X) (hW : opWr ds o.op = W) (h : ∃ s3, opV C T base ds o s2 = some (d, ps, s3) ∧ Ag X s1 s3 ∧ NB X s1 ∧ Only W s s1 ∧ Only W s2 s3) : Vg C T base ds o s s2 s1 d ps := by
  subst hX hW
  obtain ⟨s3, h1, h2, _, h4, h5⟩ := h
  exact ⟨s3, h1, h2.2, h4, h5⟩

theorem Cg.plain {X W : List Nat} {F : St → Option (D × St)} (hF : Cg X W F) (ha : Ag X s s2) (hn : NB X s) (h : (F s).map (fun (d, s) => (d, ([] : List Pl), s)) = some (d, ps, s1)) :
    ∃ s3, (F s2).map (fun (d, s) => (d, ([] : List Pl), s)) = some (d, ps, s3) ∧ Ag X s1 s3 ∧ NB X s1 ∧ Only W s s1 ∧ Only W s2 s3 := by
  simp only [Option.map_eq_some_iff, Prod.mk.injEq] at h ⊢
  obtain ⟨⟨d', a⟩, e, rfl, rfl, rfl⟩ := h
  obtain ⟨s3, f1, f2, f3, f4, f5⟩ := hF s s2 _ _ ha hn e
  exact ⟨s3, ⟨(d', s3), f1, rfl, rfl, rfl⟩, f2, f3, f4, f5⟩

theorem vg_move {x : Operand} (ho : o.op = .move x) (ha : Ag (opRd o.op) s s2) (hn : NB (opRd o.op) s) (h : opV C T base ds o s = some (d, ps, s1)) : Vg C T base ds o s s2 s1 d ps := by
  have hr : opRd o.op = tmpsL [x] := by rw [ho]; rfl
  have hw : opWr ds o.op = (tmpsL [x]).filter fun t => ds.contains t := by rw [ho]; rfl
  have h0 := h
  have ha0 := ha
  rw [hr] at ha hn
  have tk : (∀ t, tmpOf x = some t → ds.contains t = true) → Cg (tmpsL [x]) ((tmpsL [x]).filter fun t => ds.contains t) fun s => s.take base T o.type x := fun hd =>
    take_cg base T o.type x fun t ht => ⟨tmpsL_cons.mpr (.inl ht), List.mem_filter.mpr ⟨tmpsL_cons.mpr (.inl ht), hd t ht⟩⟩
  unfold opV at h
  simp only [ho] at h
  cases x with
  | tmp t =>
    have hg := ha.2 t (tmpsL_cons.mpr (.inl rfl))
    cases hds : ds.contains t <;> cases ht' : (s.get t).isTup <;> simp only [hds, ht'] at h
    · simp only [Option.some.injEq, Prod.mk.injEq] at h
      obtain ⟨rfl, rfl, rfl⟩ := h
      refine vg_look ha0 h0 rfl ?_
      unfold opV
      simp only [ho, hds, ← hg, ht']
    · cases h
    · refine vg_of hr hw ?_
      unfold opV
      simp only [ho, hds, ← hg, ht']
      exact (tk fun u hu => by cases hu; exact hds).plain ha hn h
    · rename_i l
      simp only [Option.some.injEq, Prod.mk.injEq] at h
      obtain ⟨rfl, rfl, rfl⟩ := h
      refine vg_of hr hw ?_
      unfold opV
      simp only [ho, hds, ← hg, ht', Option.some.injEq, Prod.mk.injEq, true_and, exists_eq_left']
      obtain ⟨g1, g2, g3, g4⟩ := slot_alike (x := t) .undef ha hn rfl
      have hin : ∀ u ∈ [t], u ∈ (tmpsL [Operand.tmp t]).filter fun t => ds.contains t := by
        intro u hu
        simp only [List.mem_singleton] at hu
        subst hu
        exact List.mem_filter.mpr ⟨tmpsL_cons.mpr (.inl rfl), hds⟩
      exact ⟨g1, g2, g3.mono hin, g4.mono hin⟩
  | const v =>
    refine vg_of hr hw ?_
    unfold opV
    simp only [ho]
    exact (tk fun u hu => by cases hu).plain ha hn h
  | func f =>
    refine vg_of hr hw ?_
    unfold opV
    simp only [ho]
    exact (tk fun u hu => by cases hu).plain ha hn h
  | global g =>
    refine vg_of hr hw ?_
    unfold opV
    simp only [ho]
    exact (tk fun u hu => by cases hu).plain ha hn h

theorem vg_assign {x : Operand} (ho : o.op = .assign x) (ha : Ag (opRd o.op) s s2) (hn : NB (opRd o.op) s) (h : opV C T base ds o s = some (d, ps, s1)) : Vg C T base ds o s s2 s1 d ps := by
  have hr : opRd o.op = tmpsL [x] := by rw [ho]; rfl
  have hw : opWr ds o.op = tmpsL [x] := by rw [ho]; rfl
  rw [hr] at ha hn
  have hx : ∀ t, tmpOf x = some t → t ∈ tmpsL [x] ∧ t ∈ tmpsL [x] := fun t ht => ⟨tmpsL_cons.mpr (.inl ht), tmpsL_cons.mpr (.inl ht)⟩
  refine vg_of hr hw ?_
  unfold opV at h ⊢
  simp only [ho] at h ⊢
  cases x with
  | tmp t =>
    have hg := ha.2 t (hx t rfl).1
    simp only [← hg]
    cases hb : (ds.contains t && !(s.get t).isBor) <;> simp only [hb] at h ⊢
    · exact (use_cg base T o.type (.tmp t) hx).plain ha hn h
    · exact (take_cg base T o.type (.tmp t) hx).plain ha hn h
  | const v => exact (take_cg base T o.type _ hx).plain ha hn h
  | func f => exact (take_cg base T o.type _ hx).plain ha hn h
  | global g => exact (take_cg base T o.type _ hx).plain ha hn h

theorem mem_opRd_one {x : Operand} (hr : opRd o.op = tmpsL [x]) : ∀ t, tmpOf x = some t → t ∈ opRd o.op := fun t ht => by rw [hr]; exact tmpsL_cons.mpr (.inl ht)

theorem vg_nilCheck {x : Operand} (ho : o.op = .nilCheck x) (ha : Ag (opRd o.op) s s2) (hn : NB (opRd o.op) s) (h : opV C T base ds o s = some (d, ps, s1)) : Vg C T base ds o s s2 s1 d ps := by
  obtain ⟨e1, e2, e3⟩ := see_cg T 0 x (mem_opRd_one (by rw [ho]; rfl)) ha hn
  have h0 := h
  unfold opV at h
  simp only [ho] at h
  split at h
  · rename_i loc off hs
    simp only [Option.some.injEq, Prod.mk.injEq] at h
    obtain ⟨rfl, rfl, rfl⟩ := h
    refine vg_look ha h0 rfl ?_
    unfold opV
    simp only [ho, e1, hs]
  · cases h

theorem vg_unOp {x : Operand} {op : UnOp} {ty : Nat} (ho : o.op = .unOp op ty x) (ha : Ag (opRd o.op) s s2) (hn : NB (opRd o.op) s) (h : opV C T base ds o s = some (d, ps, s1)) : Vg C T base ds o s s2 s1 d ps := by
  obtain ⟨e1, e2, e3⟩ := see_cg T ty x (mem_opRd_one (by rw [ho]; rfl)) ha hn
  have h0 := h
  unfold opV at h
  simp only [ho, Option.map_eq_some_iff, Prod.mk.injEq] at h
  obtain ⟨a, h1, rfl, rfl, rfl⟩ := h
  refine vg_look ha h0 rfl ?_
  unfold opV
  simp only [ho, e1, h1, Option.map_some]

theorem vg_convert {x : Operand} {a b : Nat} (ho : o.op = .convert a b x) (ha : Ag (opRd o.op) s s2) (hn : NB (opRd o.op) s) (h : opV C T base ds o s = some (d, ps, s1)) : Vg C T base ds o s s2 s1 d ps := by
  obtain ⟨e1, e2, e3⟩ := see_cg T a x (mem_opRd_one (by rw [ho]; rfl)) ha hn
  have h0 := h
  unfold opV at h
  simp only [ho, Option.map_eq_some_iff, Prod.mk.injEq] at h
  obtain ⟨a', h1, rfl, rfl, rfl⟩ := h
  refine vg_look ha h0 rfl ?_
  unfold opV
  simp only [ho, e1, h1, Option.map_some]

theorem vg_binOp {x y : Operand} {op : BinOp} {a b : Nat} (ho : o.op = .binOp op a x y b) (ha : Ag (opRd o.op) s s2) (hn : NB (opRd o.op) s) (h : opV C T base ds o s = some (d, ps, s1)) : Vg C T base ds o s s2 s1 d ps := by
  obtain ⟨e1, _, _⟩ := see_cg T a x (fun t ht => by rw [ho]; exact tmpsL_cons.mpr (.inl ht)) ha hn
  obtain ⟨e2, _, _⟩ := see_cg T a y (fun t ht => by rw [ho]; exact tmpsL_cons.mpr (.inr (tmpsL_cons.mpr (.inl ht)))) ha hn
  have h0 := h
  unfold opV at h
  simp only [ho, Option.map_eq_some_iff, Prod.mk.injEq] at h
  obtain ⟨a', h1, rfl, rfl, rfl⟩ := h
  refine vg_look ha h0 rfl ?_
  unfold opV
  simp only [ho, e1, e2, h1, Option.map_some]

theorem vg_fieldAddr {x : Operand} {a b : Nat} (ho : o.op = .fieldAddr a x b) (ha : Ag (opRd o.op) s s2) (hn : NB (opRd o.op) s) (h : opV C T base ds o s = some (d, ps, s1)) : Vg C T base ds o s s2 s1 d ps := by
  obtain ⟨e1, e2, e3⟩ := see_cg T 0 x (mem_opRd_one (by rw [ho]; rfl)) ha hn
  have key : opV C T base ds o s2 = (opV C T base ds o s).map fun (d, ps, _) => (d, ps, s2) := by
    unfold opV
    simp only [ho, e1]
    split
    · split
      · split
        · rfl
        · split <;> rfl
      · rfl
    · rfl
  have e : s1 = s := by
    unfold opV at h
    simp only [ho] at h
    split at h
    · split at h
      · split at h
        · cases h
        · split at h <;> cases h <;> rfl
      · cases h
    · cases h
  exact vg_look ha h e (by rw [key, h]; rfl)

theorem vg_index {x y : Operand} {a : Nat} (ho : o.op = .index a x y) (ha : Ag (opRd o.op) s s2) (hn : NB (opRd o.op) s) (h : opV C T base ds o s = some (d, ps, s1)) : Vg C T base ds o s s2 s1 d ps := by
  obtain ⟨e1, _, _⟩ := see_cg T a x (fun t ht => by rw [ho]; exact tmpsL_cons.mpr (.inl ht)) ha hn
  obtain ⟨e2, _, _⟩ := see_cg T 3 y (fun t ht => by rw [ho]; exact tmpsL_cons.mpr (.inr (tmpsL_cons.mpr (.inl ht)))) ha hn
  have key : opV C T base ds o s2 = (opV C T base ds o s).map fun (d, ps, _) => (d, ps, s2) := by
    unfold opV
    simp only [ho, e1, e2]
    split
    · split <;> rfl
    · rfl
  have e : s1 = s := by
    unfold opV at h
    simp only [ho] at h
    split at h
    · split at h <;> cases h
      rfl
    · cases h
  exact vg_look ha h e (by rw [key, h]; rfl)

theorem vg_indexAddr {x y : Operand} {a : Nat} (ho : o.op = .indexAddr a x y) (ha : Ag (opRd o.op) s s2) (hn : NB (opRd o.op) s) (h : opV C T base ds o s = some (d, ps, s1)) : Vg C T base ds o s s2 s1 d ps := by
  obtain ⟨e1, e4, e5⟩ := see_cg T a x (fun t ht => by rw [ho]; exact tmpsL_cons.mpr (.inl ht)) ha hn
  obtain ⟨e6, _, _⟩ := see_cg T 0 x (fun t ht => by rw [ho]; exact tmpsL_cons.mpr (.inl ht)) ha hn
  obtain ⟨e2, _, _⟩ := see_cg T 3 y (fun t ht => by rw [ho]; exact tmpsL_cons.mpr (.inr (tmpsL_cons.mpr (.inl ht)))) ha hn
  have key : opV C T base ds o s2 = (opV C T base ds o s).map fun (d, ps, _) => (d, ps, s2) := by
    unfold opV
    simp only [ho, e4, e2, e6]
    split
    · split
      · rename_i p hp
        exact absurd hp (e5 p)
      · split
        · split
          · split <;> rfl
          · rfl
        · rfl
      · rfl
    · split
      · split <;> rfl
      · rfl
    · rfl
  have e : s1 = s := by
    unfold opV at h
    simp only [ho] at h
    split at h
    · split at h
      · rename_i p hp
        exact absurd hp (e5 p)
      · split at h
        · split at h
          · split at h <;> cases h <;> rfl
          · cases h
        · cases h
      · cases h
    · split at h
      · split at h <;> cases h <;> rfl
      · cases h
    · cases h
  exact vg_look ha h e (by rw [key, h]; rfl)

theorem vg_load {x : Operand} {a : Nat} (ho : o.op = .load a x) (hm : ∀ loc off, s.see T a x = .ptr loc off → s.box loc ≠ [] → s2.box loc = s.box loc) (ha : Ag (opRd o.op) s s2) (hn : NB (opRd o.op) s) (h : opV C T base ds o s = some (d, ps, s1)) : Vg C T base ds o s s2 s1 d ps := by
  obtain ⟨e1, e2, e3⟩ := see_cg T a x (mem_opRd_one (by rw [ho]; rfl)) ha hn
  have h0 := h
  unfold opV at h
  simp only [ho] at h
  split at h
  · rename_i loc off hs
    split at h
    · rename_i hc
      have hne : s.box loc ≠ [] := by
        intro e
        rw [e] at hc
        simp at hc
        omega
      simp only [Option.some.injEq, Prod.mk.injEq] at h
      obtain ⟨rfl, rfl, rfl⟩ := h
      refine vg_look ha h0 rfl ?_
      unfold opV
      simp only [ho, e1, hs, hm loc off hs hne, hc, and_self, if_true]
    · cases h
  · rename_i l hs
    split at h
    · rename_i hc
      simp only [Option.some.injEq, Prod.mk.injEq] at h
      obtain ⟨rfl, rfl, rfl⟩ := h
      refine vg_look ha h0 rfl ?_
      unfold opV
      simp only [ho, e1, hs, hc, and_self, if_true]
    · cases h
  · rename_i p n i off hs
    exfalso
    cases x with
    | tmp t =>
      have hb := hn t (by rw [ho]; exact tmpsL_cons.mpr (.inl rfl))
      simp only [St.see, St.raw] at hs
      revert hs hb
      cases s.get t <;> simp [D.nb, D.nbl]
    | const v =>
      obtain ⟨hc, hl⟩ := constD_plain T a v
      simp only [St.see, St.raw] at hs
      revert hs hc
      cases constD T a v <;> simp [D.nbl]
    | func f => cases hs
    | global g => cases hs
  · cases h

end Go.PI
