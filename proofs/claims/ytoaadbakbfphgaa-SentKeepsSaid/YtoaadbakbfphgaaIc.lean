/- How what is told of values is carried from one world to the next, and from one place to another. -/
import Derived.Test.YtoaadbakbfphgaaIb
namespace Go.PI
open Go

/-- From (G, w) to (G', w'): nothing that was there is lost. -/
structure Step (G : Gh) (w : World) (G' : Gh) (w' : World) : Prop where
  evo : Evo 0 G w G' w'
  bl : ∀ (loc b : Nat), G.bl[loc]? = some (some b) → G'.bl[loc]? = some (some b)

theorem Step.keeps {G G' : Gh} {w w' : World} (h : Step G w G' w') : Keeps G w G' w' := ⟨fun _ _ _ hc hf => h.evo.cell hc hf, h.bl⟩

/-- What key κ owned, κ' owns now, as it was. -/
def Moves (G : Gh) (w : World) (G' : Gh) (w' : World) (κ κ' : Key) : Prop :=
  ∀ b, b < w.heap.size → (G.pm b = .ex κ → G'.pm b = .ex κ' ∧ w'.heap[b]? = w.heap[b]?) ∧ (∀ m, G.pm b = .tip m κ → G'.pm b = .tip m κ' ∧ w'.heap[b]? = w.heap[b]?)

theorem Row.stepK {G G' : Gh} {w w' : World} (h : Keeps G w G' w') {n : Nat} {l : List (List D)} {b o : Nat} (hw : w'.heap[b]? = w.heap[b]?) (r : Row G w n l b o) : Row G' w' n l b o := by
  obtain ⟨hn, vs, hc, hv⟩ := r
  exact ⟨hn, vs, fun i j hi hj => by rw [cell_of_heap hw]; exact hc i j hi hj, fun i j hi hj => (hv i j hi hj).keep h⟩

theorem Whole.same {w w' : World} {b n : Nat} (hw : w'.heap[b]? = w.heap[b]?) (h : Whole w b n) : Whole w' b n := by
  obtain ⟨cs, ty, fz, h1, h2, h3⟩ := h
  exact ⟨cs, ty, fz, by rw [hw]; exact h1, h2, fun i hi => by rw [frozen_of_heap hw]; exact h3 i hi⟩

theorem Whole.lt {w : World} {b n : Nat} (h : Whole w b n) : b < w.heap.size := by
  obtain ⟨cs, ty, fz, h1, _⟩ := h
  exact (Array.getElem?_eq_some_iff.mp h1).1

/-- A row whose cells all stay. -/
theorem Row.fixedK {G G' : Gh} {w w' : World} (h : Keeps G w G' w') {n : Nat} {l : List (List D)} {b o : Nat} (hf : ∀ i, i < l.length * n → G.fz b (o + i)) (r : Row G w n l b o) :
    Row G' w' n l b o ∧ ∀ i, i < l.length * n → G'.fz b (o + i) := by
  obtain ⟨hn, vs, hc, hv⟩ := r
  have key : ∀ i j, i < l.length → j < n → i * n + j < l.length * n := fun i j hi hj => by
    have : (i + 1) * n ≤ l.length * n := Nat.mul_le_mul_right n hi
    rw [Nat.add_mul, Nat.one_mul] at this
    omega
  refine ⟨⟨hn, vs, fun i j hi hj => ?_, fun i j hi hj => (hv i j hi hj).keep h⟩, fun i hi => ?_⟩
  · have := h.cell _ _ _ (hc i j hi hj) (by rw [Nat.add_assoc]; exact hf _ (key i j hi hj))
    exact this.1
  · by_cases hn0 : n = 0
    · subst hn0; simp at hi
    have hi' : i / n < l.length := by
      rw [Nat.div_lt_iff_lt_mul (by omega)]; exact hi
    have hj' : i % n < n := Nat.mod_lt _ (by omega)
    have e : o + i / n * n + i % n = o + i := by
      have := Nat.div_add_mod i n
      rw [Nat.mul_comm] at this
      omega
    have := (h.cell _ _ _ (hc (i / n) (i % n) hi' hj') (by rw [e]; exact hf i hi)).2
    rw [e] at this
    exact this

theorem Tip.moveK {G G' : Gh} {w w' : World} (h : Keeps G w G' w') {κ κ' : Key} (m : Moves G w G' w' κ κ') {n : Nat} {l : List (List D)} {v : Value} (t : Tip G w κ n l v) : Tip G' w' κ' n l v := by
  rcases t with t | ⟨b, o, cap, rfl, r, hf, hc⟩
  · exact .inl t
  · obtain ⟨r', hf'⟩ := r.fixedK h hf
    refine .inr ⟨b, o, cap, rfl, r', hf', ?_⟩
    rcases hc with hc | ⟨h1, h2, h3⟩
    · exact .inl hc
    · obtain ⟨p, q⟩ := (m b h3.lt).2 _ h2
      exact .inr ⟨h1, p, h3.same q⟩

theorem Own.moveK {G G' : Gh} {w w' : World} (h : Keeps G w G' w') {κ κ' : Key} (m : Moves G w G' w' κ κ') {n : Nat} {l : List (List D)} {v : Value} (t : Own G w κ n l v) : Own G' w' κ' n l v := by
  rcases t with t | t | ⟨b, o, cap, rfl, r, h1, h2, h3⟩
  · exact .inl t
  · exact .inr (.inl t)
  · obtain ⟨p, q⟩ := (m b h3.lt).1 h2
    exact .inr (.inr ⟨b, o, cap, rfl, r.stepK h q, h1, p, h3.same q⟩)

theorem Leaf.moveK {G G' : Gh} {w w' : World} (h : Keeps G w G' w') {κ κ' : Key} (m : Moves G w G' w' κ κ') {tmps tmps' : Array Value} {d : D} {v : Value}
    (hp : ∀ p, d.lbors p → placeV G' w' tmps' p = placeV G w tmps p) (t : Leaf G w tmps κ d v) : Leaf G' w' tmps' κ' d v := by
  cases d with
  | sl f n l =>
    match f, t with
    | 0, t => exact Ro.keep h t
    | 1, t => exact Tip.moveK h m t
    | 2, t => exact Own.moveK h m t
    | _ + 3, t => exact t.elim
  | bor p => exact (hp p rfl).trans t
  | ea p n i off =>
    obtain ⟨b, o, len, cap, h1, h2⟩ := t
    exact ⟨b, o, len, cap, (hp p rfl).trans h1, h2⟩
  | rp l =>
    obtain ⟨b, o, e, vs, hv⟩ := t
    refine ⟨b, o, e, vs, fun j hj => ?_⟩
    obtain ⟨h1, h2, h3⟩ := hv j hj
    obtain ⟨p, q⟩ := h.cell _ _ _ h1 h2
    exact ⟨p, q, h3.1.keep h, h3.2⟩
  | undef => trivial
  | agg l => exact t.elim
  | tup l => exact t.elim
  | _ => exact Ro.keep h t

theorem val_of {G : Gh} {w : World} {tmps : Array Value} {κ : Nat → Key} {d : D} {v : Value} (h : ∀ l, d ≠ .agg l) : Val G w tmps κ d v ↔ Leaf G w tmps (κ 0) d v := by
  cases d <;> first | exact Iff.rfl | exact absurd rfl (h _)

theorem slot_of {G : Gh} {w : World} {tmps : Array Value} {κ : Nat → Nat → Key} {d : D} {v : Value} (h : ∀ l, d ≠ .tup l) : Slot G w tmps κ d v ↔ Val G w tmps (κ 0) d v := by
  cases d <;> first | exact Iff.rfl | exact absurd rfl (h _)

theorem bors_of {d : D} {p : Pl} (h : ∀ l, d ≠ .agg l) : d.bors p ↔ d.lbors p := by
  cases d <;> first | exact Iff.rfl | exact absurd rfl (h _)

theorem sbors_of {d : D} {p : Pl} (h : ∀ l, d ≠ .tup l) : d.sbors p ↔ d.bors p := by
  cases d <;> first | exact Iff.rfl | exact absurd rfl (h _)

theorem agg_or (d : D) : (∃ l, d = .agg l) ∨ ∀ l, d ≠ .agg l := by
  cases d <;> simp

theorem tup_or (d : D) : (∃ l, d = .tup l) ∨ ∀ l, d ≠ .tup l := by
  cases d <;> simp

theorem Val.moveK {G G' : Gh} {w w' : World} (h : Keeps G w G' w') {κ κ' : Nat → Key} (m : ∀ j, Moves G w G' w' (κ j) (κ' j)) {tmps tmps' : Array Value} {d : D} {v : Value}
    (hp : ∀ p, d.bors p → placeV G' w' tmps' p = placeV G w tmps p) (t : Val G w tmps κ d v) : Val G' w' tmps' κ' d v := by
  rcases agg_or d with ⟨l, rfl⟩ | ha
  · obtain ⟨vs, e, hs, hv⟩ := t
    exact ⟨vs, e, hs, fun j hj hj' => (hv j hj hj').moveK h (m j) fun p hb => hp p ⟨l[j], List.getElem_mem _, hb⟩⟩
  · exact (val_of ha).mpr (((val_of ha).mp t).moveK h (m 0) fun p hb => hp p ((bors_of ha).mpr hb))

theorem Slot.moveK {G G' : Gh} {w w' : World} (h : Keeps G w G' w') {κ κ' : Nat → Nat → Key} (m : ∀ i j, Moves G w G' w' (κ i j) (κ' i j)) {tmps tmps' : Array Value} {d : D} {v : Value}
    (hp : ∀ p, d.sbors p → placeV G' w' tmps' p = placeV G w tmps p) (t : Slot G w tmps κ d v) : Slot G' w' tmps' κ' d v := by
  rcases tup_or d with ⟨l, rfl⟩ | ha
  · obtain ⟨nb, vs, e, hs, hv⟩ := t
    exact ⟨nb, vs, e, hs, fun i hi hi' => (hv i hi hi').moveK h (m i) fun p hb => hp p ⟨l[i], List.getElem_mem _, hb⟩⟩
  · exact (slot_of ha).mpr (((slot_of ha).mp t).moveK h (m 0) fun p hb => hp p ((sbors_of ha).mpr hb))

theorem Row.step {G G' : Gh} {w w' : World} (h : Step G w G' w') {n : Nat} {l : List (List D)} {b o : Nat} (hw : w'.heap[b]? = w.heap[b]?) (r : Row G w n l b o) : Row G' w' n l b o := r.stepK h.keeps hw

theorem Row.fixed {G G' : Gh} {w w' : World} (h : Step G w G' w') {n : Nat} {l : List (List D)} {b o : Nat} (hf : ∀ i, i < l.length * n → G.fz b (o + i)) (r : Row G w n l b o) :
    Row G' w' n l b o ∧ ∀ i, i < l.length * n → G'.fz b (o + i) := r.fixedK h.keeps hf

theorem Tip.move {G G' : Gh} {w w' : World} (h : Step G w G' w') {κ κ' : Key} (m : Moves G w G' w' κ κ') {n : Nat} {l : List (List D)} {v : Value} (t : Tip G w κ n l v) : Tip G' w' κ' n l v := t.moveK h.keeps m

theorem Own.move {G G' : Gh} {w w' : World} (h : Step G w G' w') {κ κ' : Key} (m : Moves G w G' w' κ κ') {n : Nat} {l : List (List D)} {v : Value} (t : Own G w κ n l v) : Own G' w' κ' n l v := t.moveK h.keeps m

theorem Leaf.move {G G' : Gh} {w w' : World} (h : Step G w G' w') {κ κ' : Key} (m : Moves G w G' w' κ κ') {tmps tmps' : Array Value} {d : D} {v : Value}
    (hp : ∀ p, d.lbors p → placeV G' w' tmps' p = placeV G w tmps p) (t : Leaf G w tmps κ d v) : Leaf G' w' tmps' κ' d v := t.moveK h.keeps m hp

theorem Val.move {G G' : Gh} {w w' : World} (h : Step G w G' w') {κ κ' : Nat → Key} (m : ∀ j, Moves G w G' w' (κ j) (κ' j)) {tmps tmps' : Array Value} {d : D} {v : Value}
    (hp : ∀ p, d.bors p → placeV G' w' tmps' p = placeV G w tmps p) (t : Val G w tmps κ d v) : Val G' w' tmps' κ' d v := t.moveK h.keeps m hp

theorem Slot.move {G G' : Gh} {w w' : World} (h : Step G w G' w') {κ κ' : Nat → Nat → Key} (m : ∀ i j, Moves G w G' w' (κ i j) (κ' i j)) {tmps tmps' : Array Value} {d : D} {v : Value}
    (hp : ∀ p, d.sbors p → placeV G' w' tmps' p = placeV G w tmps p) (t : Slot G w tmps κ d v) : Slot G' w' tmps' κ' d v := t.moveK h.keeps m hp

end Go.PI
