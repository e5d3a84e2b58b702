/- The type table of any program. -/
import Derived.Test.YtoaadbakbfphgaaIz
namespace Go.PI
open Go

/-- The types of a value's cells. -/
def cellTys (P : Program) : Nat → Nat → List Nat
  | 0, t => [t]
  | k + 1, t =>
    match P.underlying t with
    | some (.struct fs) => (fs.toList.map fun f => cellTys P k f.type).flatten
    | some (.array n e) => (List.replicate n (cellTys P k e)).flatten
    | _ => [t]

def zD (P : Program) (f t : Nat) : Value → Option D
  | .int k n => some (.int k n)
  | .bool b => some (.bool b)
  | .string s => some (.str s)
  | .slice none 0 0 => match P.underlying t with
    | some (.slice e) => match P.info? e with
      | some i => some (.sl (if f = 0 then 0 else 2) i.size [])
      | none => none
    | _ => none
  | .pointer none => some .nilp
  | .nilFunc => some .nilf
  | .nilIface => some .nili
  | _ => none

def zsD (P : Program) (f : Nat) : List Nat → List Value → Option (List D)
  | [], [] => some []
  | t :: ts, v :: vs =>
    match zD P f t v, zsD P f ts vs with
    | some d, some l => some (d :: l)
    | _, _ => none
  | _, _ => none

def fieldsT (P : Program) : List Field → Option (List (Nat × Nat × Nat))
  | [] => some []
  | f :: r =>
    match P.info? f.type, fieldsT P r with
    | some i, some l => some ((f.offset, i.size, f.type) :: l)
    | _, _ => none

/-- A type's zero cells. -/
def zeroT (P : Program) (f t : Nat) : Option (List D) :=
  match P.info? t with
  | some i => match i.zero with
    | some z => match zsD P f (cellTys P 6 t) z.cells.toList with
      | some l => if l.length = i.size then some l else none
      | none => none
    | none => none
  | none => none

def tiOf (P : Program) (t : Nat) : TI :=
  match zeroT P 2 t with
  | none => .other
  | some z =>
    match P.underlying t with
    | some (.int k) => match z with
      | [.int k' 0] => if k' = k then .int k else .other
      | _ => .other
    | some .bool => match z with
      | [.bool false] => .bool
      | _ => .other
    | some .string => match z with
      | [.str ⟨⟨[]⟩⟩] => .str
      | _ => .other
    | some (.slice e) => match z, zeroT P 0 e, P.info? e with
      | [.sl 2 n []], some ze, some i => if n = i.size then .sl ⟨i.size, i.bytes, e⟩ ze else .other
      | _, _, _ => .other
    | some (.struct fs) => match fieldsT P fs.toList with
      | some l => if (fs.toList.all fun f => f.name != "_") && !P.stoodInHeld t then .st l z else .other
      | none => .other
    | some (.array n e) => match P.info? e with
      | some i => .arr n i.size e z
      | none => .other
    | some (.pointer _) => match z with
      | [.nilp] => .ptr
      | _ => .other
    | some (.func ..) => match z with
      | [.nilf] => .fn
      | _ => .other
    | some (.interface _) => match z with
      | [.nili] => .ifc
      | _ => .other
    | _ => .other

variable {P : Program}

theorem zD_ok {f t : Nat} {v : Value} {d : D} (h : zD P f t v = some d) : Z d v ∧ (f = 0 → ∀ n l, d ≠ .sl 2 n l) := by
  unfold zD at h
  split at h
  · cases h; exact ⟨rfl, by simp⟩
  · cases h; exact ⟨rfl, by simp⟩
  · cases h; exact ⟨rfl, by simp⟩
  · split at h
    · split at h
      · cases h
        refine ⟨⟨?_, rfl, rfl⟩, fun hf n l e => ?_⟩
        · split <;> simp
        · rw [if_pos hf] at e; cases e
      · cases h
    · cases h
  · cases h; exact ⟨rfl, by simp⟩
  · cases h; exact ⟨rfl, by simp⟩
  · cases h; exact ⟨rfl, by simp⟩
  · cases h

theorem zsD_ok {f : Nat} : ∀ (ts : List Nat) (vs : List Value) (l : List D), zsD P f ts vs = some l → vs.length = l.length ∧ (∀ j (h : j < l.length) (h' : j < vs.length), Z l[j] vs[j]) ∧ (f = 0 → ∀ d ∈ l, ∀ n k, d ≠ .sl 2 n k)
  | [], [], l, h => by cases h; exact ⟨rfl, fun j h => by simp at h, by simp⟩
  | [], _ :: _, l, h => by cases h
  | _ :: _, [], l, h => by cases h
  | t :: ts, v :: vs, l, h => by
    simp only [zsD] at h
    split at h
    · rename_i d l' h1 h2
      cases h
      obtain ⟨a1, a2⟩ := zD_ok h1
      obtain ⟨b1, b2, b3⟩ := zsD_ok ts vs l' h2
      refine ⟨by simp [b1], fun j hj hj' => ?_, fun hf e he => ?_⟩
      · cases j with
        | zero => exact a1
        | succ j => exact b2 j (by simpa using hj) (by simpa using hj')
      · rcases List.mem_cons.mp he with rfl | he
        · exact a2 hf
        · exact b3 hf e he
    · cases h

theorem zeroT_ok {f t : Nat} {l : List D} (h : zeroT P f t = some l) : ∃ i zv, P.info? t = some i ∧ i.zero = some zv ∧ i.size = l.length ∧ Zs l zv.cells ∧ (f = 0 → ∀ d ∈ l, ∀ n k, d ≠ .sl 2 n k) := by
  unfold zeroT at h
  split at h
  · rename_i i hi
    split at h
    · rename_i z hz
      split at h
      · rename_i l' hl
        split at h
        · rename_i hs
          cases h
          obtain ⟨a, b, c⟩ := zsD_ok _ _ _ hl
          exact ⟨i, z, hi, hz, hs.symm, ⟨by simpa using a, fun j h h' => by have := b j h (by simpa using h'); rwa [Array.getElem_toList] at this⟩, c⟩
        · cases h
      · cases h
    · cases h
  · cases h

theorem fieldsT_ok : ∀ (fs : List Field) (l : List (Nat × Nat × Nat)), fieldsT P fs = some l → fs.length = l.length ∧ ∀ (k : Nat) (f : Nat × Nat × Nat), l[k]? = some f → ∃ (fl : Field) (i : TypeInfo), fs[k]? = some fl ∧ fl.offset = f.1 ∧ fl.type = f.2.2 ∧ P.info? fl.type = some i ∧ i.size = f.2.1
  | [], l, h => by cases h; exact ⟨rfl, by simp⟩
  | x :: r, l, h => by
    simp only [fieldsT] at h
    split at h
    · rename_i i l' h1 h2
      cases h
      obtain ⟨a, b⟩ := fieldsT_ok r l' h2
      refine ⟨by simp [a], fun k f hk => ?_⟩
      cases k with
      | zero =>
        simp only [List.getElem?_cons_zero, Option.some.injEq] at hk
        subst hk
        exact ⟨x, i, rfl, rfl, rfl, h1, rfl⟩
      | succ k => exact b k f (by simpa using hk)
    · cases h

theorem tiOf_ok (P : Program) : TOk P (tiOf P) := by
  have key : ∀ ty, TDesc P ty (tiOf P ty) ∧ (tiOf P ty ≠ .other → ∃ i zv z, P.info? ty = some i ∧ i.size = (tiOf P ty).size ∧ i.zero = some zv ∧ (tiOf P ty).zero = some z ∧ Zs z zv.cells) := by
    intro ty
    have fin : ∀ (ti : TI) (l : List D), zeroT P 2 ty = some l → ti.zero = some l → ∃ i zv z, P.info? ty = some i ∧ i.size = ti.size ∧ i.zero = some zv ∧ ti.zero = some z ∧ Zs z zv.cells := by
      intro ti l h hz
      obtain ⟨i, zv, h1, h2, h3, h4, _⟩ := zeroT_ok h
      exact ⟨i, zv, l, h1, by simp [TI.size, hz, h3], h2, hz, h4⟩
    unfold tiOf
    split
    · exact ⟨trivial, fun h => absurd rfl h⟩
    · rename_i z hz
      split
      · rename_i k hu
        split
        · split
          · rename_i hk
            subst hk
            exact ⟨hu, fun _ => fin _ _ hz rfl⟩
          · exact ⟨trivial, fun h => absurd rfl h⟩
        · exact ⟨trivial, fun h => absurd rfl h⟩
      · rename_i hu
        split
        · exact ⟨hu, fun _ => fin _ _ hz rfl⟩
        · exact ⟨trivial, fun h => absurd rfl h⟩
      · rename_i hu
        split
        · exact ⟨hu, fun _ => fin _ _ hz rfl⟩
        · exact ⟨trivial, fun h => absurd rfl h⟩
      · rename_i e hu
        split
        · rename_i n ze i h0 h1
          split
          · rename_i hn
            subst hn
            obtain ⟨i', zv, a1, a2, a3, a4, a5⟩ := zeroT_ok h0
            rw [h1] at a1
            cases a1
            exact ⟨⟨hu, i, zv, h1, rfl, rfl, a2, a4, a3.symm, a5 rfl⟩, fun _ => fin _ _ hz rfl⟩
          · exact ⟨trivial, fun h => absurd rfl h⟩
        · exact ⟨trivial, fun h => absurd rfl h⟩
      · rename_i fs hu
        split
        · rename_i l hl
          obtain ⟨a, b⟩ := fieldsT_ok _ _ hl
          split
          · rename_i hc
            simp only [Bool.and_eq_true, List.all_eq_true, bne_iff_ne, ne_eq, Bool.not_eq_true'] at hc
            exact ⟨⟨fs, hu, ⟨by simpa using a, hc.1, hc.2⟩, fun k f hk => by simpa using b k f hk⟩, fun _ => fin _ _ hz rfl⟩
          · exact ⟨trivial, fun h => absurd rfl h⟩
        · exact ⟨trivial, fun h => absurd rfl h⟩
      · rename_i n e hu
        split
        · rename_i i hi
          exact ⟨⟨hu, i, hi, rfl⟩, fun _ => fin _ _ hz rfl⟩
        · exact ⟨trivial, fun h => absurd rfl h⟩
      · rename_i e hu
        split
        · exact ⟨⟨e, hu⟩, fun _ => fin _ _ hz rfl⟩
        · exact ⟨trivial, fun h => absurd rfl h⟩
      · rename_i a b c hu
        split
        · exact ⟨⟨a, b, c, hu⟩, fun _ => fin _ _ hz rfl⟩
        · exact ⟨trivial, fun h => absurd rfl h⟩
      · rename_i a hu
        split
        · exact ⟨⟨a, hu⟩, fun _ => fin _ _ hz rfl⟩
        · exact ⟨trivial, fun h => absurd rfl h⟩
      · exact ⟨trivial, fun h => absurd rfl h⟩
  exact ⟨fun ty => (key ty).1, fun ty => (key ty).2⟩

end Go.PI
