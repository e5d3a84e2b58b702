/- Functions as the typed layer prints them. -/
import Derived.Test.YtoaadbakbfphgaaWa
namespace Go.PI
open Go Go.Proofs
set_option maxRecDepth 100000
set_option linter.unusedVariables false

/-- siskin/siskinref03.Same -/
def vp18 : VP where
  keep := [0, 1, 4, 5, 10, 14, 25]
  cold := fun
    | 6 => [(0, []), (1, []), (5, [])]
    | _ => []
  take := fun _ => []
  outs := fun _ => []
  fin := []
  inst := fun _ g => g
  loop := fun
    | 4 => some ⟨26, [(0, .sl 0 .str), (1, .sl 0 .str), (5, .int .i64)], [], [], [], false⟩
    | _ => none
  join := fun _ => none
  rjoin := fun _ => none

noncomputable def g18 (ρ : Prims) (C : TyC sigA) (k : Nat) (x : (List ByteArray) × (List ByteArray)) : Option (Bool) :=
  bif ρ.not (ρ.eq (ρ.len x.1) (ρ.len x.2)) then some false else ρ.loop k (fun (x1 : (List ByteArray) × (List ByteArray) × Int) => bif ρ.lt x1.2.2 (ρ.len x1.1) then bif ρ.inb x1.1 x1.2.2 then bif ρ.inb x1.2.1 x1.2.2 then bif ρ.not (ρ.eqS (ρ.nth ⟨#[]⟩ x1.1 (ρ.nat x1.2.2)) (ρ.nth ⟨#[]⟩ x1.2.1 (ρ.nat x1.2.2))) then some (.inr false) else some (.inl (x1.1, x1.2.1, ρ.wrap .i64 (ρ.add x1.2.2 1))) else none else none else some (.inr true)) (x.1, x.2, 0)

theorem g18_eq (ρ : Prims) (C : TyC sigA) (k : Nat) (x : (sigA 18).inT.den) : bodyV ρ C tvA vp18 Try.f18 k 18 x = g18 ρ C k x := by kernel_rfl

/-- siskin/siskinref24.Same -/
def vp138 : VP where
  keep := [2, 3, 4]
  cold := fun _ => []
  take := fun _ => []
  outs := fun _ => []
  fin := []
  inst := fun _ g => g
  loop := fun _ => none
  join := fun _ => none
  rjoin := fun _ => none

noncomputable def g138 (ρ : Prims) (C : TyC sigA) (k : Nat) (x : (Int × Int × (List ByteArray) × Int × Int) × Int × Int × (List ByteArray) × Int × Int) : Option (Bool) :=
  bif ρ.eq x.1.1 x.2.1 then bif ρ.eq x.1.2.1 x.2.2.1 then bif ρ.and (ρ.eq x.1.2.2.2.1 x.2.2.2.2.1) (ρ.and (ρ.eq x.1.2.2.2.2 x.2.2.2.2.2) true) then optK (α := Bool) (q18 C (x.1.2.2.1, x.2.2.2.1)) (fun (x1 : Bool) => some x1) else some false else some false else some false

theorem g138_eq (ρ : Prims) (C : TyC sigA) (k : Nat) (x : (sigA 138).inT.den) : bodyV ρ C tvA vp138 Try.f138 k 138 x = g138 ρ C k x := by kernel_rfl

/-- siskin/siskinlaw24.Is -/
def vp85 : VP where
  keep := [2, 3, 4]
  cold := fun _ => []
  take := fun _ => []
  outs := fun _ => []
  fin := []
  inst := fun _ g => g
  loop := fun _ => none
  join := fun _ => none
  rjoin := fun _ => none

noncomputable def g85 (ρ : Prims) (C : TyC sigA) (k : Nat) (x : (Int × Int × (List ByteArray) × Int × Int) × Int × Int × (List ByteArray) × Int × Int) : Option (Bool) :=
  optK (α := Bool) (q138 C x) (fun (x1 : Bool) => some x1)

theorem g85_eq (ρ : Prims) (C : TyC sigA) (k : Nat) (x : (sigA 85).inT.den) : bodyV ρ C tvA vp85 Try.f85 k 85 x = g85 ρ C k x := by kernel_rfl

/-- siskin/siskinlaw26.is -/
def vp32 : VP where
  keep := [2, 3, 4]
  cold := fun _ => []
  take := fun _ => []
  outs := fun _ => []
  fin := []
  inst := fun _ g => g
  loop := fun _ => none
  join := fun _ => none
  rjoin := fun _ => none

noncomputable def g32 (ρ : Prims) (C : TyC sigA) (k : Nat) (x : (Int × Int × Int × (Int × Int × (List ByteArray) × Int × Int) × Int × Int × Int) × Int × Int × Int × (Int × Int × (List ByteArray) × Int × Int) × Int × Int × Int) : Option (Bool) :=
  bif ρ.eq x.1.1 x.2.1 then bif ρ.eq x.1.2.1 x.2.2.1 then bif ρ.eq x.1.2.2.1 x.2.2.2.1 then optK (α := Bool) (q85 C (x.1.2.2.2.1, x.2.2.2.2.1)) (fun (x1 : Bool) => bif x1 then some (ρ.and (ρ.eq x.1.2.2.2.2.1 x.2.2.2.2.2.1) (ρ.and (ρ.eq x.1.2.2.2.2.2.1 x.2.2.2.2.2.2.1) (ρ.and (ρ.eq x.1.2.2.2.2.2.2 x.2.2.2.2.2.2.2) true))) else some false) else some false else some false else some false

theorem g32_eq (ρ : Prims) (C : TyC sigA) (k : Nat) (x : (sigA 32).inT.den) : bodyV ρ C tvA vp32 Try.f32 k 32 x = g32 ρ C k x := by kernel_rfl

/-- siskin/siskinlaw26.packet -/
def vp36 : VP where
  keep := [1, 2]
  cold := fun _ => []
  take := fun _ => []
  outs := fun _ => []
  fin := []
  inst := fun _ g => g
  loop := fun _ => none
  join := fun _ => none
  rjoin := fun _ => none

noncomputable def g36 (ρ : Prims) (C : TyC sigA) (k : Nat) (x : Int × Int × Int × Int × Int × Int × ByteArray) : Option (Int × Int × Int × Int × Int × Int × ByteArray) :=
  some x

theorem g36_eq (ρ : Prims) (C : TyC sigA) (k : Nat) (x : (sigA 36).inT.den) : bodyV ρ C tvA vp36 Try.f36 k 36 x = g36 ρ C k x := by kernel_rfl

/-- siskin/siskinlaw26.alike -/
def vp33 : VP where
  keep := [0, 1, 4, 5, 10, 14, 26]
  cold := fun
    | 6 => [(0, []), (1, []), (5, [])]
    | _ => []
  take := fun _ => []
  outs := fun _ => []
  fin := []
  inst := fun _ g => g
  loop := fun
    | 4 => some ⟨27, [(0, .sl 0 R58), (1, .sl 0 R58), (5, .int .i64)], [], [], [], false⟩
    | _ => none
  join := fun _ => none
  rjoin := fun _ => none

noncomputable def g33 (ρ : Prims) (C : TyC sigA) (k : Nat) (x : (List (Int × Int × Int × Int × Int × Int × ByteArray)) × (List (Int × Int × Int × Int × Int × Int × ByteArray))) : Option (Bool) :=
  bif ρ.not (ρ.eq (ρ.len x.1) (ρ.len x.2)) then some false else ρ.loop k (fun (x1 : (List (Int × Int × Int × Int × Int × Int × ByteArray)) × (List (Int × Int × Int × Int × Int × Int × ByteArray)) × Int) => bif ρ.lt x1.2.2 (ρ.len x1.1) then bif ρ.inb x1.1 x1.2.2 then bif ρ.inb x1.2.1 x1.2.2 then optK (α := Int × Int × Int × Int × Int × Int × ByteArray) (q36 C (ρ.nth (0, 0, 0, 0, 0, 0, ⟨#[]⟩) x1.2.1 (ρ.nat x1.2.2))) (fun (x2 : Int × Int × Int × Int × Int × Int × ByteArray) => bif ρ.not (ρ.and (ρ.eq (ρ.nth (0, 0, 0, 0, 0, 0, ⟨#[]⟩) x1.1 (ρ.nat x1.2.2)).1 x2.1) (ρ.and (ρ.eq (ρ.nth (0, 0, 0, 0, 0, 0, ⟨#[]⟩) x1.1 (ρ.nat x1.2.2)).2.1 x2.2.1) (ρ.and (ρ.eq (ρ.nth (0, 0, 0, 0, 0, 0, ⟨#[]⟩) x1.1 (ρ.nat x1.2.2)).2.2.1 x2.2.2.1) (ρ.and (ρ.eq (ρ.nth (0, 0, 0, 0, 0, 0, ⟨#[]⟩) x1.1 (ρ.nat x1.2.2)).2.2.2.1 x2.2.2.2.1) (ρ.and (ρ.eq (ρ.nth (0, 0, 0, 0, 0, 0, ⟨#[]⟩) x1.1 (ρ.nat x1.2.2)).2.2.2.2.1 x2.2.2.2.2.1) (ρ.and (ρ.eq (ρ.nth (0, 0, 0, 0, 0, 0, ⟨#[]⟩) x1.1 (ρ.nat x1.2.2)).2.2.2.2.2.1 x2.2.2.2.2.2.1) (ρ.and (ρ.eqB (ρ.nth (0, 0, 0, 0, 0, 0, ⟨#[]⟩) x1.1 (ρ.nat x1.2.2)).2.2.2.2.2.2 x2.2.2.2.2.2.2) true))))))) then some (.inr false) else some (.inl (x1.1, x1.2.1, ρ.wrap .i64 (ρ.add x1.2.2 1)))) else none else none else some (.inr true)) (x.1, x.2, 0)

theorem g33_eq (ρ : Prims) (C : TyC sigA) (k : Nat) (x : (sigA 33).inT.den) : bodyV ρ C tvA vp33 Try.f33 k 33 x = g33 ρ C k x := by kernel_rfl

/-- siskin/siskinref13.Check -/
def vp171 : VP where
  keep := [1, 2]
  cold := fun _ => []
  take := fun _ => []
  outs := fun _ => []
  fin := []
  inst := fun _ g => g
  loop := fun _ => none
  join := fun _ => none
  rjoin := fun _ => none

noncomputable def g171 (ρ : Prims) (C : TyC sigA) (k : Nat) (x : Int × Int) : Option (Bool) :=
  bif ρ.eq x.1 1 then bif ρ.le 0 x.2 then some (ρ.le x.2 x.1) else some false else bif ρ.eq x.1 2 then bif ρ.le 0 x.2 then some (ρ.le x.2 x.1) else some false else bif ρ.eq x.1 4 then bif ρ.le 0 x.2 then some (ρ.le x.2 x.1) else some false else bif ρ.eq x.1 8 then bif ρ.le 0 x.2 then some (ρ.le x.2 x.1) else some false else some false

theorem g171_eq (ρ : Prims) (C : TyC sigA) (k : Nat) (x : (sigA 171).inT.den) : bodyV ρ C tvA vp171 Try.f171 k 171 x = g171 ρ C k x := by kernel_rfl

/-- siskin/siskinref13.Tick -/
def vp139 : VP where
  keep := [1, 2, 3, 4, 7, 11, 15, 25]
  cold := fun _ => []
  take := fun _ => []
  outs := fun _ => []
  fin := []
  inst := fun _ g => g
  loop := fun _ => none
  join := fun
    | 10 => some ⟨31, [(2, .ptr 0 0), (4, .int .i64)], [], [R26, R26], [], false⟩
    | _ => none
  rjoin := fun _ => none

noncomputable def g139 (ρ : Prims) (C : TyC sigA) (k : Nat) (x : Int × Int) : Option ((Int × Int) × Bool) :=
  optK (α := Bool) (q171 C x) (fun (x1 : Bool) => bif ρ.not x1 then some ((1, 0), false) else bif ρ.eq x.2 0 then some (x, false) else bif ρ.lt 1 x.2 then some ((x.1, ρ.wrap .i64 (ρ.sub x.2 1)), false) else optK (α := (Unit × Int × (Int × Int) × Int × Int) ⊕ ((Int × Int) × Bool)) (bif ρ.lt x.1 8 then some (.inl ((), ρ.wrap .i64 (ρ.mul 2 x.1), (0, 0), x)) else some (.inl ((), x.1, (0, 0), x))) (fun (x2 : (Unit × Int × (Int × Int) × Int × Int) ⊕ ((Int × Int) × Bool)) => sumK x2 (fun (x3 : Unit × Int × (Int × Int) × Int × Int) => some ((x3.2.1, x3.2.1), true)) (fun (x3 : (Int × Int) × Bool) => some x3)))

theorem g139_eq (ρ : Prims) (C : TyC sigA) (k : Nat) (x : (sigA 139).inT.den) : bodyV ρ C tvA vp139 Try.f139 k 139 x = g139 ρ C k x := by kernel_rfl

/-- siskin/siskinref24.Tick -/
def vp86 : VP where
  keep := [1, 2, 3, 4, 5, 9]
  cold := fun _ => []
  take := fun _ => []
  outs := fun _ => []
  fin := []
  inst := fun _ g => g
  loop := fun _ => none
  join := fun _ => none
  rjoin := fun _ => none

noncomputable def g86 (ρ : Prims) (C : TyC sigA) (k : Nat) (x : Int × Int × (List ByteArray) × Int × Int) : Option ((Int × Int × (List ByteArray) × Int × Int) × Bool) :=
  bif ρ.eq (ρ.len x.2.2.1) 0 then some (x, false) else optK (α := (Int × Int) × Bool) (q139 C x.2.2.2) (fun (x1 : (Int × Int) × Bool) => some ((x.1, x.2.1, x.2.2.1, x1.1), x1.2))

theorem g86_eq (ρ : Prims) (C : TyC sigA) (k : Nat) (x : (sigA 86).inT.den) : bodyV ρ C tvA vp86 Try.f86 k 86 x = g86 ρ C k x := by kernel_rfl

/-- siskin/siskinref26.Tick -/
def vp34 : VP where
  keep := [1, 2, 3, 4, 5]
  cold := fun
    | 3 => [(500001, [5]), (5, [])]
    | _ => []
  take := fun
    | 3 => [1000003]
    | _ => []
  outs := fun
    | 3 => [2]
    | _ => []
  fin := []
  inst := fun _ g => g
  loop := fun _ => none
  join := fun _ => none
  rjoin := fun _ => none

noncomputable def g34 (ρ : Prims) (C : TyC sigA) (k : Nat) (x : Int × Int × Int × (Int × Int × (List ByteArray) × Int × Int) × Int × Int × Int) : Option ((Int × Int × Int × (Int × Int × (List ByteArray) × Int × Int) × Int × Int × Int) × (List (Int × Int × Int × Int × Int × Int × ByteArray))) :=
  optK (α := (Int × Int × (List ByteArray) × Int × Int) × Bool) (q86 C x.2.2.2.1) (fun (x1 : (Int × Int × (List ByteArray) × Int × Int) × Bool) => optK (α := List (Int × Int × Int × Int × Int × Int × ByteArray)) (q84 C ((x.1, x.2.1, x.2.2.1, x1.1, x.2.2.2.2), x1.2)) (fun (x2 : List (Int × Int × Int × Int × Int × Int × ByteArray)) => some ((x.1, x.2.1, x.2.2.1, x1.1, x.2.2.2.2), x2)))

theorem g34_eq (ρ : Prims) (C : TyC sigA) (k : Nat) (x : (sigA 34).inT.den) : bodyV ρ C tvA vp34 Try.f34 k 34 x = g34 ρ C k x := by kernel_rfl

/-- siskin/names.Same$1 -/
def vp173 : VP where
  keep := [0, 1, 2, 4]
  cold := fun
    | 1 => [(0, []), (500001, [0]), (500002, [0])]
    | _ => []
  take := fun
    | 1 => [1000003]
    | _ => []
  outs := fun _ => []
  fin := []
  inst := fun _ g => g
  loop := fun _ => none
  join := fun _ => none
  rjoin := fun _ => none

noncomputable def g173 (ρ : Prims) (C : TyC sigA) (k : Nat) (x : Int × Unit × Unit × (List ByteArray) × (List ByteArray)) : Option (Bool × (List ByteArray) × (List ByteArray)) :=
  bif ρ.inb x.2.2.2.1 x.1 then bif ρ.inb x.2.2.2.2 x.1 then some (ρ.not (ρ.eqS (ρ.nth ⟨#[]⟩ x.2.2.2.1 (ρ.nat x.1)) (ρ.nth ⟨#[]⟩ x.2.2.2.2 (ρ.nat x.1))), x.2.2.2) else none else none

theorem g173_eq (ρ : Prims) (C : TyC sigA) (k : Nat) (x : (sigA 173).inT.den) : bodyV ρ C tvA vp173 Try.f173 k 173 x = g173 ρ C k x := by kernel_rfl

/-- siskin/names.first -/
def vp172 : VP where
  keep := [0, 1, 4, 5, 8, 13]
  cold := fun _ => []
  take := fun _ => []
  outs := fun _ => []
  fin := []
  inst := fun _ g => g
  loop := fun
    | 2 => some ⟨15, [(0, .int .i64), (1, .fn 173 .unit (.pair (.ptr 0 0) (.ptr 1 0))), (5, .int .i64)], [], [.sl 0 .str, .sl 0 .str], [0, 1], false⟩
    | _ => none
  join := fun _ => none
  rjoin := fun _ => none

noncomputable def g172 (ρ : Prims) (C : TyC sigA) (k : Nat) (x : Int × (Unit × Unit × Unit) × (List ByteArray) × (List ByteArray)) : Option (Int × (List ByteArray) × (List ByteArray)) :=
  ρ.loop k (fun (x1 : Int × (Unit × Unit × Unit) × Int × (List ByteArray) × (List ByteArray)) => bif ρ.lt x1.2.2.1 x1.1 then optK (α := Bool × (List ByteArray) × (List ByteArray)) (q173 C (x1.2.2.1, (), (), x1.2.2.2)) (fun (x2 : Bool × (List ByteArray) × (List ByteArray)) => bif x2.1 then some (.inr (x1.2.2.1, x2.2)) else some (.inl (x1.1, ((), (), ()), ρ.wrap .i64 (ρ.add x1.2.2.1 1), x2.2))) else some (.inr ((-1), x1.2.2.2))) (x.1, ((), (), ()), 0, x.2.2)

theorem g172_eq (ρ : Prims) (C : TyC sigA) (k : Nat) (x : (sigA 172).inT.den) : bodyV ρ C tvA vp172 Try.f172 k 172 x = g172 ρ C k x := by kernel_rfl

end Go.PI
