/- Functions as the typed layer prints them. -/
import Derived.Test.YtoaadbakbfphgaaWa
namespace Go.PI
open Go Go.Proofs
set_option maxRecDepth 100000
set_option linter.unusedVariables false

/-- siskin/names.Same -/
def vp140 : VP where
  keep := [2, 3, 4]
  cold := fun _ => []
  take := fun _ => []
  outs := fun _ => []
  fin := []
  inst := fun _ g => g
  loop := fun _ => none
  join := fun _ => none
  rjoin := fun _ => none

noncomputable def g140 (ρ : Prims) (C : TyC sigA) (k : Nat) (x : (List ByteArray) × (List ByteArray)) : Option (Bool) :=
  bif ρ.eq (ρ.len x.1) (ρ.len x.2) then optK (α := Int × (List ByteArray) × (List ByteArray)) (q172 C (ρ.len x.1, ((), (), ()), x)) (fun (x1 : Int × (List ByteArray) × (List ByteArray)) => some (ρ.lt x1.1 0)) else some false

theorem g140_eq (ρ : Prims) (C : TyC sigA) (k : Nat) (x : (sigA 140).inT.den) : bodyV ρ C tvA vp140 Try.f140 k 140 x = g140 ρ C k x := by kernel_rfl

/-- siskin/sent.Same -/
def vp87 : VP where
  keep := [2, 3, 4]
  cold := fun _ => []
  take := fun _ => []
  outs := fun _ => []
  fin := []
  inst := fun _ g => g
  loop := fun _ => none
  join := fun _ => none
  rjoin := fun _ => none

noncomputable def g87 (ρ : Prims) (C : TyC sigA) (k : Nat) (x : (Int × Int × (List ByteArray) × Int × Int) × Int × Int × (List ByteArray) × Int × Int) : Option (Bool) :=
  bif ρ.eq x.1.1 x.2.1 then bif ρ.eq x.1.2.1 x.2.2.1 then bif ρ.and (ρ.eq x.1.2.2.2.1 x.2.2.2.2.1) (ρ.and (ρ.eq x.1.2.2.2.2 x.2.2.2.2.2) true) then optK (α := Bool) (q140 C (x.1.2.2.1, x.2.2.2.1)) (fun (x1 : Bool) => some x1) else some false else some false else some false

theorem g87_eq (ρ : Prims) (C : TyC sigA) (k : Nat) (x : (sigA 87).inT.den) : bodyV ρ C tvA vp87 Try.f87 k 87 x = g87 ρ C k x := by kernel_rfl

/-- siskin/link.Same -/
def vp35 : VP where
  keep := [2, 3, 4]
  cold := fun _ => []
  take := fun _ => []
  outs := fun _ => []
  fin := []
  inst := fun _ g => g
  loop := fun _ => none
  join := fun _ => none
  rjoin := fun _ => none

noncomputable def g35 (ρ : Prims) (C : TyC sigA) (k : Nat) (x : (Int × Int × Int × (Int × Int × (List ByteArray) × Int × Int) × Int × Int × Int) × Int × Int × Int × (Int × Int × (List ByteArray) × Int × Int) × Int × Int × Int) : Option (Bool) :=
  bif ρ.eq x.1.1 x.2.1 then bif ρ.eq x.1.2.1 x.2.2.1 then bif ρ.eq x.1.2.2.1 x.2.2.2.1 then bif ρ.and (ρ.eq x.1.2.2.2.2.1 x.2.2.2.2.2.1) (ρ.and (ρ.eq x.1.2.2.2.2.2.1 x.2.2.2.2.2.2.1) (ρ.and (ρ.eq x.1.2.2.2.2.2.2 x.2.2.2.2.2.2.2) true)) then optK (α := Bool) (q87 C (x.1.2.2.2.1, x.2.2.2.2.1)) (fun (x1 : Bool) => some x1) else some false else some false else some false else some false

theorem g35_eq (ρ : Prims) (C : TyC sigA) (k : Nat) (x : (sigA 35).inT.den) : bodyV ρ C tvA vp35 Try.f35 k 35 x = g35 ρ C k x := by kernel_rfl

/-- (*siskin/siskinlaw26.pair).puts -/
def vp74 : VP where
  keep := [0, 1, 4, 5, 6, 23, 40, 42]
  cold := fun
    | 0 => [(500000, [5, 23, 24])]
    | 2 => [(500000, [16, 23, 24])]
    | 7 => [(500000, [23, 24]), (1, [])]
    | _ => []
  take := fun
    | 0 => [1000003]
    | 2 => [1000003]
    | 7 => [1000003]
    | _ => []
  outs := fun
    | 2 => [4]
    | _ => []
  fin := [(0, [5])]
  inst := fun _ g => g
  loop := fun _ => none
  join := fun
    | 3 => some ⟨70, [(0, .ptr 0 0), (1, .int .i64), (4, .ptr 2 0), (5, .sl 2 R58), (6, .int .i64)], [(0, [16])], [.pair (.pair (.int .i64) (.pair (.int .i64) (.pair (.int .i64) (.pair (.pair (.int .i64) (.pair (.int .i64) (.pair (.sl 1 .str) R26))) R49)))) (.pair (.pair (.int .i64) (.pair (.int .i64) (.pair (.int .i64) (.pair (.pair (.int .i64) (.pair (.int .i64) (.pair (.sl 0 .str) R26))) R49)))) (.pair (.sl 2 R58) (.pair R26 (.pair R26 .bool)))), R26, .pair (.int .i64) (.pair (.int .i64) (.pair (.int .i64) (.pair (.pair (.int .i64) (.pair (.int .i64) (.pair (.sl 0 .str) R26))) R49)))], [0, 1], false⟩
    | 7 => some ⟨70, [(0, .ptr 0 0), (1, .int .i64), (5, .sl 2 R58)], [(0, [5])], [.pair (.pair (.int .i64) (.pair (.int .i64) (.pair (.int .i64) (.pair (.pair (.int .i64) (.pair (.int .i64) (.pair (.sl 0 .str) R26))) R49)))) (.pair (.pair (.int .i64) (.pair (.int .i64) (.pair (.int .i64) (.pair (.pair (.int .i64) (.pair (.int .i64) (.pair (.sl 0 .str) R26))) R49)))) (.pair (.sl 2 R58) (.pair R26 (.pair R26 .bool)))), R26, .pair (.int .i64) (.pair (.int .i64) (.pair (.int .i64) (.pair (.pair (.int .i64) (.pair (.int .i64) (.pair (.sl 0 .str) R26))) R49)))], [0, 1], false⟩
    | _ => none
  rjoin := fun _ => none

noncomputable def g74 (ρ : Prims) (C : TyC sigA) (k : Nat) (x : Unit × Int × ((Int × Int × Int × (Int × Int × (List ByteArray) × Int × Int) × Int × Int × Int) × (Int × Int × Int × (Int × Int × (List ByteArray) × Int × Int) × Int × Int × Int) × (List (Int × Int × Int × Int × Int × Int × ByteArray)) × (Int × Int) × (Int × Int) × Bool) × Int × Int) : Option (Unit × ((Int × Int × Int × (Int × Int × (List ByteArray) × Int × Int) × Int × Int × Int) × (Int × Int × Int × (Int × Int × (List ByteArray) × Int × Int) × Int × Int × Int) × (List (Int × Int × Int × Int × Int × Int × ByteArray)) × (Int × Int) × (Int × Int) × Bool) × Int × Int) :=
  optK (α := ByteArray) (q75 C x.2.2.1.2.2.2.1.1) (fun (x1 : ByteArray) => optK (α := (Int × Int × Int × (Int × Int × (List ByteArray) × Int × Int) × Int × Int × Int) × (List (Int × Int × Int × Int × Int × Int × ByteArray)) × Int) (q26 C (x.2.2.1.1, 16, x1)) (fun (x2 : (Int × Int × Int × (Int × Int × (List ByteArray) × Int × Int) × Int × Int × Int) × (List (Int × Int × Int × Int × Int × Int × ByteArray)) × Int) => optK (α := (Unit × Int × Unit × (List (Int × Int × Int × Int × Int × Int × ByteArray)) × Int × ((Int × Int × Int × (Int × Int × (List ByteArray) × Int × Int) × Int × Int × Int) × (Int × Int × Int × (Int × Int × (List ByteArray) × Int × Int) × Int × Int × Int) × (List (Int × Int × Int × Int × Int × Int × ByteArray)) × (Int × Int) × (Int × Int) × Bool) × (Int × Int) × Int × Int × Int × (Int × Int × (List ByteArray) × Int × Int) × Int × Int × Int) ⊕ (Unit × ((Int × Int × Int × (Int × Int × (List ByteArray) × Int × Int) × Int × Int × Int) × (Int × Int × Int × (Int × Int × (List ByteArray) × Int × Int) × Int × Int × Int) × (List (Int × Int × Int × Int × Int × Int × ByteArray)) × (Int × Int) × (Int × Int) × Bool) × Int × Int)) (bif ρ.eq x.2.1 1 then optK (α := ByteArray) (q75 C x.2.2.1.2.2.2.1.2) (fun (x3 : ByteArray) => optK (α := (Int × Int × Int × (Int × Int × (List ByteArray) × Int × Int) × Int × Int × Int) × (List (Int × Int × Int × Int × Int × Int × ByteArray)) × Int) (q26 C (x.2.2.1.2.1, 16, x3)) (fun (x4 : (Int × Int × Int × (Int × Int × (List ByteArray) × Int × Int) × Int × Int × Int) × (List (Int × Int × Int × Int × Int × Int × ByteArray)) × Int) => some (.inl ((), x.2.1, (), x4.2.1, x4.2.2, x.2.2.1, x.2.2.2, x4.1)))) else some (.inl ((), x.2.1, (), x2.2.1, x2.2.2, x.2.2.1, x.2.2.2, x2.1))) (fun (x3 : (Unit × Int × Unit × (List (Int × Int × Int × Int × Int × Int × ByteArray)) × Int × ((Int × Int × Int × (Int × Int × (List ByteArray) × Int × Int) × Int × Int × Int) × (Int × Int × Int × (Int × Int × (List ByteArray) × Int × Int) × Int × Int × Int) × (List (Int × Int × Int × Int × Int × Int × ByteArray)) × (Int × Int) × (Int × Int) × Bool) × (Int × Int) × Int × Int × Int × (Int × Int × (List ByteArray) × Int × Int) × Int × Int × Int) ⊕ (Unit × ((Int × Int × Int × (Int × Int × (List ByteArray) × Int × Int) × Int × Int × Int) × (Int × Int × Int × (Int × Int × (List ByteArray) × Int × Int) × Int × Int × Int) × (List (Int × Int × Int × Int × Int × Int × ByteArray)) × (Int × Int) × (Int × Int) × Bool) × Int × Int)) => sumK x3 (fun (x4 : Unit × Int × Unit × (List (Int × Int × Int × Int × Int × Int × ByteArray)) × Int × ((Int × Int × Int × (Int × Int × (List ByteArray) × Int × Int) × Int × Int × Int) × (Int × Int × Int × (Int × Int × (List ByteArray) × Int × Int) × Int × Int × Int) × (List (Int × Int × Int × Int × Int × Int × ByteArray)) × (Int × Int) × (Int × Int) × Bool) × (Int × Int) × Int × Int × Int × (Int × Int × (List ByteArray) × Int × Int) × Int × Int × Int) => bif ρ.not (ρ.eq x4.2.2.2.2.1 0) then some ((), x4.2.2.2.2.2.1, x4.2.2.2.2.2.2.1) else optK (α := (Unit × Int × (List (Int × Int × Int × Int × Int × Int × ByteArray)) × ((Int × Int × Int × (Int × Int × (List ByteArray) × Int × Int) × Int × Int × Int) × (Int × Int × Int × (Int × Int × (List ByteArray) × Int × Int) × Int × Int × Int) × (List (Int × Int × Int × Int × Int × Int × ByteArray)) × (Int × Int) × (Int × Int) × Bool) × (Int × Int) × Int × Int × Int × (Int × Int × (List ByteArray) × Int × Int) × Int × Int × Int) ⊕ (Unit × ((Int × Int × Int × (Int × Int × (List ByteArray) × Int × Int) × Int × Int × Int) × (Int × Int × Int × (Int × Int × (List ByteArray) × Int × Int) × Int × Int × Int) × (List (Int × Int × Int × Int × Int × Int × ByteArray)) × (Int × Int) × (Int × Int) × Bool) × Int × Int)) (bif ρ.eq x4.2.1 0 then some (.inl ((), x4.2.1, x4.2.2.2.1, (x4.2.2.2.2.2.2.2, x4.2.2.2.2.2.1.2), x4.2.2.2.2.2.2)) else some (.inl ((), x4.2.1, x4.2.2.2.1, (x4.2.2.2.2.2.1.1, x4.2.2.2.2.2.2.2, x4.2.2.2.2.2.1.2.2), x4.2.2.2.2.2.2))) (fun (x5 : (Unit × Int × (List (Int × Int × Int × Int × Int × Int × ByteArray)) × ((Int × Int × Int × (Int × Int × (List ByteArray) × Int × Int) × Int × Int × Int) × (Int × Int × Int × (Int × Int × (List ByteArray) × Int × Int) × Int × Int × Int) × (List (Int × Int × Int × Int × Int × Int × ByteArray)) × (Int × Int) × (Int × Int) × Bool) × (Int × Int) × Int × Int × Int × (Int × Int × (List ByteArray) × Int × Int) × Int × Int × Int) ⊕ (Unit × ((Int × Int × Int × (Int × Int × (List ByteArray) × Int × Int) × Int × Int × Int) × (Int × Int × Int × (Int × Int × (List ByteArray) × Int × Int) × Int × Int × Int) × (List (Int × Int × Int × Int × Int × Int × ByteArray)) × (Int × Int) × (Int × Int) × Bool) × Int × Int)) => sumK x5 (fun (x6 : Unit × Int × (List (Int × Int × Int × Int × Int × Int × ByteArray)) × ((Int × Int × Int × (Int × Int × (List ByteArray) × Int × Int) × Int × Int × Int) × (Int × Int × Int × (Int × Int × (List ByteArray) × Int × Int) × Int × Int × Int) × (List (Int × Int × Int × Int × Int × Int × ByteArray)) × (Int × Int) × (Int × Int) × Bool) × (Int × Int) × Int × Int × Int × (Int × Int × (List ByteArray) × Int × Int) × Int × Int × Int) => bif ρ.eq x6.2.1 0 then bif ρ.eq x6.2.1 0 then bif ρ.fits x6.2.2.2.1.2.2.1 x6.2.2.1 64 then some ((), (x6.2.2.2.1.1, x6.2.2.2.1.2.1, ρ.app x6.2.2.2.1.2.2.1 x6.2.2.1, (ρ.wrap .i64 (ρ.add x6.2.2.2.1.2.2.2.1.1 1), x6.2.2.2.1.2.2.2.1.2), x6.2.2.2.1.2.2.2.2), x6.2.2.2.2.1) else none else bif ρ.eq x6.2.1 1 then bif ρ.fits x6.2.2.2.1.2.2.1 x6.2.2.1 64 then some ((), (x6.2.2.2.1.1, x6.2.2.2.1.2.1, ρ.app x6.2.2.2.1.2.2.1 x6.2.2.1, (x6.2.2.2.1.2.2.2.1.1, ρ.wrap .i64 (ρ.add x6.2.2.2.1.2.2.2.1.1 1)), x6.2.2.2.1.2.2.2.2), x6.2.2.2.2.1) else none else none else bif ρ.eq x6.2.1 1 then bif ρ.eq x6.2.1 0 then bif ρ.fits x6.2.2.2.1.2.2.1 x6.2.2.1 64 then some ((), (x6.2.2.2.1.1, x6.2.2.2.1.2.1, ρ.app x6.2.2.2.1.2.2.1 x6.2.2.1, (ρ.wrap .i64 (ρ.add x6.2.2.2.1.2.2.2.1.2 1), x6.2.2.2.1.2.2.2.1.2), x6.2.2.2.1.2.2.2.2), x6.2.2.2.2.1) else none else bif ρ.eq x6.2.1 1 then bif ρ.fits x6.2.2.2.1.2.2.1 x6.2.2.1 64 then some ((), (x6.2.2.2.1.1, x6.2.2.2.1.2.1, ρ.app x6.2.2.2.1.2.2.1 x6.2.2.1, (x6.2.2.2.1.2.2.2.1.1, ρ.wrap .i64 (ρ.add x6.2.2.2.1.2.2.2.1.2 1)), x6.2.2.2.1.2.2.2.2), x6.2.2.2.2.1) else none else none else none) (fun (x6 : Unit × ((Int × Int × Int × (Int × Int × (List ByteArray) × Int × Int) × Int × Int × Int) × (Int × Int × Int × (Int × Int × (List ByteArray) × Int × Int) × Int × Int × Int) × (List (Int × Int × Int × Int × Int × Int × ByteArray)) × (Int × Int) × (Int × Int) × Bool) × Int × Int) => some x6))) (fun (x4 : Unit × ((Int × Int × Int × (Int × Int × (List ByteArray) × Int × Int) × Int × Int × Int) × (Int × Int × Int × (Int × Int × (List ByteArray) × Int × Int) × Int × Int × Int) × (List (Int × Int × Int × Int × Int × Int × ByteArray)) × (Int × Int) × (Int × Int) × Bool) × Int × Int) => some x4))))

theorem g74_eq (ρ : Prims) (C : TyC sigA) (k : Nat) (x : (sigA 74).inT.den) : bodyV ρ C tvA vp74 Try.f74 k 74 x = g74 ρ C k x := by kernel_rfl

/-- (*siskin/siskinlaw26.pair).ticks -/
def vp24 : VP where
  keep := [0, 1, 4, 5, 6, 7, 8, 10]
  cold := fun _ => []
  take := fun _ => []
  outs := fun _ => []
  fin := []
  inst := fun _ g => g
  loop := fun _ => none
  join := fun
    | 8 => some ⟨46, [(0, .ptr 0 0), (4, .sl 0 R58)], [(0, [5, 16])], [.pair (.pair (.int .i64) (.pair (.int .i64) (.pair (.int .i64) (.pair (.pair (.int .i64) (.pair (.int .i64) (.pair (.sl 0 .str) R26))) R49)))) (.pair (.pair (.int .i64) (.pair (.int .i64) (.pair (.int .i64) (.pair (.pair (.int .i64) (.pair (.int .i64) (.pair (.sl 0 .str) R26))) R49)))) (.pair (.sl 2 R58) (.pair R26 (.pair R26 .bool)))), R26, .pair (.int .i64) (.pair (.int .i64) (.pair (.int .i64) (.pair (.pair (.int .i64) (.pair (.int .i64) (.pair (.sl 0 .str) R26))) R49)))], [0, 1], false⟩
    | _ => none
  rjoin := fun _ => none

noncomputable def g24 (ρ : Prims) (C : TyC sigA) (k : Nat) (x : Unit × Int × ((Int × Int × Int × (Int × Int × (List ByteArray) × Int × Int) × Int × Int × Int) × (Int × Int × Int × (Int × Int × (List ByteArray) × Int × Int) × Int × Int × Int) × (List (Int × Int × Int × Int × Int × Int × ByteArray)) × (Int × Int) × (Int × Int) × Bool) × Int × Int) : Option (Unit × ((Int × Int × Int × (Int × Int × (List ByteArray) × Int × Int) × Int × Int × Int) × (Int × Int × Int × (Int × Int × (List ByteArray) × Int × Int) × Int × Int × Int) × (List (Int × Int × Int × Int × Int × Int × ByteArray)) × (Int × Int) × (Int × Int) × Bool) × Int × Int) :=
  optK (α := (Unit × (List (Int × Int × Int × Int × Int × Int × ByteArray)) × ((Int × Int × Int × (Int × Int × (List ByteArray) × Int × Int) × Int × Int × Int) × (Int × Int × Int × (Int × Int × (List ByteArray) × Int × Int) × Int × Int × Int) × (List (Int × Int × Int × Int × Int × Int × ByteArray)) × (Int × Int) × (Int × Int) × Bool) × (Int × Int) × Int × Int × Int × (Int × Int × (List ByteArray) × Int × Int) × Int × Int × Int) ⊕ (Unit × ((Int × Int × Int × (Int × Int × (List ByteArray) × Int × Int) × Int × Int × Int) × (Int × Int × Int × (Int × Int × (List ByteArray) × Int × Int) × Int × Int × Int) × (List (Int × Int × Int × Int × Int × Int × ByteArray)) × (Int × Int) × (Int × Int) × Bool) × Int × Int)) (bif ρ.eq x.2.1 0 then optK (α := (Int × Int × Int × (Int × Int × (List ByteArray) × Int × Int) × Int × Int × Int) × (List (Int × Int × Int × Int × Int × Int × ByteArray))) (q28 C x.2.2.1.1) (fun (x1 : (Int × Int × Int × (Int × Int × (List ByteArray) × Int × Int) × Int × Int × Int) × (List (Int × Int × Int × Int × Int × Int × ByteArray))) => some (.inl ((), x1.2, (x1.1, x.2.2.1.2), x.2.2.2, x1.1))) else optK (α := (Int × Int × Int × (Int × Int × (List ByteArray) × Int × Int) × Int × Int × Int) × (List (Int × Int × Int × Int × Int × Int × ByteArray))) (q28 C x.2.2.1.2.1) (fun (x1 : (Int × Int × Int × (Int × Int × (List ByteArray) × Int × Int) × Int × Int × Int) × (List (Int × Int × Int × Int × Int × Int × ByteArray))) => some (.inl ((), x1.2, (x.2.2.1.1, x1.1, x.2.2.1.2.2), x.2.2.2, x1.1)))) (fun (x1 : (Unit × (List (Int × Int × Int × Int × Int × Int × ByteArray)) × ((Int × Int × Int × (Int × Int × (List ByteArray) × Int × Int) × Int × Int × Int) × (Int × Int × Int × (Int × Int × (List ByteArray) × Int × Int) × Int × Int × Int) × (List (Int × Int × Int × Int × Int × Int × ByteArray)) × (Int × Int) × (Int × Int) × Bool) × (Int × Int) × Int × Int × Int × (Int × Int × (List ByteArray) × Int × Int) × Int × Int × Int) ⊕ (Unit × ((Int × Int × Int × (Int × Int × (List ByteArray) × Int × Int) × Int × Int × Int) × (Int × Int × Int × (Int × Int × (List ByteArray) × Int × Int) × Int × Int × Int) × (List (Int × Int × Int × Int × Int × Int × ByteArray)) × (Int × Int) × (Int × Int) × Bool) × Int × Int)) => sumK x1 (fun (x2 : Unit × (List (Int × Int × Int × Int × Int × Int × ByteArray)) × ((Int × Int × Int × (Int × Int × (List ByteArray) × Int × Int) × Int × Int × Int) × (Int × Int × Int × (Int × Int × (List ByteArray) × Int × Int) × Int × Int × Int) × (List (Int × Int × Int × Int × Int × Int × ByteArray)) × (Int × Int) × (Int × Int) × Bool) × (Int × Int) × Int × Int × Int × (Int × Int × (List ByteArray) × Int × Int) × Int × Int × Int) => bif ρ.fits x2.2.2.1.2.2.1 x2.2.1 64 then some ((), (x2.2.2.1.1, x2.2.2.1.2.1, ρ.app x2.2.2.1.2.2.1 x2.2.1, x2.2.2.1.2.2.2), x2.2.2.2.1) else none) (fun (x2 : Unit × ((Int × Int × Int × (Int × Int × (List ByteArray) × Int × Int) × Int × Int × Int) × (Int × Int × Int × (Int × Int × (List ByteArray) × Int × Int) × Int × Int × Int) × (List (Int × Int × Int × Int × Int × Int × ByteArray)) × (Int × Int) × (Int × Int) × Bool) × Int × Int) => some x2))

theorem g24_eq (ρ : Prims) (C : TyC sigA) (k : Nat) (x : (sigA 24).inT.den) : bodyV ρ C tvA vp24 Try.f24 k 24 x = g24 ρ C k x := by kernel_rfl

/-- siskin/siskinref23.Num -/
def vp126 : VP where
  keep := [0, 1, 4, 5]
  cold := fun _ => []
  take := fun _ => []
  outs := fun _ => []
  fin := []
  inst := fun _ g => g
  loop := fun _ => none
  join := fun _ => none
  rjoin := fun _ => none

noncomputable def g126 (ρ : Prims) (C : TyC sigA) (k : Nat) (x : Bool × Int) : Option (Bool) :=
  bif x.1 then bif ρ.lt 0 x.2 then some (ρ.le x.2 72057594037927935) else some false else some (ρ.eq x.2 0)

theorem g126_eq (ρ : Prims) (C : TyC sigA) (k : Nat) (x : (sigA 126).inT.den) : bodyV ρ C tvA vp126 Try.f126 k 126 x = g126 ρ C k x := by kernel_rfl

/-- siskin/siskinref23.Check -/
def vp62 : VP where
  keep := [1, 2, 37, 65]
  cold := fun _ => []
  take := fun _ => []
  outs := fun _ => []
  fin := []
  inst := fun _ g => g
  loop := fun _ => none
  join := fun _ => none
  rjoin := fun _ => none

noncomputable def g62 (ρ : Prims) (C : TyC sigA) (k : Nat) (x : Int × Int × Int × Int × Int × Int × ByteArray) : Option (Bool) :=
  bif ρ.lt x.1 1 then some false else bif ρ.lt 4 x.1 then some false else bif ρ.lt x.2.1 0 then some false else bif ρ.lt 71 x.2.1 then some false else bif ρ.lt x.2.2.1 0 then some false else bif ρ.lt 71 x.2.2.1 then some false else bif ρ.eq x.2.1 x.2.2.1 then some false else optK (α := Bool) (q126 C (true, x.2.2.2.1)) (fun (x1 : Bool) => bif ρ.not x1 then some false else optK (α := Bool) (q126 C (ρ.lt x.1 4, x.2.2.2.2.1)) (fun (x2 : Bool) => bif ρ.not x2 then some false else optK (α := Bool) (q126 C (ρ.lt x.1 3, x.2.2.2.2.2.1)) (fun (x3 : Bool) => bif ρ.not x3 then some false else bif ρ.lt 32 (ρ.size x.2.2.2.2.2.2) then some false else bif ρ.eq x.1 1 then some (ρ.beq (ρ.lt 0 (ρ.size x.2.2.2.2.2.2)) true) else some (ρ.beq (ρ.lt 0 (ρ.size x.2.2.2.2.2.2)) (ρ.eq x.1 4)))))

theorem g62_eq (ρ : Prims) (C : TyC sigA) (k : Nat) (x : (sigA 62).inT.den) : bodyV ρ C tvA vp62 Try.f62 k 62 x = g62 ρ C k x := by kernel_rfl

/-- siskin/siskinref24.Learn -/
def vp141 : VP where
  keep := [1, 2, 4, 5, 9, 17]
  cold := fun _ => []
  take := fun _ => []
  outs := fun _ => []
  fin := []
  inst := fun _ g => g
  loop := fun _ => none
  join := fun _ => none
  rjoin := fun _ => none

noncomputable def g141 (ρ : Prims) (C : TyC sigA) (k : Nat) (x : (Int × Int × (List ByteArray) × Int × Int) × Int) : Option ((Int × Int × (List ByteArray) × Int × Int) × Bool) :=
  bif ρ.le x.2 x.1.1 then some (x.1, false) else bif ρ.eq (ρ.len x.1.2.2.1) 0 then some ((x.2, 1, x.1.2.2), false) else some ((x.2, 1, x.1.2.2.1, 1, 1), true)

theorem g141_eq (ρ : Prims) (C : TyC sigA) (k : Nat) (x : (sigA 141).inT.den) : bodyV ρ C tvA vp141 Try.f141 k 141 x = g141 ρ C k x := by kernel_rfl

/-- siskin/siskinref25.Learn -/
def vp142 : VP where
  keep := [1, 2, 4, 8]
  cold := fun _ => []
  take := fun _ => []
  outs := fun _ => []
  fin := []
  inst := fun _ g => g
  loop := fun _ => none
  join := fun _ => none
  rjoin := fun _ => none

noncomputable def g142 (ρ : Prims) (C : TyC sigA) (k : Nat) (x : (Int × Int × Int) × Int) : Option (Int × Int × Int) :=
  bif ρ.lt x.1.2.1 x.2 then some (x.1.1, x.2, 0) else some x.1

theorem g142_eq (ρ : Prims) (C : TyC sigA) (k : Nat) (x : (sigA 142).inT.den) : bodyV ρ C tvA vp142 Try.f142 k 142 x = g142 ρ C k x := by kernel_rfl

/-- siskin/siskinref26.Learn -/
def vp88 : VP where
  keep := [1, 2, 4, 5, 6, 7]
  cold := fun
    | 4 => [(500002, [5]), (7, [])]
    | _ => []
  take := fun
    | 4 => [1000003]
    | _ => []
  outs := fun
    | 4 => [4]
    | _ => []
  fin := []
  inst := fun _ g => g
  loop := fun _ => none
  join := fun _ => none
  rjoin := fun _ => none

noncomputable def g88 (ρ : Prims) (C : TyC sigA) (k : Nat) (x : (Int × Int × Int × (Int × Int × (List ByteArray) × Int × Int) × Int × Int × Int) × Int) : Option ((Int × Int × Int × (Int × Int × (List ByteArray) × Int × Int) × Int × Int × Int) × (List (Int × Int × Int × Int × Int × Int × ByteArray))) :=
  optK (α := (Int × Int × (List ByteArray) × Int × Int) × Bool) (q141 C (x.1.2.2.2.1, x.2)) (fun (x1 : (Int × Int × (List ByteArray) × Int × Int) × Bool) => optK (α := Int × Int × Int) (q142 C (x.1.2.2.2.2, x.2)) (fun (x2 : Int × Int × Int) => optK (α := List (Int × Int × Int × Int × Int × Int × ByteArray)) (q84 C ((x.1.1, x.1.2.1, x.1.2.2.1, x1.1, x2), x1.2)) (fun (x3 : List (Int × Int × Int × Int × Int × Int × ByteArray)) => some ((x.1.1, x.1.2.1, x.1.2.2.1, x1.1, x2), x3))))

theorem g88_eq (ρ : Prims) (C : TyC sigA) (k : Nat) (x : (sigA 88).inT.den) : bodyV ρ C tvA vp88 Try.f88 k 88 x = g88 ρ C k x := by kernel_rfl

end Go.PI
