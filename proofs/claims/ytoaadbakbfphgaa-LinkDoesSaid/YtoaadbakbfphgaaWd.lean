/- Functions as the typed layer prints them. -/
import Derived.Test.YtoaadbakbfphgaaWa
namespace Go.PI
open Go Go.Proofs
set_option maxRecDepth 100000
set_option linter.unusedVariables false

/-- siskin/pack.only -/
def vp132 : VP where
  keep := [1, 2, 6, 11, 16]
  cold := fun _ => []
  take := fun _ => []
  outs := fun _ => []
  fin := []
  inst := fun _ g => g
  loop := fun _ => none
  join := fun
    | 3 => some ⟨19, [(1, .ptr 1 0), (2, .ptr 0 0)], [], [R58, R58], [], false⟩
    | 5 => some ⟨19, [(1, .ptr 1 0), (2, .ptr 0 0)], [], [R58, R58], [], false⟩
    | _ => none
  rjoin := fun _ => none

noncomputable def g132 (ρ : Prims) (C : TyC sigA) (k : Nat) (x : Int × Int × Int × Int × Int × Int × ByteArray) : Option (Int × Int × Int × Int × Int × Int × ByteArray) :=
  optK (α := (Unit × Unit × (Int × Int × Int × Int × Int × Int × ByteArray) × Int × Int × Int × Int × Int × Int × ByteArray) ⊕ (Int × Int × Int × Int × Int × Int × ByteArray)) (optK (α := Bool) (q135 C x.1) (fun (x1 : Bool) => bif ρ.not x1 then some (.inl ((), (), (0, 0, 0, 0, 0, 0, ⟨#[]⟩), x.1, x.2.1, x.2.2.1, x.2.2.2.1, 0, x.2.2.2.2.2)) else some (.inl ((), (), (0, 0, 0, 0, 0, 0, ⟨#[]⟩), x)))) (fun (x1 : (Unit × Unit × (Int × Int × Int × Int × Int × Int × ByteArray) × Int × Int × Int × Int × Int × Int × ByteArray) ⊕ (Int × Int × Int × Int × Int × Int × ByteArray)) => sumK x1 (fun (x2 : Unit × Unit × (Int × Int × Int × Int × Int × Int × ByteArray) × Int × Int × Int × Int × Int × Int × ByteArray) => optK (α := (Unit × Unit × (Int × Int × Int × Int × Int × Int × ByteArray) × Int × Int × Int × Int × Int × Int × ByteArray) ⊕ (Int × Int × Int × Int × Int × Int × ByteArray)) (optK (α := Bool) (q136 C x2.2.2.2.1) (fun (x3 : Bool) => bif ρ.not x3 then some (.inl ((), (), x2.2.2.1, x2.2.2.2.1, x2.2.2.2.2.1, x2.2.2.2.2.2.1, x2.2.2.2.2.2.2.1, x2.2.2.2.2.2.2.2.1, 0, x2.2.2.2.2.2.2.2.2.2)) else some (.inl ((), (), x2.2.2)))) (fun (x3 : (Unit × Unit × (Int × Int × Int × Int × Int × Int × ByteArray) × Int × Int × Int × Int × Int × Int × ByteArray) ⊕ (Int × Int × Int × Int × Int × Int × ByteArray)) => sumK x3 (fun (x4 : Unit × Unit × (Int × Int × Int × Int × Int × Int × ByteArray) × Int × Int × Int × Int × Int × Int × ByteArray) => optK (α := Bool) (q133 C x4.2.2.2.1) (fun (x5 : Bool) => bif ρ.not x5 then some (x4.2.2.2.1, x4.2.2.2.2.1, x4.2.2.2.2.2.1, x4.2.2.2.2.2.2.1, x4.2.2.2.2.2.2.2.1, x4.2.2.2.2.2.2.2.2.1, ⟨#[]⟩) else some x4.2.2.2)) (fun (x4 : Int × Int × Int × Int × Int × Int × ByteArray) => some x4))) (fun (x2 : Int × Int × Int × Int × Int × Int × ByteArray) => some x2))

theorem g132_eq (ρ : Prims) (C : TyC sigA) (k : Nat) (x : (sigA 132).inT.den) : bodyV ρ C tvA vp132 Try.f132 k 132 x = g132 ρ C k x := by kernel_rfl

/-- siskin/pack.number -/
def vp134 : VP where
  keep := [0, 1, 4]
  cold := fun _ => []
  take := fun _ => []
  outs := fun _ => []
  fin := []
  inst := fun _ g => g
  loop := fun _ => none
  join := fun _ => none
  rjoin := fun _ => none

noncomputable def g134 (ρ : Prims) (C : TyC sigA) (k : Nat) (x : Bool × Int) : Option (Bool) :=
  bif ρ.not x.1 then some true else bif ρ.le 1 x.2 then some (ρ.le x.2 72057594037927935) else some false

theorem g134_eq (ρ : Prims) (C : TyC sigA) (k : Nat) (x : (sigA 134).inT.den) : bodyV ρ C tvA vp134 Try.f134 k 134 x = g134 ρ C k x := by kernel_rfl

/-- siskin/pack.Check -/
def vp78 : VP where
  keep := [1, 2, 45]
  cold := fun _ => []
  take := fun _ => []
  outs := fun _ => []
  fin := []
  inst := fun _ g => g
  loop := fun _ => none
  join := fun _ => none
  rjoin := fun
    | 1 => some ⟨71, [(1, .ptr 0 0), (45, .bool)], [], [R58], [], false⟩
    | _ => none

noncomputable def g78 (ρ : Prims) (C : TyC sigA) (k : Nat) (x : Int × Int × Int × Int × Int × Int × ByteArray) : Option (Bool) :=
  optK (α := Unit × Bool × Int × Int × Int × Int × Int × Int × ByteArray) (bif ρ.lt x.1 1 then some ((), true, x) else bif ρ.lt 4 x.1 then some ((), true, x) else optK (α := Bool) (q131 C x.2.1) (fun (x1 : Bool) => bif ρ.not x1 then some ((), true, x) else optK (α := Bool) (q131 C x.2.2.1) (fun (x2 : Bool) => bif ρ.not x2 then some ((), true, x) else bif ρ.eq x.2.1 x.2.2.1 then some ((), true, x) else optK (α := Int × Int × Int × Int × Int × Int × ByteArray) (q132 C x) (fun (x3 : Int × Int × Int × Int × Int × Int × ByteArray) => bif ρ.not (ρ.and (ρ.eq x.1 x3.1) (ρ.and (ρ.eq x.2.1 x3.2.1) (ρ.and (ρ.eq x.2.2.1 x3.2.2.1) (ρ.and (ρ.eq x.2.2.2.1 x3.2.2.2.1) (ρ.and (ρ.eq x.2.2.2.2.1 x3.2.2.2.2.1) (ρ.and (ρ.eq x.2.2.2.2.2.1 x3.2.2.2.2.2.1) (ρ.and (ρ.eqB x.2.2.2.2.2.2 x3.2.2.2.2.2.2) true))))))) then some ((), true, x) else optK (α := Bool) (q133 C x.1) (fun (x4 : Bool) => bif x4 then some ((), ρ.eqS x.2.2.2.2.2.2 ⟨#[]⟩, x) else some ((), false, x)))))) (fun (x1 : Unit × Bool × Int × Int × Int × Int × Int × Int × ByteArray) => bif x1.2.1 then some false else optK (α := Bool) (q134 C (true, x1.2.2.2.2.2.1)) (fun (x2 : Bool) => bif x2 then optK (α := Bool) (q135 C x1.2.2.1) (fun (x3 : Bool) => optK (α := Bool) (q134 C (x3, x1.2.2.2.2.2.2.1)) (fun (x4 : Bool) => bif x4 then optK (α := Bool) (q136 C x1.2.2.1) (fun (x5 : Bool) => optK (α := Bool) (q134 C (x5, x1.2.2.2.2.2.2.2.1)) (fun (x6 : Bool) => bif x6 then some (ρ.le (ρ.size x1.2.2.2.2.2.2.2.2) 32) else some false)) else some false)) else some false))

theorem g78_eq (ρ : Prims) (C : TyC sigA) (k : Nat) (x : (sigA 78).inT.den) : bodyV ρ C tvA vp78 Try.f78 k 78 x = g78 ρ C k x := by kernel_rfl

/-- siskin/seen.Take -/
def vp80 : VP where
  keep := [1, 2, 3, 4, 8, 9, 13, 18, 24, 30, 40]
  cold := fun _ => []
  take := fun _ => []
  outs := fun _ => []
  fin := []
  inst := fun _ g => g
  loop := fun _ => none
  join := fun _ => none
  rjoin := fun
    | 8 => some ⟨59, [(3, .int .i64), (4, .ptr 1 0), (8, .ptr 0 0), (30, .bool)], [], [R49, R49], [], false⟩
    | 10 => some ⟨59, [(3, .int .i64), (4, .ptr 1 0), (8, .ptr 0 0), (40, .bool)], [], [R49, R49], [], false⟩
    | _ => none

noncomputable def g80 (ρ : Prims) (C : TyC sigA) (k : Nat) (x : (Int × Int × Int) × Int × Int × Int) : Option ((Int × Int × Int) × Int) :=
  bif ρ.lt x.2.1 x.1.2.1 then some (x.1, 0) else optK (α := Int × Int × Int) (q137 C (x.1, x.2.1)) (fun (x1 : Int × Int × Int) => bif ρ.lt x.2.2.1 x1.1 then some (x1, 3) else bif ρ.lt x1.1 x.2.2.1 then some (x1, 0) else optK (α := Int × Unit × Unit × Bool × (Int × Int × Int) × Int × Int × Int) (bif ρ.le 1 x.2.2.2 then some (x.2.2.2, (), (), ρ.le x.2.2.2 x1.2.2, (0, 0, 0), x1) else some (x.2.2.2, (), (), false, (0, 0, 0), x1)) (fun (x2 : Int × Unit × Unit × Bool × (Int × Int × Int) × Int × Int × Int) => bif x2.2.2.2.1 then some (x2.2.2.2.2.2, 2) else optK (α := Int × Unit × Unit × Bool × (Int × Int × Int) × Int × Int × Int) (bif ρ.not (ρ.eq (ρ.wrap .i64 (ρ.sub x2.1 1)) x2.2.2.2.2.2.2.2) then some (x2.1, (), (), true, x2.2.2.2.2) else bif ρ.lt x2.1 1 then some (x2.1, (), (), ρ.le 0 x2.2.2.2.2.2.2.2, x2.2.2.2.2) else some (x2.1, (), (), false, x2.2.2.2.2)) (fun (x3 : Int × Unit × Unit × Bool × (Int × Int × Int) × Int × Int × Int) => bif x3.2.2.2.1 then some (x3.2.2.2.2.2, 0) else some ((x3.2.2.2.2.2.1, x3.2.2.2.2.2.2.1, x3.1), 1))))

theorem g80_eq (ρ : Prims) (C : TyC sigA) (k : Nat) (x : (sigA 80).inT.den) : bodyV ρ C tvA vp80 Try.f80 k 80 x = g80 ρ C k x := by kernel_rfl

/-- siskin/link.answer -/
def vp81 : VP where
  keep := [1, 3, 4, 6, 8]
  cold := fun _ => []
  take := fun _ => []
  outs := fun _ => []
  fin := []
  inst := fun _ g => g
  loop := fun _ => none
  join := fun _ => none
  rjoin := fun _ => none

noncomputable def g81 (ρ : Prims) (C : TyC sigA) (k : Nat) (x : (Int × Int × Int × (Int × Int × (List ByteArray) × Int × Int) × Int × Int × Int) × Int × (Int × Int × Int × Int × Int × Int × ByteArray) × Int) : Option (Int × Int × Int × Int × Int × Int × ByteArray) :=
  some (x.2.1, x.1.1, x.1.2.1, x.1.2.2.1, x.2.2.1.2.2.2.1, x.2.2.2, ⟨#[]⟩)

theorem g81_eq (ρ : Prims) (C : TyC sigA) (k : Nat) (x : (sigA 81).inT.den) : bodyV ρ C tvA vp81 Try.f81 k 81 x = g81 ρ C k x := by kernel_rfl

/-- siskin/siskinref14.Number -/
def vp130 : VP where
  keep := [0, 2, 3, 4, 5, 7, 11, 15, 27]
  cold := fun _ => []
  take := fun _ => []
  outs := fun _ => []
  fin := []
  inst := fun _ g => g
  loop := fun
    | 5 => some ⟨31, [(0, .int .i64), (3, .str), (4, .bool)], [], [], [], false⟩
    | _ => none
  join := fun
    | 9 => some ⟨31, [(0, .int .i64), (3, .str), (4, .bool), (5, .int .i64)], [], [], [], false⟩
    | _ => none
  rjoin := fun _ => none

noncomputable def g130 (ρ : Prims) (C : TyC sigA) (k : Nat) (x : Int) : Option (ByteArray) :=
  bif ρ.eq x 0 then some ⟨#[48]⟩ else ρ.loop k (fun (x1 : Int × ByteArray × Bool) => bif ρ.not (ρ.eq x1.1 0) then optK (α := (Int × ByteArray × Bool × Int) ⊕ ((Int × ByteArray × Bool) ⊕ (ByteArray))) (bif ρ.lt (ρ.rem x1.1 10) 0 then some (.inl (x1.1, x1.2.1, x1.2.2, ρ.wrap .i64 (ρ.sub 0 (ρ.rem x1.1 10)))) else some (.inl (x1.1, x1.2.1, x1.2.2, ρ.rem x1.1 10))) (fun (x2 : (Int × ByteArray × Bool × Int) ⊕ ((Int × ByteArray × Bool) ⊕ (ByteArray))) => sumK x2 (fun (x3 : Int × ByteArray × Bool × Int) => bif ρ.fitS (ρ.toStr [ρ.wrap .u8 (ρ.wrap .i64 (ρ.add 48 x3.2.2.2))]) x3.2.1 then some (.inl (ρ.wrap .i64 (ρ.quo x3.1 10), ρ.cat (ρ.toStr [ρ.wrap .u8 (ρ.wrap .i64 (ρ.add 48 x3.2.2.2))]) x3.2.1, x3.2.2.1)) else none) (fun (x3 : (Int × ByteArray × Bool) ⊕ (ByteArray)) => some x3)) else optK (α := ByteArray) (bif x1.2.2 then bif ρ.fitS ⟨#[45]⟩ x1.2.1 then some (ρ.cat ⟨#[45]⟩ x1.2.1) else none else some x1.2.1) (fun (x2 : ByteArray) => some (.inr x2))) (x, ⟨#[]⟩, ρ.lt x 0)

theorem g130_eq (ρ : Prims) (C : TyC sigA) (k : Nat) (x : (sigA 130).inT.den) : bodyV ρ C tvA vp130 Try.f130 k 130 x = g130 ρ C k x := by kernel_rfl

/-- siskin/link.Take -/
def vp27 : VP where
  keep := [2, 3, 4, 5, 6, 7, 8, 9, 10, 11, 36, 39, 43, 66, 67, 80, 90, 98, 104, 129, 135]
  cold := fun
    | 4 => [(2, [5])]
    | 11 => [(2, [5])]
    | _ => []
  take := fun
    | 11 => [7]
    | _ => []
  outs := fun
    | 4 => [4]
    | 11 => [4]
    | _ => []
  fin := [(7, [])]
  inst := fun _ g => g
  loop := fun _ => none
  join := fun
    | 25 => some ⟨145, [(2, .ptr 1 0), (4, .ptr 0 0), (7, .sl 2 R58)], [], [.pair (.int .i64) (.pair (.int .i64) (.pair (.int .i64) (.pair (.pair (.int .i64) (.pair (.int .i64) (.pair (.sl 2 .str) R26))) R49))), .pair (.int .i64) (.pair (.int .i64) (.pair (.int .i64) (.pair (.pair (.int .i64) (.pair (.int .i64) (.pair (.sl 0 .str) R26))) R49))), R58], [], false⟩
    | _ => none
  rjoin := fun _ => none

noncomputable def g27 (ρ : Prims) (C : TyC sigA) (k : Nat) (x : (Int × Int × Int × (Int × Int × (List ByteArray) × Int × Int) × Int × Int × Int) × Int × Int × Int × Int × Int × Int × ByteArray) : Option ((Int × Int × Int × (Int × Int × (List ByteArray) × Int × Int) × Int × Int × Int) × ByteArray × Bool × (List (Int × Int × Int × Int × Int × Int × ByteArray))) :=
  optK (α := Bool) (q78 C x.2) (fun (x1 : Bool) => bif ρ.not x1 then some (x.1, ⟨#[]⟩, false, []) else bif ρ.not (ρ.eq x.2.2.1 x.1.2.1) then some (x.1, ⟨#[]⟩, false, []) else bif ρ.not (ρ.eq x.2.2.2.1 x.1.1) then some (x.1, ⟨#[]⟩, false, []) else bif ρ.lt x.2.2.2.2.1 x.1.2.2.2.2.2.1 then some (x.1, ⟨#[]⟩, false, []) else optK (α := (Unit × Unit × (List (Int × Int × Int × Int × Int × Int × ByteArray)) × (Int × Int × Int × (Int × Int × (List ByteArray) × Int × Int) × Int × Int × Int) × (Int × Int × Int × (Int × Int × (List ByteArray) × Int × Int) × Int × Int × Int) × Int × Int × Int × Int × Int × Int × ByteArray) ⊕ ((Int × Int × Int × (Int × Int × (List ByteArray) × Int × Int) × Int × Int × Int) × ByteArray × Bool × (List (Int × Int × Int × Int × Int × Int × ByteArray)))) (bif ρ.eq x.2.1 1 then optK (α := (Int × Int × Int × (Int × Int × (List ByteArray) × Int × Int) × Int × Int × Int) × (List (Int × Int × Int × Int × Int × Int × ByteArray))) (q79 C (x.1, x.2.2.2.2.1)) (fun (x2 : (Int × Int × Int × (Int × Int × (List ByteArray) × Int × Int) × Int × Int × Int) × (List (Int × Int × Int × Int × Int × Int × ByteArray))) => optK (α := (Int × Int × Int) × Int) (q80 C (x2.1.2.2.2.2, x.2.2.2.2.1, x.2.2.2.2.2.1, x.2.2.2.2.2.2.1)) (fun (x3 : (Int × Int × Int) × Int) => bif ρ.eq x3.2 1 then optK (α := Int × Int × Int × Int × Int × Int × ByteArray) (q81 C ((x2.1.1, x2.1.2.1, x2.1.2.2.1, x2.1.2.2.2.1, x3.1), 2, x.2, x.2.2.2.2.2.2.1)) (fun (x4 : Int × Int × Int × Int × Int × Int × ByteArray) => bif ρ.fits x2.2 [x4] 64 then some (.inr ((x2.1.1, x2.1.2.1, x2.1.2.2.1, x2.1.2.2.2.1, x3.1), x.2.2.2.2.2.2.2, true, ρ.app x2.2 [x4])) else none) else bif ρ.eq x3.2 2 then optK (α := Int × Int × Int × Int × Int × Int × ByteArray) (q81 C ((x2.1.1, x2.1.2.1, x2.1.2.2.1, x2.1.2.2.2.1, x3.1), 2, x.2, x.2.2.2.2.2.2.1)) (fun (x4 : Int × Int × Int × Int × Int × Int × ByteArray) => bif ρ.fits x2.2 [x4] 64 then some (.inl ((), (), ρ.app x2.2 [x4], (0, 0, 0, (0, 0, [], 0, 0), 0, 0, 0), (x2.1.1, x2.1.2.1, x2.1.2.2.1, x2.1.2.2.2.1, x3.1), x.2)) else none) else bif ρ.eq x3.2 3 then optK (α := Int × Int × Int × Int × Int × Int × ByteArray) (q81 C ((x2.1.1, x2.1.2.1, x2.1.2.2.1, x2.1.2.2.2.1, x3.1), 3, x.2, 0)) (fun (x4 : Int × Int × Int × Int × Int × Int × ByteArray) => bif ρ.fits x2.2 [x4] 64 then some (.inl ((), (), ρ.app x2.2 [x4], (0, 0, 0, (0, 0, [], 0, 0), 0, 0, 0), (x2.1.1, x2.1.2.1, x2.1.2.2.1, x2.1.2.2.2.1, x3.1), x.2)) else none) else some (.inl ((), (), x2.2, (0, 0, 0, (0, 0, [], 0, 0), 0, 0, 0), (x2.1.1, x2.1.2.1, x2.1.2.2.1, x2.1.2.2.2.1, x3.1), x.2)))) else bif ρ.eq x.2.1 2 then bif ρ.not (ρ.eq x.2.2.2.2.2.1 x.1.2.2.1) then some (.inl ((), (), [], (0, 0, 0, (0, 0, [], 0, 0), 0, 0, 0), x)) else optK (α := (Int × Int × Int × (Int × Int × (List ByteArray) × Int × Int) × Int × Int × Int) × (List (Int × Int × Int × Int × Int × Int × ByteArray))) (q79 C (x.1, x.2.2.2.2.1)) (fun (x2 : (Int × Int × Int × (Int × Int × (List ByteArray) × Int × Int) × Int × Int × Int) × (List (Int × Int × Int × Int × Int × Int × ByteArray))) => optK (α := (Int × Int × (List ByteArray) × Int × Int) × Bool) (q15 C (x2.1.2.2.2.1, x.2.2.2.2.1, x.2.2.2.2.2.2.1)) (fun (x3 : (Int × Int × (List ByteArray) × Int × Int) × Bool) => optK (α := List (Int × Int × Int × Int × Int × Int × ByteArray)) (q77 C ((x2.1.1, x2.1.2.1, x2.1.2.2.1, x3.1, x2.1.2.2.2.2), x3.2)) (fun (x4 : List (Int × Int × Int × Int × Int × Int × ByteArray)) => bif ρ.fits x2.2 x4 64 then some (.inl ((), (), ρ.app x2.2 x4, (0, 0, 0, (0, 0, [], 0, 0), 0, 0, 0), (x2.1.1, x2.1.2.1, x2.1.2.2.1, x3.1, x2.1.2.2.2.2), x.2)) else none))) else bif ρ.eq x.2.1 3 then bif ρ.le x.2.2.2.2.2.1 x.1.2.2.1 then optK (α := (Int × Int × Int × (Int × Int × (List ByteArray) × Int × Int) × Int × Int × Int) × (List (Int × Int × Int × Int × Int × Int × ByteArray))) (q79 C (x.1, x.2.2.2.2.1)) (fun (x2 : (Int × Int × Int × (Int × Int × (List ByteArray) × Int × Int) × Int × Int × Int) × (List (Int × Int × Int × Int × Int × Int × ByteArray))) => some (.inl ((), (), x2.2, (0, 0, 0, (0, 0, [], 0, 0), 0, 0, 0), x2.1, x.2))) else some (.inl ((), (), [], (0, 0, 0, (0, 0, [], 0, 0), 0, 0, 0), x)) else some (.inr (x.1, x.2.2.2.2.2.2.2, true, []))) (fun (x2 : (Unit × Unit × (List (Int × Int × Int × Int × Int × Int × ByteArray)) × (Int × Int × Int × (Int × Int × (List ByteArray) × Int × Int) × Int × Int × Int) × (Int × Int × Int × (Int × Int × (List ByteArray) × Int × Int) × Int × Int × Int) × Int × Int × Int × Int × Int × Int × ByteArray) ⊕ ((Int × Int × Int × (Int × Int × (List ByteArray) × Int × Int) × Int × Int × Int) × ByteArray × Bool × (List (Int × Int × Int × Int × Int × Int × ByteArray)))) => sumK x2 (fun (x3 : Unit × Unit × (List (Int × Int × Int × Int × Int × Int × ByteArray)) × (Int × Int × Int × (Int × Int × (List ByteArray) × Int × Int) × Int × Int × Int) × (Int × Int × Int × (Int × Int × (List ByteArray) × Int × Int) × Int × Int × Int) × Int × Int × Int × Int × Int × Int × ByteArray) => some (x3.2.2.2.2.1, ⟨#[]⟩, false, x3.2.2.1)) (fun (x3 : (Int × Int × Int × (Int × Int × (List ByteArray) × Int × Int) × Int × Int × Int) × ByteArray × Bool × (List (Int × Int × Int × Int × Int × Int × ByteArray))) => some x3)))

theorem g27_eq (ρ : Prims) (C : TyC sigA) (k : Nat) (x : (sigA 27).inT.den) : bodyV ρ C tvA vp27 Try.f27 k 27 x = g27 ρ C k x := by kernel_rfl

/-- siskin/siskinlaw26.begun -/
def vp20 : VP where
  keep := [0]
  cold := fun _ => []
  take := fun _ => []
  outs := fun _ => []
  fin := []
  inst := fun _ g => g
  loop := fun _ => none
  join := fun _ => none
  rjoin := fun _ => none

noncomputable def g20 (ρ : Prims) (C : TyC sigA) (k : Nat) (x : Unit) : Option (Unit × (Int × Int × Int × (Int × Int × (List ByteArray) × Int × Int) × Int × Int × Int) × (Int × Int × Int × (Int × Int × (List ByteArray) × Int × Int) × Int × Int × Int) × (List (Int × Int × Int × Int × Int × Int × ByteArray)) × (Int × Int) × (Int × Int) × Bool) :=
  optK (α := Int × Int × Int × (Int × Int × (List ByteArray) × Int × Int) × Int × Int × Int) (q25 C (0, 8, 1)) (fun (x1 : Int × Int × Int × (Int × Int × (List ByteArray) × Int × Int) × Int × Int × Int) => optK (α := Int × Int × Int × (Int × Int × (List ByteArray) × Int × Int) × Int × Int × Int) (q25 C (8, 0, 1)) (fun (x2 : Int × Int × Int × (Int × Int × (List ByteArray) × Int × Int) × Int × Int × Int) => some ((), x1, x2, [], (0, 0), (0, 0), true)))

theorem g20_eq (ρ : Prims) (C : TyC sigA) (k : Nat) (x : (sigA 20).inT.den) : bodyV ρ C tvA vp20 Try.f20 k 20 x = g20 ρ C k x := by kernel_rfl

/-- siskin/siskinlaw26.name -/
def vp75 : VP where
  keep := [0, 2]
  cold := fun _ => []
  take := fun _ => []
  outs := fun _ => []
  fin := []
  inst := fun _ g => g
  loop := fun _ => none
  join := fun _ => none
  rjoin := fun _ => none

noncomputable def g75 (ρ : Prims) (C : TyC sigA) (k : Nat) (x : Int) : Option (ByteArray) :=
  optK (α := ByteArray) (q130 C x) (fun (x1 : ByteArray) => bif ρ.fitS ⟨#[116]⟩ x1 then some (ρ.cat ⟨#[116]⟩ x1) else none)

theorem g75_eq (ρ : Prims) (C : TyC sigA) (k : Nat) (x : (sigA 75).inT.den) : bodyV ρ C tvA vp75 Try.f75 k 75 x = g75 ρ C k x := by kernel_rfl

/-- siskin/sent.Put$1 -/
def vp68 : VP where
  keep := [0, 1, 3]
  cold := fun _ => []
  take := fun _ => []
  outs := fun _ => []
  fin := []
  inst := fun _ g => g
  loop := fun _ => none
  join := fun _ => none
  rjoin := fun _ => none

noncomputable def g68 (ρ : Prims) (C : TyC sigA) (k : Nat) (x : ByteArray × Unit × (Int × Int × (List ByteArray) × Int × Int) × (Int × Int × (List ByteArray) × Int × Int) × ByteArray) : Option (Bool × (Int × Int × (List ByteArray) × Int × Int) × (Int × Int × (List ByteArray) × Int × Int) × ByteArray) :=
  some (ρ.eqS x.1 x.2.2.2.2, x.2.2)

theorem g68_eq (ρ : Prims) (C : TyC sigA) (k : Nat) (x : (sigA 68).inT.den) : bodyV ρ C tvA vp68 Try.f68 k 68 x = g68 ρ C k x := by kernel_rfl

end Go.PI
