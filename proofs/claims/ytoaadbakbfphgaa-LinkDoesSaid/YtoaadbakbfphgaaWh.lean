/- Functions as the typed layer prints them. -/
import Derived.Test.YtoaadbakbfphgaaWa
namespace Go.PI
open Go Go.Proofs
set_option maxRecDepth 100000
set_option linter.unusedVariables false

/-- siskin/siskinref24.Acked -/
def vp89 : VP where
  keep := [1, 2, 3, 6, 7, 23, 38]
  cold := fun _ => []
  take := fun _ => []
  outs := fun _ => []
  fin := []
  inst := fun _ g => g
  loop := fun _ => none
  join := fun _ => none
  rjoin := fun _ => none

noncomputable def g89 (ρ : Prims) (C : TyC sigA) (k : Nat) (x : (Int × Int × (List ByteArray) × Int × Int) × Int × Int) : Option ((Int × Int × (List ByteArray) × Int × Int) × Bool) :=
  bif ρ.eq (ρ.len x.1.2.2.1) 0 then some (x.1, false) else bif ρ.not (ρ.eq x.2.1 x.1.1) then some (x.1, false) else bif ρ.not (ρ.eq x.2.2 x.1.2.1) then some (x.1, false) else bif ρ.bnd 1 (ρ.len x.1.2.2.1) (ρ.len x.1.2.2.1) then bif ρ.eq (ρ.len (ρ.drop x.1.2.2.1 1)) 0 then some ((x.1.1, ρ.wrap .i64 (ρ.add x.1.2.1 1), ρ.drop x.1.2.2.1 1, 1, 0), false) else some ((x.1.1, ρ.wrap .i64 (ρ.add x.1.2.1 1), ρ.drop x.1.2.2.1 1, 1, 1), true) else none

theorem g89_eq (ρ : Prims) (C : TyC sigA) (k : Nat) (x : (sigA 89).inT.den) : bodyV ρ C tvA vp89 Try.f89 k 89 x = g89 ρ C k x := by kernel_rfl

/-- siskin/siskinref25.Take -/
def vp90 : VP where
  keep := [1, 2, 3, 4, 8, 9, 13, 21, 26, 37, 48]
  cold := fun _ => []
  take := fun _ => []
  outs := fun _ => []
  fin := []
  inst := fun _ g => g
  loop := fun _ => none
  join := fun _ => none
  rjoin := fun
    | 8 => some ⟨51, [(3, .int .i64), (4, .ptr 1 0), (8, .ptr 0 0), (37, .bool)], [], [R49, R49], [], false⟩
    | _ => none

noncomputable def g90 (ρ : Prims) (C : TyC sigA) (k : Nat) (x : (Int × Int × Int) × Int × Int × Int) : Option ((Int × Int × Int) × Int) :=
  bif ρ.lt x.2.1 x.1.2.1 then some (x.1, 0) else optK (α := Int × Int × Int) (q142 C (x.1, x.2.1)) (fun (x1 : Int × Int × Int) => bif ρ.lt x.2.2.1 x1.1 then some (x1, 3) else bif ρ.lt x1.1 x.2.2.1 then some (x1, 0) else optK (α := Int × Unit × Unit × Bool × (Int × Int × Int) × Int × Int × Int) (bif ρ.lt x1.2.2 9223372036854775807 then some (x.2.2.2, (), (), ρ.eq x.2.2.2 (ρ.wrap .i64 (ρ.add x1.2.2 1)), (0, 0, 0), x1) else some (x.2.2.2, (), (), false, (0, 0, 0), x1)) (fun (x2 : Int × Unit × Unit × Bool × (Int × Int × Int) × Int × Int × Int) => bif x2.2.2.2.1 then some ((x2.2.2.2.2.2.1, x2.2.2.2.2.2.2.1, x2.1), 1) else bif ρ.le 1 x2.1 then bif ρ.le x2.1 x2.2.2.2.2.2.2.2 then some (x2.2.2.2.2.2, 2) else some (x2.2.2.2.2.2, 0) else some (x2.2.2.2.2.2, 0)))

theorem g90_eq (ρ : Prims) (C : TyC sigA) (k : Nat) (x : (sigA 90).inT.den) : bodyV ρ C tvA vp90 Try.f90 k 90 x = g90 ρ C k x := by kernel_rfl

/-- siskin/siskinref26.Take -/
def vp37 : VP where
  keep := [2, 3, 4, 5, 6, 7, 8, 9, 10, 11, 12, 13, 14, 15, 40, 45, 52, 57, 72, 77, 140, 144, 150]
  cold := fun _ => []
  take := fun _ => []
  outs := fun _ => []
  fin := []
  inst := fun _ g => g
  loop := fun _ => none
  join := fun
    | 25 => some ⟨159, [(3, .ptr 2 0), (4, .ptr 0 0), (11, .ptr 3 0), (12, .sl 2 R58), (14, .int .i64), (15, .ptr 5 0)], [], [.pair (.pair (.int .i64) (.pair (.int .i64) (.pair (.int .i64) (.pair (.pair (.int .i64) (.pair (.int .i64) (.pair (.sl 2 .str) R26))) R49)))) (.pair .str (.pair .bool (.sl 2 R58))), .pair (.int .i64) (.pair (.int .i64) (.pair (.int .i64) (.pair (.pair (.int .i64) (.pair (.int .i64) (.pair (.sl 0 .str) R26))) R49))), R58, .pair (.int .i64) (.pair (.int .i64) (.pair (.int .i64) (.pair (.pair (.int .i64) (.pair (.int .i64) (.pair (.sl 0 .str) R26))) R49))), R49, R58], [], false⟩
    | 27 => some ⟨159, [(3, .ptr 2 0), (4, .ptr 0 0), (11, .ptr 3 0), (12, .sl 2 R58), (14, .int .i64)], [], [.pair (.pair (.int .i64) (.pair (.int .i64) (.pair (.int .i64) (.pair (.pair (.int .i64) (.pair (.int .i64) (.pair (.sl 2 .str) R26))) R49)))) (.pair .str (.pair .bool (.sl 2 R58))), .pair (.int .i64) (.pair (.int .i64) (.pair (.int .i64) (.pair (.pair (.int .i64) (.pair (.int .i64) (.pair (.sl 0 .str) R26))) R49))), R58, .pair (.int .i64) (.pair (.int .i64) (.pair (.int .i64) (.pair (.pair (.int .i64) (.pair (.int .i64) (.pair (.sl 0 .str) R26))) R49))), R49, R58], [], false⟩
    | _ => none
  rjoin := fun _ => none

noncomputable def g37 (ρ : Prims) (C : TyC sigA) (k : Nat) (x : (Int × Int × Int × (Int × Int × (List ByteArray) × Int × Int) × Int × Int × Int) × Int × Int × Int × Int × Int × Int × ByteArray) : Option ((Int × Int × Int × (Int × Int × (List ByteArray) × Int × Int) × Int × Int × Int) × ByteArray × Bool × (List (Int × Int × Int × Int × Int × Int × ByteArray))) :=
  optK (α := Bool) (q62 C x.2) (fun (x1 : Bool) => bif ρ.not x1 then some (x.1, ⟨#[]⟩, false, []) else bif ρ.not (ρ.eq x.2.2.1 x.1.2.1) then some (x.1, ⟨#[]⟩, false, []) else bif ρ.not (ρ.eq x.2.2.2.1 x.1.1) then some (x.1, ⟨#[]⟩, false, []) else bif ρ.lt x.2.2.2.2.1 x.1.2.2.2.2.2.1 then some (x.1, ⟨#[]⟩, false, []) else bif ρ.eq x.2.1 4 then some (x.1, x.2.2.2.2.2.2.2, true, []) else bif ρ.eq x.2.1 3 then bif ρ.lt x.1.2.2.1 x.2.2.2.2.2.1 then some (x.1, ⟨#[]⟩, false, []) else optK (α := (Int × Int × Int × (Int × Int × (List ByteArray) × Int × Int) × Int × Int × Int) × (List (Int × Int × Int × Int × Int × Int × ByteArray))) (q88 C (x.1, x.2.2.2.2.1)) (fun (x2 : (Int × Int × Int × (Int × Int × (List ByteArray) × Int × Int) × Int × Int × Int) × (List (Int × Int × Int × Int × Int × Int × ByteArray))) => some (x2.1, ⟨#[]⟩, false, x2.2)) else bif ρ.eq x.2.1 2 then bif ρ.not (ρ.eq x.2.2.2.2.2.1 x.1.2.2.1) then some (x.1, ⟨#[]⟩, false, []) else optK (α := (Int × Int × Int × (Int × Int × (List ByteArray) × Int × Int) × Int × Int × Int) × (List (Int × Int × Int × Int × Int × Int × ByteArray))) (q88 C (x.1, x.2.2.2.2.1)) (fun (x2 : (Int × Int × Int × (Int × Int × (List ByteArray) × Int × Int) × Int × Int × Int) × (List (Int × Int × Int × Int × Int × Int × ByteArray))) => optK (α := (Int × Int × (List ByteArray) × Int × Int) × Bool) (q89 C (x2.1.2.2.2.1, x.2.2.2.2.1, x.2.2.2.2.2.2.1)) (fun (x3 : (Int × Int × (List ByteArray) × Int × Int) × Bool) => optK (α := List (Int × Int × Int × Int × Int × Int × ByteArray)) (q84 C ((x2.1.1, x2.1.2.1, x2.1.2.2.1, x3.1, x2.1.2.2.2.2), x3.2)) (fun (x4 : List (Int × Int × Int × Int × Int × Int × ByteArray)) => bif ρ.fits x2.2 x4 64 then some ((x2.1.1, x2.1.2.1, x2.1.2.2.1, x3.1, x2.1.2.2.2.2), ⟨#[]⟩, false, ρ.app x2.2 x4) else none))) else optK (α := (Int × Int × Int × (Int × Int × (List ByteArray) × Int × Int) × Int × Int × Int) × (List (Int × Int × Int × Int × Int × Int × ByteArray))) (q88 C (x.1, x.2.2.2.2.1)) (fun (x2 : (Int × Int × Int × (Int × Int × (List ByteArray) × Int × Int) × Int × Int × Int) × (List (Int × Int × Int × Int × Int × Int × ByteArray))) => optK (α := (Int × Int × Int) × Int) (q90 C (x2.1.2.2.2.2, x.2.2.2.2.1, x.2.2.2.2.2.1, x.2.2.2.2.2.2.1)) (fun (x3 : (Int × Int × Int) × Int) => optK (α := (Unit × Unit × Unit × (List (Int × Int × Int × Int × Int × Int × ByteArray)) × Int × Unit × ((Int × Int × Int × (Int × Int × (List ByteArray) × Int × Int) × Int × Int × Int) × ByteArray × Bool × (List (Int × Int × Int × Int × Int × Int × ByteArray))) × (Int × Int × Int × (Int × Int × (List ByteArray) × Int × Int) × Int × Int × Int) × (Int × Int × Int × Int × Int × Int × ByteArray) × (Int × Int × Int × (Int × Int × (List ByteArray) × Int × Int) × Int × Int × Int) × (Int × Int × Int) × Int × Int × Int × Int × Int × Int × ByteArray) ⊕ ((Int × Int × Int × (Int × Int × (List ByteArray) × Int × Int) × Int × Int × Int) × ByteArray × Bool × (List (Int × Int × Int × Int × Int × Int × ByteArray)))) (bif ρ.eq x3.2 3 then some (.inl ((), (), (), x2.2, x3.2, (), ((0, 0, 0, (0, 0, [], 0, 0), 0, 0, 0), ⟨#[]⟩, false, []), x.1, x.2, (x2.1.1, x2.1.2.1, x2.1.2.2.1, x2.1.2.2.2.1, x3.1), x3.1, 3, x.1.1, x.1.2.1, x.1.2.2.1, x.2.2.2.2.1, 0, ⟨#[]⟩)) else some (.inl ((), (), (), x2.2, x3.2, (), ((0, 0, 0, (0, 0, [], 0, 0), 0, 0, 0), ⟨#[]⟩, false, []), x.1, x.2, (x2.1.1, x2.1.2.1, x2.1.2.2.1, x2.1.2.2.2.1, x3.1), x3.1, 2, x.1.1, x.1.2.1, x.1.2.2.1, x.2.2.2.2.1, x.2.2.2.2.2.2.1, ⟨#[]⟩))) (fun (x4 : (Unit × Unit × Unit × (List (Int × Int × Int × Int × Int × Int × ByteArray)) × Int × Unit × ((Int × Int × Int × (Int × Int × (List ByteArray) × Int × Int) × Int × Int × Int) × ByteArray × Bool × (List (Int × Int × Int × Int × Int × Int × ByteArray))) × (Int × Int × Int × (Int × Int × (List ByteArray) × Int × Int) × Int × Int × Int) × (Int × Int × Int × Int × Int × Int × ByteArray) × (Int × Int × Int × (Int × Int × (List ByteArray) × Int × Int) × Int × Int × Int) × (Int × Int × Int) × Int × Int × Int × Int × Int × Int × ByteArray) ⊕ ((Int × Int × Int × (Int × Int × (List ByteArray) × Int × Int) × Int × Int × Int) × ByteArray × Bool × (List (Int × Int × Int × Int × Int × Int × ByteArray)))) => sumK x4 (fun (x5 : Unit × Unit × Unit × (List (Int × Int × Int × Int × Int × Int × ByteArray)) × Int × Unit × ((Int × Int × Int × (Int × Int × (List ByteArray) × Int × Int) × Int × Int × Int) × ByteArray × Bool × (List (Int × Int × Int × Int × Int × Int × ByteArray))) × (Int × Int × Int × (Int × Int × (List ByteArray) × Int × Int) × Int × Int × Int) × (Int × Int × Int × Int × Int × Int × ByteArray) × (Int × Int × Int × (Int × Int × (List ByteArray) × Int × Int) × Int × Int × Int) × (Int × Int × Int) × Int × Int × Int × Int × Int × Int × ByteArray) => optK (α := (Unit × Unit × Unit × (List (Int × Int × Int × Int × Int × Int × ByteArray)) × Int × ((Int × Int × Int × (Int × Int × (List ByteArray) × Int × Int) × Int × Int × Int) × ByteArray × Bool × (List (Int × Int × Int × Int × Int × Int × ByteArray))) × (Int × Int × Int × (Int × Int × (List ByteArray) × Int × Int) × Int × Int × Int) × (Int × Int × Int × Int × Int × Int × ByteArray) × (Int × Int × Int × (Int × Int × (List ByteArray) × Int × Int) × Int × Int × Int) × (Int × Int × Int) × Int × Int × Int × Int × Int × Int × ByteArray) ⊕ ((Int × Int × Int × (Int × Int × (List ByteArray) × Int × Int) × Int × Int × Int) × ByteArray × Bool × (List (Int × Int × Int × Int × Int × Int × ByteArray)))) (bif ρ.lt 0 x5.2.2.2.2.1 then bif ρ.fits x5.2.2.2.1 [x5.2.2.2.2.2.2.2.2.2.2.2] 64 then some (.inl ((), (), (), ρ.app x5.2.2.2.1 [x5.2.2.2.2.2.2.2.2.2.2.2], x5.2.2.2.2.1, x5.2.2.2.2.2.2)) else none else some (.inl ((), (), (), x5.2.2.2.1, x5.2.2.2.2.1, x5.2.2.2.2.2.2))) (fun (x6 : (Unit × Unit × Unit × (List (Int × Int × Int × Int × Int × Int × ByteArray)) × Int × ((Int × Int × Int × (Int × Int × (List ByteArray) × Int × Int) × Int × Int × Int) × ByteArray × Bool × (List (Int × Int × Int × Int × Int × Int × ByteArray))) × (Int × Int × Int × (Int × Int × (List ByteArray) × Int × Int) × Int × Int × Int) × (Int × Int × Int × Int × Int × Int × ByteArray) × (Int × Int × Int × (Int × Int × (List ByteArray) × Int × Int) × Int × Int × Int) × (Int × Int × Int) × Int × Int × Int × Int × Int × Int × ByteArray) ⊕ ((Int × Int × Int × (Int × Int × (List ByteArray) × Int × Int) × Int × Int × Int) × ByteArray × Bool × (List (Int × Int × Int × Int × Int × Int × ByteArray)))) => sumK x6 (fun (x7 : Unit × Unit × Unit × (List (Int × Int × Int × Int × Int × Int × ByteArray)) × Int × ((Int × Int × Int × (Int × Int × (List ByteArray) × Int × Int) × Int × Int × Int) × ByteArray × Bool × (List (Int × Int × Int × Int × Int × Int × ByteArray))) × (Int × Int × Int × (Int × Int × (List ByteArray) × Int × Int) × Int × Int × Int) × (Int × Int × Int × Int × Int × Int × ByteArray) × (Int × Int × Int × (Int × Int × (List ByteArray) × Int × Int) × Int × Int × Int) × (Int × Int × Int) × Int × Int × Int × Int × Int × Int × ByteArray) => bif ρ.eq x7.2.2.2.2.1 1 then some (x7.2.2.2.2.2.2.2.2.1, x7.2.2.2.2.2.2.2.1.2.2.2.2.2.2, true, x7.2.2.2.1) else some (x7.2.2.2.2.2.2.2.2.1, ⟨#[]⟩, false, x7.2.2.2.1)) (fun (x7 : (Int × Int × Int × (Int × Int × (List ByteArray) × Int × Int) × Int × Int × Int) × ByteArray × Bool × (List (Int × Int × Int × Int × Int × Int × ByteArray))) => some x7))) (fun (x5 : (Int × Int × Int × (Int × Int × (List ByteArray) × Int × Int) × Int × Int × Int) × ByteArray × Bool × (List (Int × Int × Int × Int × Int × Int × ByteArray))) => some x5)))))

theorem g37_eq (ρ : Prims) (C : TyC sigA) (k : Nat) (x : (sigA 37).inT.den) : bodyV ρ C tvA vp37 Try.f37 k 37 x = g37 ρ C k x := by kernel_rfl

/-- siskin/siskinref24.New -/
def vp91 : VP where
  keep := [0]
  cold := fun _ => []
  take := fun _ => []
  outs := fun _ => []
  fin := []
  inst := fun _ g => g
  loop := fun _ => none
  join := fun _ => none
  rjoin := fun _ => none

noncomputable def g91 (ρ : Prims) (C : TyC sigA) (k : Nat) (x : Unit) : Option (Int × Int × (List ByteArray) × Int × Int) :=
  some (1, 1, [], 1, 0)

theorem g91_eq (ρ : Prims) (C : TyC sigA) (k : Nat) (x : (sigA 91).inT.den) : bodyV ρ C tvA vp91 Try.f91 k 91 x = g91 ρ C k x := by kernel_rfl

/-- siskin/siskinref26.New -/
def vp38 : VP where
  keep := [0, 1, 2, 6]
  cold := fun _ => []
  take := fun _ => []
  outs := fun _ => []
  fin := []
  inst := fun _ g => g
  loop := fun _ => none
  join := fun _ => none
  rjoin := fun _ => none

noncomputable def g38 (ρ : Prims) (C : TyC sigA) (k : Nat) (x : Int × Int × Int) : Option (Int × Int × Int × (Int × Int × (List ByteArray) × Int × Int) × Int × Int × Int) :=
  optK (α := Int × Int × (List ByteArray) × Int × Int) (q91 C ()) (fun (x1 : Int × Int × (List ByteArray) × Int × Int) => some (x.1, x.2.1, x.2.2, x1, x.2.2, 1, 0))

theorem g38_eq (ρ : Prims) (C : TyC sigA) (k : Nat) (x : (sigA 38).inT.den) : bodyV ρ C tvA vp38 Try.f38 k 38 x = g38 ρ C k x := by kernel_rfl

/-- siskin/siskinlaw26.LinkDoes -/
def vp7 : VP where
  keep := [2, 3, 4, 6, 7, 8, 9, 10, 11, 12, 13, 14, 15, 16, 17, 18, 19, 46, 53, 62, 104, 139]
  cold := fun
    | 15 => [(500008, [5]), (500009, [5]), (10, []), (500012, [5]), (13, [])]
    | 17 => [(500008, [5])]
    | 19 => [(500003, [5]), (500008, [5]), (500015, [5]), (16, []), (17, []), (18, []), (500019, [5, 13])]
    | _ => []
  take := fun
    | 15 => [1000003]
    | 17 => [1000003]
    | 19 => [1000003]
    | _ => []
  outs := fun _ => []
  fin := []
  inst := fun _ g => g
  loop := fun
    | 4 => some ⟨191, [(2, .str), (3, .ptr 0 0), (4, .ptr 1 0), (7, .int .i64)], [], [.pair (.int .i64) (.pair (.int .i64) (.pair (.int .i64) (.pair (.pair (.int .i64) (.pair (.int .i64) (.pair (.sl 0 .str) R26))) R49))), R58], [], false⟩
    | _ => none
  join := fun _ => none
  rjoin := fun _ => none

noncomputable def g7 (ρ : Prims) (C : TyC sigA) (k : Nat) (x : (Int × Int × Int × (Int × Int × (List ByteArray) × Int × Int) × Int × Int × Int) × (Int × Int × Int × Int × Int × Int × ByteArray) × ByteArray) : Option (Bool) :=
  optK (α := Bool) (q29 C (x.1.2.2.2.1.2.2.1, 30, 100)) (fun (x1 : Bool) => bif x1 then optK (α := Bool) (q22 C ()) (fun (x2 : Bool) => some x2) else bif ρ.lt 100 (ρ.size x.2.2) then optK (α := Bool) (q22 C ()) (fun (x2 : Bool) => some x2) else bif ρ.lt 1000 (ρ.size x.2.1.2.2.2.2.2.2) then optK (α := Bool) (q22 C ()) (fun (x2 : Bool) => some x2) else bif ρ.eq x.1.2.2.2.1.2.1 9223372036854775807 then optK (α := Bool) (q22 C ()) (fun (x2 : Bool) => some x2) else bif ρ.lt x.1.2.2.2.2.2.2 0 then optK (α := Bool) (q22 C ()) (fun (x2 : Bool) => some x2) else ρ.loop k (fun (x2 : ByteArray × Unit × Unit × Int × (Int × Int × Int × (Int × Int × (List ByteArray) × Int × Int) × Int × Int × Int) × Int × Int × Int × Int × Int × Int × ByteArray) => bif ρ.lt x2.2.2.2.1 (ρ.len x2.2.2.2.2.1.2.2.2.1.2.2.1) then bif ρ.inb x2.2.2.2.2.1.2.2.2.1.2.2.1 x2.2.2.2.1 then bif ρ.eqS (ρ.nth ⟨#[]⟩ x2.2.2.2.2.1.2.2.2.1.2.2.1 (ρ.nat x2.2.2.2.1)) ⟨#[]⟩ then optK (α := Bool) (q22 C ()) (fun (x3 : Bool) => some (.inr x3)) else some (.inl (x2.1, (), (), ρ.wrap .i64 (ρ.add x2.2.2.2.1 1), x2.2.2.2.2)) else none else optK (α := Bool) (optK (α := Int × Int × Int × (Int × Int × (List ByteArray) × Int × Int) × Int × Int × Int) (q30 C x2.2.2.2.2.1) (fun (x3 : Int × Int × Int × (Int × Int × (List ByteArray) × Int × Int) × Int × Int × Int) => optK (α := (Int × Int × Int × (Int × Int × (List ByteArray) × Int × Int) × Int × Int × Int) × (List (Int × Int × Int × Int × Int × Int × ByteArray)) × Int) (q26 C (x3, ρ.wrap .i64 (ρ.add (ρ.len x2.2.2.2.2.1.2.2.2.1.2.2.1) 1), x2.1)) (fun (x4 : (Int × Int × Int × (Int × Int × (List ByteArray) × Int × Int) × Int × Int × Int) × (List (Int × Int × Int × Int × Int × Int × ByteArray)) × Int) => optK (α := (Int × Int × Int × (Int × Int × (List ByteArray) × Int × Int) × Int × Int × Int) × (List (Int × Int × Int × Int × Int × Int × ByteArray)) × Int) (q31 C (x2.2.2.2.2.1, ρ.wrap .i64 (ρ.add (ρ.len x2.2.2.2.2.1.2.2.2.1.2.2.1) 1), x2.1)) (fun (x5 : (Int × Int × Int × (Int × Int × (List ByteArray) × Int × Int) × Int × Int × Int) × (List (Int × Int × Int × Int × Int × Int × ByteArray)) × Int) => optK (α := Bool) (q32 C (x4.1, x5.1)) (fun (x6 : Bool) => bif ρ.not x6 then some false else optK (α := Bool) (q33 C (x4.2.1, x5.2.1)) (fun (x7 : Bool) => bif ρ.not x7 then some false else bif ρ.not (ρ.eq x4.2.2 x5.2.2) then some false else optK (α := (Int × Int × Int × (Int × Int × (List ByteArray) × Int × Int) × Int × Int × Int) × (List (Int × Int × Int × Int × Int × Int × ByteArray))) (q28 C x3) (fun (x8 : (Int × Int × Int × (Int × Int × (List ByteArray) × Int × Int) × Int × Int × Int) × (List (Int × Int × Int × Int × Int × Int × ByteArray))) => optK (α := (Int × Int × Int × (Int × Int × (List ByteArray) × Int × Int) × Int × Int × Int) × (List (Int × Int × Int × Int × Int × Int × ByteArray))) (q34 C x2.2.2.2.2.1) (fun (x9 : (Int × Int × Int × (Int × Int × (List ByteArray) × Int × Int) × Int × Int × Int) × (List (Int × Int × Int × Int × Int × Int × ByteArray))) => optK (α := Bool) (q32 C (x8.1, x9.1)) (fun (x10 : Bool) => bif ρ.not x10 then some false else optK (α := Bool) (q33 C (x8.2, x9.2)) (fun (x11 : Bool) => bif ρ.not x11 then some false else optK (α := Bool) (q35 C (x3, x3)) (fun (x12 : Bool) => bif ρ.not x12 then some false else optK (α := Bool) (q35 C (x3, x8.1)) (fun (x13 : Bool) => optK (α := Bool) (q32 C (x3, x9.1)) (fun (x14 : Bool) => bif ρ.not (ρ.beq x13 x14) then some false else optK (α := Int × Int × Int × Int × Int × Int × ByteArray) (q36 C x2.2.2.2.2.2) (fun (x15 : Int × Int × Int × Int × Int × Int × ByteArray) => optK (α := (Int × Int × Int × (Int × Int × (List ByteArray) × Int × Int) × Int × Int × Int) × ByteArray × Bool × (List (Int × Int × Int × Int × Int × Int × ByteArray))) (q27 C (x3, x15)) (fun (x16 : (Int × Int × Int × (Int × Int × (List ByteArray) × Int × Int) × Int × Int × Int) × ByteArray × Bool × (List (Int × Int × Int × Int × Int × Int × ByteArray))) => optK (α := (Int × Int × Int × (Int × Int × (List ByteArray) × Int × Int) × Int × Int × Int) × ByteArray × Bool × (List (Int × Int × Int × Int × Int × Int × ByteArray))) (q37 C x2.2.2.2.2) (fun (x17 : (Int × Int × Int × (Int × Int × (List ByteArray) × Int × Int) × Int × Int × Int) × ByteArray × Bool × (List (Int × Int × Int × Int × Int × Int × ByteArray))) => optK (α := Bool) (q32 C (x16.1, x17.1)) (fun (x18 : Bool) => bif x18 then bif ρ.eqS x16.2.1 x17.2.1 then bif ρ.beq x16.2.2.1 x17.2.2.1 then optK (α := Bool) (q33 C (x16.2.2.2, x17.2.2.2)) (fun (x19 : Bool) => bif x19 then optK (α := Bool) (q32 C (x3, x2.2.2.2.2.1)) (fun (x20 : Bool) => bif x20 then optK (α := Int × Int × Int × (Int × Int × (List ByteArray) × Int × Int) × Int × Int × Int) (q25 C (3, 4, x2.2.2.2.2.1.2.2.1)) (fun (x21 : Int × Int × Int × (Int × Int × (List ByteArray) × Int × Int) × Int × Int × Int) => optK (α := Int × Int × Int × (Int × Int × (List ByteArray) × Int × Int) × Int × Int × Int) (q38 C (3, 4, x2.2.2.2.2.1.2.2.1)) (fun (x22 : Int × Int × Int × (Int × Int × (List ByteArray) × Int × Int) × Int × Int × Int) => optK (α := Bool) (q32 C (x21, x22)) (fun (x23 : Bool) => bif x23 then optK (α := Bool) (q22 C ()) (fun (x24 : Bool) => some x24) else some false))) else some false) else some false) else some false else some false else some false))))))))))))))))) (fun (x3 : Bool) => some (.inr x3))) (x.2.2, (), (), 0, x.1, x.2.1))

theorem g7_eq (ρ : Prims) (C : TyC sigA) (k : Nat) (x : (sigA 7).inT.den) : bodyV ρ C tvA vp7 Try.f7 k 7 x = g7 ρ C k x := by kernel_rfl

end Go.PI
