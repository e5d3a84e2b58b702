/- Functions as the typed layer prints them. -/
import Derived.Test.YtoaadbakbfphgaaWa
namespace Go.PI
open Go Go.Proofs
set_option maxRecDepth 100000
set_option linter.unusedVariables false

/-- slices.IndexFunc[[]string,string] -/
def vp128 : VP where
  keep := [0, 1, 4, 5, 7, 8, 9, 16]
  cold := fun _ => []
  take := fun _ => []
  outs := fun _ => []
  fin := []
  inst := fun _ g => g
  loop := fun
    | 2 => some ⟨19, [(0, .sl 0 .str), (1, .fn 68 .unit (.ptr 2 0)), (7, .int .i64), (8, .int .i64)], [], [.pair (.int .i64) (.pair (.int .i64) (.pair (.sl 2 .str) R26)), .pair (.int .i64) (.pair (.int .i64) (.pair (.sl 1 .str) R26)), .str], [0, 1, 2], false⟩
    | _ => none
  join := fun _ => none
  rjoin := fun _ => none

noncomputable def g128 (ρ : Prims) (C : TyC sigA) (k : Nat) (x : (List ByteArray) × (Unit × Unit) × (Int × Int × (List ByteArray) × Int × Int) × (Int × Int × (List ByteArray) × Int × Int) × ByteArray) : Option (Int × (Int × Int × (List ByteArray) × Int × Int) × (Int × Int × (List ByteArray) × Int × Int) × ByteArray) :=
  ρ.loop k (fun (x1 : (List ByteArray) × (Unit × Unit) × Int × Int × (Int × Int × (List ByteArray) × Int × Int) × (Int × Int × (List ByteArray) × Int × Int) × ByteArray) => bif ρ.lt x1.2.2.2.1 x1.2.2.1 then bif ρ.inb x1.1 x1.2.2.2.1 then optK (α := Bool × (Int × Int × (List ByteArray) × Int × Int) × (Int × Int × (List ByteArray) × Int × Int) × ByteArray) (q68 C (ρ.nth ⟨#[]⟩ x1.1 (ρ.nat x1.2.2.2.1), (), x1.2.2.2.2)) (fun (x2 : Bool × (Int × Int × (List ByteArray) × Int × Int) × (Int × Int × (List ByteArray) × Int × Int) × ByteArray) => bif x2.1 then some (.inr (x1.2.2.2.1, x2.2)) else some (.inl (x1.1, ((), ()), x1.2.2.1, ρ.wrap .i64 (ρ.add x1.2.2.2.1 1), x2.2))) else none else some (.inr ((-1), x1.2.2.2.2))) (x.1, ((), ()), ρ.len x.1, 0, x.2.2)

theorem g128_eq (ρ : Prims) (C : TyC sigA) (k : Nat) (x : (sigA 128).inT.den) : bodyV ρ C tvA vp128 Try.f128 k 128 x = g128 ρ C k x := by kernel_rfl

/-- slices.ContainsFunc[[]string,string] -/
def vp67 : VP where
  keep := [0, 1, 4]
  cold := fun _ => []
  take := fun _ => []
  outs := fun _ => []
  fin := []
  inst := fun _ g => g
  loop := fun _ => none
  join := fun _ => none
  rjoin := fun _ => none

noncomputable def g67 (ρ : Prims) (C : TyC sigA) (k : Nat) (x : (List ByteArray) × (Unit × Unit) × (Int × Int × (List ByteArray) × Int × Int) × (Int × Int × (List ByteArray) × Int × Int) × ByteArray) : Option (Bool × (Int × Int × (List ByteArray) × Int × Int) × (Int × Int × (List ByteArray) × Int × Int) × ByteArray) :=
  optK (α := Int × (Int × Int × (List ByteArray) × Int × Int) × (Int × Int × (List ByteArray) × Int × Int) × ByteArray) (q128 C (x.1, ((), ()), x.2.2)) (fun (x1 : Int × (Int × Int × (List ByteArray) × Int × Int) × (Int × Int × (List ByteArray) × Int × Int) × ByteArray) => some (ρ.le 0 x1.1, x1.2))

theorem g67_eq (ρ : Prims) (C : TyC sigA) (k : Nat) (x : (sigA 67).inT.den) : bodyV ρ C tvA vp67 Try.f67 k 67 x = g67 ρ C k x := by kernel_rfl

/-- siskin/sent.Put -/
def vp14 : VP where
  keep := [1, 3, 5, 6, 7, 8, 11, 15, 21, 37]
  cold := fun _ => []
  take := fun _ => []
  outs := fun _ => []
  fin := [(6, [2])]
  inst := fun _ g => g
  loop := fun _ => none
  join := fun _ => none
  rjoin := fun _ => none

noncomputable def g14 (ρ : Prims) (C : TyC sigA) (k : Nat) (x : (Int × Int × (List ByteArray) × Int × Int) × Int × ByteArray) : Option ((Int × Int × (List ByteArray) × Int × Int) × Bool × Int) :=
  optK (α := Int × Int × (List ByteArray) × Int × Int) (q66 C x.1) (fun (x1 : Int × Int × (List ByteArray) × Int × Int) => bif ρ.eqS x.2.2 ⟨#[]⟩ then some (x1, false, 1) else optK (α := Bool × (Int × Int × (List ByteArray) × Int × Int) × (Int × Int × (List ByteArray) × Int × Int) × ByteArray) (q67 C (x1.2.2.1, ((), ()), (0, 0, [], 0, 0), x1, x.2.2)) (fun (x2 : Bool × (Int × Int × (List ByteArray) × Int × Int) × (Int × Int × (List ByteArray) × Int × Int) × ByteArray) => bif x2.1 then some (x2.2.2.1, false, 0) else bif ρ.le x.2.1 (ρ.len x2.2.2.1.2.2.1) then some (x2.2.2.1, false, 7) else bif ρ.fits x2.2.2.1.2.2.1 [x2.2.2.2] 16 then bif ρ.lt 1 (ρ.len (ρ.app x2.2.2.1.2.2.1 [x2.2.2.2])) then some ((x2.2.2.1.1, x2.2.2.1.2.1, ρ.app x2.2.2.1.2.2.1 [x2.2.2.2], x2.2.2.1.2.2.2), false, 0) else optK (α := Int × Int) (q69 C x2.2.2.1.2.2.2) (fun (x3 : Int × Int) => some ((x2.2.2.1.1, x2.2.2.1.2.1, ρ.app x2.2.2.1.2.2.1 [x2.2.2.2], x3), true, 0)) else none))

theorem g14_eq (ρ : Prims) (C : TyC sigA) (k : Nat) (x : (sigA 14).inT.den) : bodyV ρ C tvA vp14 Try.f14 k 14 x = g14 ρ C k x := by kernel_rfl

/-- siskin/link.Put -/
def vp26 : VP where
  keep := [1, 2, 3, 6, 7, 8, 9, 10, 11, 14]
  cold := fun
    | 5 => [(3, [5]), (10, []), (11, [])]
    | _ => []
  take := fun _ => []
  outs := fun
    | 5 => [6]
    | _ => []
  fin := []
  inst := fun _ g => g
  loop := fun _ => none
  join := fun _ => none
  rjoin := fun _ => none

noncomputable def g26 (ρ : Prims) (C : TyC sigA) (k : Nat) (x : (Int × Int × Int × (Int × Int × (List ByteArray) × Int × Int) × Int × Int × Int) × Int × ByteArray) : Option ((Int × Int × Int × (Int × Int × (List ByteArray) × Int × Int) × Int × Int × Int) × (List (Int × Int × Int × Int × Int × Int × ByteArray)) × Int) :=
  bif ρ.lt 32 (ρ.size x.2.2) then some (x.1, [], 1) else optK (α := (Int × Int × (List ByteArray) × Int × Int) × Bool × Int) (q14 C (x.1.2.2.2.1, x.2)) (fun (x1 : (Int × Int × (List ByteArray) × Int × Int) × Bool × Int) => optK (α := List (Int × Int × Int × Int × Int × Int × ByteArray)) (q77 C ((x.1.1, x.1.2.1, x.1.2.2.1, x1.1, x.1.2.2.2.2), x1.2.1)) (fun (x2 : List (Int × Int × Int × Int × Int × Int × ByteArray)) => some ((x.1.1, x.1.2.1, x.1.2.2.1, x1.1, x.1.2.2.2.2), x2, x1.2.2)))

theorem g26_eq (ρ : Prims) (C : TyC sigA) (k : Nat) (x : (sigA 26).inT.den) : bodyV ρ C tvA vp26 Try.f26 k 26 x = g26 ρ C k x := by kernel_rfl

/-- siskin/siskinref03.Long -/
def vp29 : VP where
  keep := [0, 1, 2, 6, 7, 11, 20]
  cold := fun _ => []
  take := fun _ => []
  outs := fun _ => []
  fin := []
  inst := fun _ g => g
  loop := fun
    | 2 => some ⟨25, [(0, .sl 0 .str), (1, .int .i64), (2, .int .i64), (7, .int .i64)], [], [], [], false⟩
    | _ => none
  join := fun _ => none
  rjoin := fun _ => none

noncomputable def g29 (ρ : Prims) (C : TyC sigA) (k : Nat) (x : (List ByteArray) × Int × Int) : Option (Bool) :=
  ρ.loop k (fun (x1 : (List ByteArray) × Int × Int × Int) => bif ρ.lt x1.2.2.2 (ρ.len x1.1) then bif ρ.inb x1.1 x1.2.2.2 then bif ρ.lt x1.2.2.1 (ρ.size (ρ.nth ⟨#[]⟩ x1.1 (ρ.nat x1.2.2.2))) then some (.inr true) else some (.inl (x1.1, x1.2.1, x1.2.2.1, ρ.wrap .i64 (ρ.add x1.2.2.2 1))) else none else some (.inr (ρ.lt x1.2.1 (ρ.len x1.1)))) (x.1, x.2.1, x.2.2, 0)

theorem g29_eq (ρ : Prims) (C : TyC sigA) (k : Nat) (x : (sigA 29).inT.den) : bodyV ρ C tvA vp29 Try.f29 k 29 x = g29 ρ C k x := by kernel_rfl

/-- siskin/siskinlaw26.works -/
def vp22 : VP where
  keep := [0, 1, 2, 3, 5, 6, 7, 10, 23, 44]
  cold := fun
    | 4 => [(2, [])]
    | 7 => [(1, [5]), (7, [])]
    | _ => []
  take := fun _ => []
  outs := fun _ => []
  fin := []
  inst := fun _ g => g
  loop := fun _ => none
  join := fun _ => none
  rjoin := fun _ => none

noncomputable def g22 (ρ : Prims) (C : TyC sigA) (k : Nat) (x : Unit) : Option (Bool) :=
  optK (α := Int × Int × Int × (Int × Int × (List ByteArray) × Int × Int) × Int × Int × Int) (q25 C (0, 8, 1)) (fun (x1 : Int × Int × Int × (Int × Int × (List ByteArray) × Int × Int) × Int × Int × Int) => optK (α := (Int × Int × Int × (Int × Int × (List ByteArray) × Int × Int) × Int × Int × Int) × (List (Int × Int × Int × Int × Int × Int × ByteArray)) × Int) (q26 C (x1, 4, ⟨#[97]⟩)) (fun (x2 : (Int × Int × Int × (Int × Int × (List ByteArray) × Int × Int) × Int × Int × Int) × (List (Int × Int × Int × Int × Int × Int × ByteArray)) × Int) => bif ρ.not (ρ.eq x2.2.2 0) then some false else bif ρ.not (ρ.eq (ρ.len x2.2.1) 1) then some false else optK (α := Int × Int × Int × (Int × Int × (List ByteArray) × Int × Int) × Int × Int × Int) (q25 C (8, 0, 1)) (fun (x3 : Int × Int × Int × (Int × Int × (List ByteArray) × Int × Int) × Int × Int × Int) => bif ρ.inb x2.2.1 0 then optK (α := (Int × Int × Int × (Int × Int × (List ByteArray) × Int × Int) × Int × Int × Int) × ByteArray × Bool × (List (Int × Int × Int × Int × Int × Int × ByteArray))) (q27 C (x3, ρ.nth (0, 0, 0, 0, 0, 0, ⟨#[]⟩) x2.2.1 (ρ.nat 0))) (fun (x4 : (Int × Int × Int × (Int × Int × (List ByteArray) × Int × Int) × Int × Int × Int) × ByteArray × Bool × (List (Int × Int × Int × Int × Int × Int × ByteArray))) => bif ρ.not (ρ.eqS x4.2.1 ⟨#[97]⟩) then some false else bif ρ.not x4.2.2.1 then some false else bif ρ.not (ρ.eq (ρ.len x4.2.2.2) 1) then some false else bif ρ.inb x4.2.2.2 0 then optK (α := (Int × Int × Int × (Int × Int × (List ByteArray) × Int × Int) × Int × Int × Int) × ByteArray × Bool × (List (Int × Int × Int × Int × Int × Int × ByteArray))) (q27 C (x2.1, ρ.nth (0, 0, 0, 0, 0, 0, ⟨#[]⟩) x4.2.2.2 (ρ.nat 0))) (fun (x5 : (Int × Int × Int × (Int × Int × (List ByteArray) × Int × Int) × Int × Int × Int) × ByteArray × Bool × (List (Int × Int × Int × Int × Int × Int × ByteArray))) => bif ρ.eq (ρ.len x5.2.2.2) 0 then some (ρ.eq (ρ.len x5.1.2.2.2.1.2.2.1) 0) else some false) else none) else none)))

theorem g22_eq (ρ : Prims) (C : TyC sigA) (k : Nat) (x : (sigA 22).inT.den) : bodyV ρ C tvA vp22 Try.f22 k 22 x = g22 ρ C k x := by kernel_rfl

/-- siskin/siskinlaw24.Of -/
def vp82 : VP where
  keep := [1, 2]
  cold := fun
    | 1 => [(1, [2])]
    | _ => []
  take := fun _ => []
  outs := fun
    | 1 => [2]
    | _ => []
  fin := []
  inst := fun _ g => g
  loop := fun _ => none
  join := fun _ => none
  rjoin := fun _ => none

noncomputable def g82 (ρ : Prims) (C : TyC sigA) (k : Nat) (x : Int × Int × (List ByteArray) × Int × Int) : Option (Int × Int × (List ByteArray) × Int × Int) :=
  bif ρ.fits [] x.2.2.1 16 then some (x.1, x.2.1, ρ.app [] x.2.2.1, x.2.2.2) else none

theorem g82_eq (ρ : Prims) (C : TyC sigA) (k : Nat) (x : (sigA 82).inT.den) : bodyV ρ C tvA vp82 Try.f82 k 82 x = g82 ρ C k x := by kernel_rfl

/-- siskin/siskinlaw26.of -/
def vp30 : VP where
  keep := [1, 2]
  cold := fun
    | 1 => [(1, [5])]
    | _ => []
  take := fun _ => []
  outs := fun
    | 1 => [2]
    | _ => []
  fin := []
  inst := fun _ g => g
  loop := fun _ => none
  join := fun _ => none
  rjoin := fun _ => none

noncomputable def g30 (ρ : Prims) (C : TyC sigA) (k : Nat) (x : Int × Int × Int × (Int × Int × (List ByteArray) × Int × Int) × Int × Int × Int) : Option (Int × Int × Int × (Int × Int × (List ByteArray) × Int × Int) × Int × Int × Int) :=
  optK (α := Int × Int × (List ByteArray) × Int × Int) (q82 C x.2.2.2.1) (fun (x1 : Int × Int × (List ByteArray) × Int × Int) => some (x.1, x.2.1, x.2.2.1, x1, x.2.2.2.2))

theorem g30_eq (ρ : Prims) (C : TyC sigA) (k : Nat) (x : (sigA 30).inT.den) : bodyV ρ C tvA vp30 Try.f30 k 30 x = g30 ρ C k x := by kernel_rfl

/-- siskin/siskinref05.Place -/
def vp19 : VP where
  keep := [0, 1, 4, 5, 9, 17]
  cold := fun _ => []
  take := fun _ => []
  outs := fun _ => []
  fin := []
  inst := fun _ g => g
  loop := fun
    | 2 => some ⟨19, [(0, .sl 0 .str), (1, .str), (5, .int .i64)], [], [], [], false⟩
    | _ => none
  join := fun _ => none
  rjoin := fun _ => none

noncomputable def g19 (ρ : Prims) (C : TyC sigA) (k : Nat) (x : (List ByteArray) × ByteArray) : Option (Int) :=
  ρ.loop k (fun (x1 : (List ByteArray) × ByteArray × Int) => bif ρ.lt x1.2.2 (ρ.len x1.1) then bif ρ.inb x1.1 x1.2.2 then bif ρ.eqS (ρ.nth ⟨#[]⟩ x1.1 (ρ.nat x1.2.2)) x1.2.1 then some (.inr x1.2.2) else some (.inl (x1.1, x1.2.1, ρ.wrap .i64 (ρ.add x1.2.2 1))) else none else some (.inr (-1))) (x.1, x.2, 0)

theorem g19_eq (ρ : Prims) (C : TyC sigA) (k : Nat) (x : (sigA 19).inT.den) : bodyV ρ C tvA vp19 Try.f19 k 19 x = g19 ρ C k x := by kernel_rfl

/-- siskin/siskinref24.Put -/
def vp83 : VP where
  keep := [1, 2, 3, 6, 7, 8, 10, 16, 22, 35]
  cold := fun _ => []
  take := fun _ => []
  outs := fun _ => []
  fin := [(6, [2])]
  inst := fun _ g => g
  loop := fun _ => none
  join := fun _ => none
  rjoin := fun _ => none

noncomputable def g83 (ρ : Prims) (C : TyC sigA) (k : Nat) (x : (Int × Int × (List ByteArray) × Int × Int) × Int × ByteArray) : Option ((Int × Int × (List ByteArray) × Int × Int) × Bool × Int) :=
  bif ρ.eqS x.2.2 ⟨#[]⟩ then some (x.1, false, 1) else optK (α := Int) (q19 C (x.1.2.2.1, x.2.2)) (fun (x1 : Int) => bif ρ.le 0 x1 then some (x.1, false, 0) else bif ρ.le x.2.1 (ρ.len x.1.2.2.1) then some (x.1, false, 7) else bif ρ.fits [] x.1.2.2.1 16 then bif ρ.fits (ρ.app [] x.1.2.2.1) [x.2.2] 16 then bif ρ.eq (ρ.len (ρ.app (ρ.app [] x.1.2.2.1) [x.2.2])) 1 then some ((x.1.1, x.1.2.1, ρ.app (ρ.app [] x.1.2.2.1) [x.2.2], 1, 1), true, 0) else some ((x.1.1, x.1.2.1, ρ.app (ρ.app [] x.1.2.2.1) [x.2.2], x.1.2.2.2), false, 0) else none else none)

theorem g83_eq (ρ : Prims) (C : TyC sigA) (k : Nat) (x : (sigA 83).inT.den) : bodyV ρ C tvA vp83 Try.f83 k 83 x = g83 ρ C k x := by kernel_rfl

/-- siskin/siskinref26.Data -/
def vp84 : VP where
  keep := [1, 2, 4, 6]
  cold := fun
    | 3 => [(2, [5])]
    | _ => []
  take := fun _ => []
  outs := fun _ => []
  fin := []
  inst := fun _ g => g
  loop := fun _ => none
  join := fun _ => none
  rjoin := fun _ => none

noncomputable def g84 (ρ : Prims) (C : TyC sigA) (k : Nat) (x : (Int × Int × Int × (Int × Int × (List ByteArray) × Int × Int) × Int × Int × Int) × Bool) : Option (List (Int × Int × Int × Int × Int × Int × ByteArray)) :=
  bif ρ.not x.2 then some [] else bif ρ.inb x.1.2.2.2.1.2.2.1 0 then some [(1, x.1.1, x.1.2.1, x.1.2.2.1, x.1.2.2.2.1.1, x.1.2.2.2.1.2.1, ρ.nth ⟨#[]⟩ x.1.2.2.2.1.2.2.1 (ρ.nat 0))] else none

theorem g84_eq (ρ : Prims) (C : TyC sigA) (k : Nat) (x : (sigA 84).inT.den) : bodyV ρ C tvA vp84 Try.f84 k 84 x = g84 ρ C k x := by kernel_rfl

/-- siskin/siskinref26.Put -/
def vp31 : VP where
  keep := [1, 2, 3, 6, 7, 8, 9, 10, 11, 14]
  cold := fun
    | 5 => [(3, [5]), (10, []), (11, [])]
    | _ => []
  take := fun _ => []
  outs := fun
    | 5 => [6]
    | _ => []
  fin := []
  inst := fun _ g => g
  loop := fun _ => none
  join := fun _ => none
  rjoin := fun _ => none

noncomputable def g31 (ρ : Prims) (C : TyC sigA) (k : Nat) (x : (Int × Int × Int × (Int × Int × (List ByteArray) × Int × Int) × Int × Int × Int) × Int × ByteArray) : Option ((Int × Int × Int × (Int × Int × (List ByteArray) × Int × Int) × Int × Int × Int) × (List (Int × Int × Int × Int × Int × Int × ByteArray)) × Int) :=
  bif ρ.lt 32 (ρ.size x.2.2) then some (x.1, [], 1) else optK (α := (Int × Int × (List ByteArray) × Int × Int) × Bool × Int) (q83 C (x.1.2.2.2.1, x.2)) (fun (x1 : (Int × Int × (List ByteArray) × Int × Int) × Bool × Int) => optK (α := List (Int × Int × Int × Int × Int × Int × ByteArray)) (q84 C ((x.1.1, x.1.2.1, x.1.2.2.1, x1.1, x.1.2.2.2.2), x1.2.1)) (fun (x2 : List (Int × Int × Int × Int × Int × Int × ByteArray)) => some ((x.1.1, x.1.2.1, x.1.2.2.1, x1.1, x.1.2.2.2.2), x2, x1.2.2)))

theorem g31_eq (ρ : Prims) (C : TyC sigA) (k : Nat) (x : (sigA 31).inT.den) : bodyV ρ C tvA vp31 Try.f31 k 31 x = g31 ρ C k x := by kernel_rfl

end Go.PI
