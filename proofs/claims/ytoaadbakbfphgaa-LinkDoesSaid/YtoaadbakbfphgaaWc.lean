/- Functions as the typed layer prints them. -/
import Derived.Test.YtoaadbakbfphgaaWa
namespace Go.PI
open Go Go.Proofs
set_option maxRecDepth 100000
set_option linter.unusedVariables false

/-- siskin/sent.Learn -/
def vp16 : VP where
  keep := [1, 2, 4, 5, 11]
  cold := fun _ => []
  take := fun _ => []
  outs := fun _ => []
  fin := [(4, [2])]
  inst := fun _ g => g
  loop := fun _ => none
  join := fun _ => none
  rjoin := fun _ => none

noncomputable def g16 (ρ : Prims) (C : TyC sigA) (k : Nat) (x : (Int × Int × (List ByteArray) × Int × Int) × Int) : Option ((Int × Int × (List ByteArray) × Int × Int) × Bool) :=
  optK (α := Int × Int × (List ByteArray) × Int × Int) (q66 C x.1) (fun (x1 : Int × Int × (List ByteArray) × Int × Int) => bif ρ.le x.2 x1.1 then some (x1, false) else optK (α := (Int × Int × (List ByteArray) × Int × Int) × Bool) (q72 C (x.2, 1, x1.2.2)) (fun (x2 : (Int × Int × (List ByteArray) × Int × Int) × Bool) => some x2))

theorem g16_eq (ρ : Prims) (C : TyC sigA) (k : Nat) (x : (sigA 16).inT.den) : bodyV ρ C tvA vp16 Try.f16 k 16 x = g16 ρ C k x := by kernel_rfl

/-- siskin/seen.Learn -/
def vp137 : VP where
  keep := [1, 2, 4, 8]
  cold := fun _ => []
  take := fun _ => []
  outs := fun _ => []
  fin := []
  inst := fun _ g => g
  loop := fun _ => none
  join := fun _ => none
  rjoin := fun _ => none

noncomputable def g137 (ρ : Prims) (C : TyC sigA) (k : Nat) (x : (Int × Int × Int) × Int) : Option (Int × Int × Int) :=
  bif ρ.lt x.1.2.1 x.2 then some (x.1.1, x.2, 0) else some x.1

theorem g137_eq (ρ : Prims) (C : TyC sigA) (k : Nat) (x : (sigA 137).inT.den) : bodyV ρ C tvA vp137 Try.f137 k 137 x = g137 ρ C k x := by kernel_rfl

/-- siskin/link.learn -/
def vp79 : VP where
  keep := [1, 2, 4, 5, 6, 7]
  cold := fun
    | 4 => [(2, [5]), (7, [])]
    | _ => []
  take := fun _ => []
  outs := fun
    | 4 => [4]
    | _ => []
  fin := []
  inst := fun _ g => g
  loop := fun _ => none
  join := fun _ => none
  rjoin := fun _ => none

noncomputable def g79 (ρ : Prims) (C : TyC sigA) (k : Nat) (x : (Int × Int × Int × (Int × Int × (List ByteArray) × Int × Int) × Int × Int × Int) × Int) : Option ((Int × Int × Int × (Int × Int × (List ByteArray) × Int × Int) × Int × Int × Int) × (List (Int × Int × Int × Int × Int × Int × ByteArray))) :=
  optK (α := (Int × Int × (List ByteArray) × Int × Int) × Bool) (q16 C (x.1.2.2.2.1, x.2)) (fun (x1 : (Int × Int × (List ByteArray) × Int × Int) × Bool) => optK (α := Int × Int × Int) (q137 C (x.1.2.2.2.2, x.2)) (fun (x2 : Int × Int × Int) => optK (α := List (Int × Int × Int × Int × Int × Int × ByteArray)) (q77 C ((x.1.1, x.1.2.1, x.1.2.2.1, x1.1, x2), x1.2)) (fun (x3 : List (Int × Int × Int × Int × Int × Int × ByteArray)) => some ((x.1.1, x.1.2.1, x.1.2.2.1, x1.1, x2), x3))))

theorem g79_eq (ρ : Prims) (C : TyC sigA) (k : Nat) (x : (sigA 79).inT.den) : bodyV ρ C tvA vp79 Try.f79 k 79 x = g79 ρ C k x := by kernel_rfl

/-- siskin/pace.Check -/
def vp170 : VP where
  keep := [1, 2, 22]
  cold := fun _ => []
  take := fun _ => []
  outs := fun _ => []
  fin := []
  inst := fun _ g => g
  loop := fun _ => none
  join := fun _ => none
  rjoin := fun _ => none

noncomputable def g170 (ρ : Prims) (C : TyC sigA) (k : Nat) (x : Int × Int) : Option (Bool) :=
  bif ρ.lt x.1 1 then some false else bif ρ.lt 8 x.1 then some false else bif ρ.lt x.2 0 then some false else bif ρ.lt x.1 x.2 then some false else some (ρ.eq (ρ.bits .and .i64 x.1 (ρ.wrap .i64 (ρ.sub x.1 1))) 0)

theorem g170_eq (ρ : Prims) (C : TyC sigA) (k : Nat) (x : (sigA 170).inT.den) : bodyV ρ C tvA vp170 Try.f170 k 170 x = g170 ρ C k x := by kernel_rfl

/-- siskin/pace.fine -/
def vp129 : VP where
  keep := [1, 2, 5]
  cold := fun _ => []
  take := fun _ => []
  outs := fun _ => []
  fin := []
  inst := fun _ g => g
  loop := fun _ => none
  join := fun _ => none
  rjoin := fun _ => none

noncomputable def g129 (ρ : Prims) (C : TyC sigA) (k : Nat) (x : Int × Int) : Option (Int × Int) :=
  optK (α := Bool) (q170 C x) (fun (x1 : Bool) => bif ρ.not x1 then optK (α := Int × Int) (q65 C ()) (fun (x2 : Int × Int) => some x2) else some x)

theorem g129_eq (ρ : Prims) (C : TyC sigA) (k : Nat) (x : (sigA 129).inT.den) : bodyV ρ C tvA vp129 Try.f129 k 129 x = g129 ρ C k x := by kernel_rfl

/-- siskin/pace.Tick -/
def vp73 : VP where
  keep := [1, 2, 3, 8, 16]
  cold := fun _ => []
  take := fun _ => []
  outs := fun _ => []
  fin := []
  inst := fun _ g => g
  loop := fun _ => none
  join := fun _ => none
  rjoin := fun _ => none

noncomputable def g73 (ρ : Prims) (C : TyC sigA) (k : Nat) (x : Int × Int) : Option ((Int × Int) × Bool) :=
  optK (α := Int × Int) (q129 C x) (fun (x1 : Int × Int) => bif ρ.eq x1.2 0 then some (x1, false) else bif ρ.lt 0 (ρ.wrap .i64 (ρ.sub x1.2 1)) then some ((x1.1, ρ.wrap .i64 (ρ.sub x1.2 1)), false) else some ((ρ.min (ρ.wrap .i64 (ρ.mul 2 x1.1)) 8, ρ.min (ρ.wrap .i64 (ρ.mul 2 x1.1)) 8), true))

theorem g73_eq (ρ : Prims) (C : TyC sigA) (k : Nat) (x : (sigA 73).inT.den) : bodyV ρ C tvA vp73 Try.f73 k 73 x = g73 ρ C k x := by kernel_rfl

/-- siskin/sent.Tick -/
def vp17 : VP where
  keep := [1, 2, 3, 4, 5, 11]
  cold := fun _ => []
  take := fun _ => []
  outs := fun _ => []
  fin := []
  inst := fun _ g => g
  loop := fun _ => none
  join := fun _ => none
  rjoin := fun _ => none

noncomputable def g17 (ρ : Prims) (C : TyC sigA) (k : Nat) (x : Int × Int × (List ByteArray) × Int × Int) : Option ((Int × Int × (List ByteArray) × Int × Int) × Bool) :=
  optK (α := Int × Int × (List ByteArray) × Int × Int) (q66 C x) (fun (x1 : Int × Int × (List ByteArray) × Int × Int) => bif ρ.eq (ρ.len x1.2.2.1) 0 then some (x1, false) else optK (α := (Int × Int) × Bool) (q73 C x1.2.2.2) (fun (x2 : (Int × Int) × Bool) => some ((x1.1, x1.2.1, x1.2.2.1, x2.1), x2.2)))

theorem g17_eq (ρ : Prims) (C : TyC sigA) (k : Nat) (x : (sigA 17).inT.den) : bodyV ρ C tvA vp17 Try.f17 k 17 x = g17 ρ C k x := by kernel_rfl

/-- siskin/link.Tick -/
def vp28 : VP where
  keep := [1, 2, 3, 4, 5]
  cold := fun
    | 3 => [(1, [5]), (5, [])]
    | _ => []
  take := fun _ => []
  outs := fun
    | 3 => [2]
    | _ => []
  fin := []
  inst := fun _ g => g
  loop := fun _ => none
  join := fun _ => none
  rjoin := fun _ => none

noncomputable def g28 (ρ : Prims) (C : TyC sigA) (k : Nat) (x : Int × Int × Int × (Int × Int × (List ByteArray) × Int × Int) × Int × Int × Int) : Option ((Int × Int × Int × (Int × Int × (List ByteArray) × Int × Int) × Int × Int × Int) × (List (Int × Int × Int × Int × Int × Int × ByteArray))) :=
  optK (α := (Int × Int × (List ByteArray) × Int × Int) × Bool) (q17 C x.2.2.2.1) (fun (x1 : (Int × Int × (List ByteArray) × Int × Int) × Bool) => optK (α := List (Int × Int × Int × Int × Int × Int × ByteArray)) (q77 C ((x.1, x.2.1, x.2.2.1, x1.1, x.2.2.2.2), x1.2)) (fun (x2 : List (Int × Int × Int × Int × Int × Int × ByteArray)) => some ((x.1, x.2.1, x.2.2.1, x1.1, x.2.2.2.2), x2)))

theorem g28_eq (ρ : Prims) (C : TyC sigA) (k : Nat) (x : (sigA 28).inT.den) : bodyV ρ C tvA vp28 Try.f28 k 28 x = g28 ρ C k x := by kernel_rfl

/-- siskin/pack.node -/
def vp131 : VP where
  keep := [0, 2]
  cold := fun _ => []
  take := fun _ => []
  outs := fun _ => []
  fin := []
  inst := fun _ g => g
  loop := fun _ => none
  join := fun _ => none
  rjoin := fun _ => none

noncomputable def g131 (ρ : Prims) (C : TyC sigA) (k : Nat) (x : Int) : Option (Bool) :=
  bif ρ.le 0 x then some (ρ.lt x 72) else some false

theorem g131_eq (ρ : Prims) (C : TyC sigA) (k : Nat) (x : (sigA 131).inT.den) : bodyV ρ C tvA vp131 Try.f131 k 131 x = g131 ρ C k x := by kernel_rfl

/-- siskin/pack.hasBody -/
def vp133 : VP where
  keep := [0, 2]
  cold := fun _ => []
  take := fun _ => []
  outs := fun _ => []
  fin := []
  inst := fun _ g => g
  loop := fun _ => none
  join := fun _ => none
  rjoin := fun _ => none

noncomputable def g133 (ρ : Prims) (C : TyC sigA) (k : Nat) (x : Int) : Option (Bool) :=
  bif ρ.eq x 1 then some true else some (ρ.eq x 4)

theorem g133_eq (ρ : Prims) (C : TyC sigA) (k : Nat) (x : (sigA 133).inT.den) : bodyV ρ C tvA vp133 Try.f133 k 133 x = g133 ρ C k x := by kernel_rfl

/-- siskin/pack.hasPeer -/
def vp135 : VP where
  keep := [0, 2]
  cold := fun _ => []
  take := fun _ => []
  outs := fun _ => []
  fin := []
  inst := fun _ g => g
  loop := fun _ => none
  join := fun _ => none
  rjoin := fun _ => none

noncomputable def g135 (ρ : Prims) (C : TyC sigA) (k : Nat) (x : Int) : Option (Bool) :=
  bif ρ.le 1 x then some (ρ.le x 3) else some false

theorem g135_eq (ρ : Prims) (C : TyC sigA) (k : Nat) (x : (sigA 135).inT.den) : bodyV ρ C tvA vp135 Try.f135 k 135 x = g135 ρ C k x := by kernel_rfl

/-- siskin/pack.hasSeq -/
def vp136 : VP where
  keep := [0, 2]
  cold := fun _ => []
  take := fun _ => []
  outs := fun _ => []
  fin := []
  inst := fun _ g => g
  loop := fun _ => none
  join := fun _ => none
  rjoin := fun _ => none

noncomputable def g136 (ρ : Prims) (C : TyC sigA) (k : Nat) (x : Int) : Option (Bool) :=
  bif ρ.eq x 1 then some true else some (ρ.eq x 2)

theorem g136_eq (ρ : Prims) (C : TyC sigA) (k : Nat) (x : (sigA 136).inT.den) : bodyV ρ C tvA vp136 Try.f136 k 136 x = g136 ρ C k x := by kernel_rfl

end Go.PI
