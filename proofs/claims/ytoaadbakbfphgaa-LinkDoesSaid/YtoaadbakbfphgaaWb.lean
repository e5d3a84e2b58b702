/- Functions as the typed layer prints them. -/
import Derived.Test.YtoaadbakbfphgaaWa
namespace Go.PI
open Go Go.Proofs
set_option maxRecDepth 100000
set_option linter.unusedVariables false

/-- siskin/pace.New -/
def vp65 : VP where
  keep := [0]
  cold := fun _ => []
  take := fun _ => []
  outs := fun _ => []
  fin := []
  inst := fun _ g => g
  loop := fun _ => none
  join := fun _ => none
  rjoin := fun _ => none

noncomputable def g65 (ρ : Prims) (C : TyC sigA) (k : Nat) (x : Unit) : Option (Int × Int) :=
  some (1, 0)

theorem g65_eq (ρ : Prims) (C : TyC sigA) (k : Nat) (x : (sigA 65).inT.den) : bodyV ρ C tvA vp65 Try.f65 k 65 x = g65 ρ C k x := by kernel_rfl

/-- siskin/sent.New -/
def vp13 : VP where
  keep := [0]
  cold := fun _ => []
  take := fun _ => []
  outs := fun _ => []
  fin := []
  inst := fun _ g => g
  loop := fun _ => none
  join := fun _ => none
  rjoin := fun _ => none

noncomputable def g13 (ρ : Prims) (C : TyC sigA) (k : Nat) (x : Unit) : Option (Int × Int × (List ByteArray) × Int × Int) :=
  optK (α := Int × Int) (q65 C ()) (fun (x1 : Int × Int) => some (1, 1, [], x1))

theorem g13_eq (ρ : Prims) (C : TyC sigA) (k : Nat) (x : (sigA 13).inT.den) : bodyV ρ C tvA vp13 Try.f13 k 13 x = g13 ρ C k x := by kernel_rfl

/-- siskin/seen.New -/
def vp76 : VP where
  keep := [0, 2]
  cold := fun _ => []
  take := fun _ => []
  outs := fun _ => []
  fin := []
  inst := fun _ g => g
  loop := fun _ => none
  join := fun _ => none
  rjoin := fun _ => none

noncomputable def g76 (ρ : Prims) (C : TyC sigA) (k : Nat) (x : Int) : Option (Int × Int × Int) :=
  some (x, 1, 0)

theorem g76_eq (ρ : Prims) (C : TyC sigA) (k : Nat) (x : (sigA 76).inT.den) : bodyV ρ C tvA vp76 Try.f76 k 76 x = g76 ρ C k x := by kernel_rfl

/-- siskin/link.New -/
def vp25 : VP where
  keep := [0, 1, 2, 6]
  cold := fun _ => []
  take := fun _ => []
  outs := fun _ => []
  fin := []
  inst := fun _ g => g
  loop := fun _ => none
  join := fun _ => none
  rjoin := fun _ => none

noncomputable def g25 (ρ : Prims) (C : TyC sigA) (k : Nat) (x : Int × Int × Int) : Option (Int × Int × Int × (Int × Int × (List ByteArray) × Int × Int) × Int × Int × Int) :=
  optK (α := Int × Int × (List ByteArray) × Int × Int) (q13 C ()) (fun (x1 : Int × Int × (List ByteArray) × Int × Int) => optK (α := Int × Int × Int) (q76 C x.2.2) (fun (x2 : Int × Int × Int) => some (x.1, x.2.1, x.2.2, x1, x2)))

theorem g25_eq (ρ : Prims) (C : TyC sigA) (k : Nat) (x : (sigA 25).inT.den) : bodyV ρ C tvA vp25 Try.f25 k 25 x = g25 ρ C k x := by kernel_rfl

/-- slices.Clone[[]string,string] -/
def vp70 : VP where
  keep := [0, 2, 4]
  cold := fun _ => []
  take := fun _ => []
  outs := fun _ => []
  fin := []
  inst := fun _ g => g
  loop := fun _ => none
  join := fun _ => none
  rjoin := fun _ => none

noncomputable def g70 (ρ : Prims) (C : TyC sigA) (k : Nat) (x : List ByteArray) : Option (List ByteArray) :=
  bif ρ.emp x then ρ.both (some []) (bif ρ.fits [] x 16 then some (ρ.app [] x) else none) else bif ρ.fits [] x 16 then some (ρ.app [] x) else none

theorem g70_eq (ρ : Prims) (C : TyC sigA) (k : Nat) (x : (sigA 70).inT.den) : bodyV ρ C tvA vp70 Try.f70 k 70 x = g70 ρ C k x := by kernel_rfl

/-- siskin/sent.own -/
def vp66 : VP where
  keep := [1, 2]
  cold := fun _ => []
  take := fun _ => []
  outs := fun _ => []
  fin := []
  inst := fun _ g => g
  loop := fun _ => none
  join := fun _ => none
  rjoin := fun _ => none

noncomputable def g66 (ρ : Prims) (C : TyC sigA) (k : Nat) (x : Int × Int × (List ByteArray) × Int × Int) : Option (Int × Int × (List ByteArray) × Int × Int) :=
  optK (α := List ByteArray) (q70 C x.2.2.1) (fun (x1 : List ByteArray) => some (x.1, x.2.1, x1, x.2.2.2))

theorem g66_eq (ρ : Prims) (C : TyC sigA) (k : Nat) (x : (sigA 66).inT.den) : bodyV ρ C tvA vp66 Try.f66 k 66 x = g66 ρ C k x := by kernel_rfl

/-- siskin/pace.Stop -/
def vp71 : VP where
  keep := [1, 2, 5]
  cold := fun _ => []
  take := fun _ => []
  outs := fun _ => []
  fin := []
  inst := fun _ g => g
  loop := fun _ => none
  join := fun _ => none
  rjoin := fun _ => none

noncomputable def g71 (ρ : Prims) (C : TyC sigA) (k : Nat) (x : Int × Int) : Option (Int × Int) :=
  optK (α := Int × Int) (q65 C ()) (fun (x1 : Int × Int) => bif ρ.not (ρ.and (ρ.eq x.1 x1.1) (ρ.and (ρ.eq x.2 x1.2) true)) then optK (α := Int × Int) (q65 C ()) (fun (x2 : Int × Int) => some x2) else some x)

theorem g71_eq (ρ : Prims) (C : TyC sigA) (k : Nat) (x : (sigA 71).inT.den) : bodyV ρ C tvA vp71 Try.f71 k 71 x = g71 ρ C k x := by kernel_rfl

/-- siskin/pace.Start -/
def vp69 : VP where
  keep := [1, 2]
  cold := fun _ => []
  take := fun _ => []
  outs := fun _ => []
  fin := []
  inst := fun _ g => g
  loop := fun _ => none
  join := fun _ => none
  rjoin := fun _ => none

noncomputable def g69 (ρ : Prims) (C : TyC sigA) (k : Nat) (x : Int × Int) : Option (Int × Int) :=
  optK (α := Int × Int) (q65 C ()) (fun (x1 : Int × Int) => some (x1.1, 1))

theorem g69_eq (ρ : Prims) (C : TyC sigA) (k : Nat) (x : (sigA 69).inT.den) : bodyV ρ C tvA vp69 Try.f69 k 69 x = g69 ρ C k x := by kernel_rfl

/-- siskin/sent.sends -/
def vp72 : VP where
  keep := [1, 2, 3, 7]
  cold := fun _ => []
  take := fun _ => []
  outs := fun _ => []
  fin := []
  inst := fun _ g => g
  loop := fun _ => none
  join := fun _ => none
  rjoin := fun _ => none

noncomputable def g72 (ρ : Prims) (C : TyC sigA) (k : Nat) (x : Int × Int × (List ByteArray) × Int × Int) : Option ((Int × Int × (List ByteArray) × Int × Int) × Bool) :=
  bif ρ.eq (ρ.len x.2.2.1) 0 then some (x, false) else optK (α := Int × Int) (q69 C x.2.2.2) (fun (x1 : Int × Int) => some ((x.1, x.2.1, x.2.2.1, x1), true))

theorem g72_eq (ρ : Prims) (C : TyC sigA) (k : Nat) (x : (sigA 72).inT.den) : bodyV ρ C tvA vp72 Try.f72 k 72 x = g72 ρ C k x := by kernel_rfl

/-- siskin/sent.Acked -/
def vp15 : VP where
  keep := [1, 2, 3, 6, 7, 25]
  cold := fun _ => []
  take := fun _ => []
  outs := fun _ => []
  fin := [(6, [2])]
  inst := fun _ g => g
  loop := fun _ => none
  join := fun _ => none
  rjoin := fun _ => none

noncomputable def g15 (ρ : Prims) (C : TyC sigA) (k : Nat) (x : (Int × Int × (List ByteArray) × Int × Int) × Int × Int) : Option ((Int × Int × (List ByteArray) × Int × Int) × Bool) :=
  optK (α := Int × Int × (List ByteArray) × Int × Int) (q66 C x.1) (fun (x1 : Int × Int × (List ByteArray) × Int × Int) => bif ρ.eq (ρ.len x1.2.2.1) 0 then some (x1, false) else bif ρ.not (ρ.eq x.2.1 x1.1) then some (x1, false) else bif ρ.not (ρ.eq x.2.2 x1.2.1) then some (x1, false) else bif ρ.bnd 1 (ρ.len x1.2.2.1) (ρ.len x1.2.2.1) then optK (α := List ByteArray) (q70 C (ρ.drop x1.2.2.1 1)) (fun (x2 : List ByteArray) => optK (α := Int × Int) (q71 C x1.2.2.2) (fun (x3 : Int × Int) => optK (α := (Int × Int × (List ByteArray) × Int × Int) × Bool) (q72 C (x1.1, ρ.wrap .i64 (ρ.add x1.2.1 1), x2, x3)) (fun (x4 : (Int × Int × (List ByteArray) × Int × Int) × Bool) => some x4))) else none)

theorem g15_eq (ρ : Prims) (C : TyC sigA) (k : Nat) (x : (sigA 15).inT.den) : bodyV ρ C tvA vp15 Try.f15 k 15 x = g15 ρ C k x := by kernel_rfl

/-- siskin/sent.First -/
def vp64 : VP where
  keep := [1, 2, 6]
  cold := fun _ => []
  take := fun _ => []
  outs := fun _ => []
  fin := []
  inst := fun _ g => g
  loop := fun _ => none
  join := fun _ => none
  rjoin := fun _ => none

noncomputable def g64 (ρ : Prims) (C : TyC sigA) (k : Nat) (x : Int × Int × (List ByteArray) × Int × Int) : Option (ByteArray) :=
  bif ρ.eq (ρ.len x.2.2.1) 0 then some ⟨#[]⟩ else bif ρ.inb x.2.2.1 0 then some (ρ.nth ⟨#[]⟩ x.2.2.1 (ρ.nat 0)) else none

theorem g64_eq (ρ : Prims) (C : TyC sigA) (k : Nat) (x : (sigA 64).inT.den) : bodyV ρ C tvA vp64 Try.f64 k 64 x = g64 ρ C k x := by kernel_rfl

/-- siskin/link.data -/
def vp77 : VP where
  keep := [1, 2, 4, 6]
  cold := fun
    | 3 => [(2, [5])]
    | _ => []
  take := fun _ => []
  outs := fun _ => []
  fin := []
  inst := fun _ g => g
  loop := fun _ => none
  join := fun _ => none
  rjoin := fun _ => none

noncomputable def g77 (ρ : Prims) (C : TyC sigA) (k : Nat) (x : (Int × Int × Int × (Int × Int × (List ByteArray) × Int × Int) × Int × Int × Int) × Bool) : Option (List (Int × Int × Int × Int × Int × Int × ByteArray)) :=
  bif ρ.not x.2 then some [] else optK (α := ByteArray) (q64 C x.1.2.2.2.1) (fun (x1 : ByteArray) => some [(1, x.1.1, x.1.2.1, x.1.2.2.1, x.1.2.2.2.1.1, x.1.2.2.2.1.2.1, x1)])

theorem g77_eq (ρ : Prims) (C : TyC sigA) (k : Nat) (x : (sigA 77).inT.den) : bodyV ρ C tvA vp77 Try.f77 k 77 x = g77 ρ C k x := by kernel_rfl

end Go.PI
