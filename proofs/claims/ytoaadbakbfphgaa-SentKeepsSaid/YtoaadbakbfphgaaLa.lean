/- The seat's table: which slots are kept behind regions, which are cleared ahead of rounds; its types. -/
import Derived.Test.YtoaadbakbfphgaaKb
import Derived.Test.YtoaadbakbfphgaaProg
import Derived.KernelRfl
namespace Go.PI
open Go Go.Proofs
set_option maxRecDepth 20000

def keepA : Nat → List Nat
  | 3 => [4, 5, 6, 7, 8, 9, 10, 11, 12, 15, 21, 31, 36, 49, 61, 73, 94, 131, 136, 148]
  | 12 => [0, 1, 2, 4, 6, 7, 8]
  | 13 => [0]
  | 14 => [3, 5, 6, 7, 8, 11, 15, 21, 37]
  | 15 => [3, 6, 7, 25]
  | 16 => [2, 4, 5, 11]
  | 17 => [1, 2, 3, 4, 5, 11]
  | 18 => [4, 5, 10, 14, 25]
  | 19 => [4, 5, 9, 17]
  | 64 => [1, 2, 6]
  | 65 => [0]
  | 66 => [1, 2]
  | 67 => [4]
  | 68 => [3]
  | 69 => [1, 2]
  | 70 => [2, 4]
  | 71 => [1, 2, 5]
  | 72 => [1, 2, 3, 7]
  | 73 => [1, 2, 3, 8, 16]
  | 128 => [4, 5, 7, 8, 9, 16]
  | 129 => [1, 2, 5]
  | 170 => [1, 2, 22]
  | _ => List.range 200

def liveA : Nat → Nat → List Nat
  | 3, 6 => [8, 9, 10, 11, 12, 18, 19, 20, 21, 22, 23, 24, 25, 26, 27, 28, 29, 30, 31, 32, 33, 34, 35, 36, 37, 38, 39, 40, 41, 42, 43, 44, 45, 46, 47, 48, 49, 50, 51, 52, 53, 54, 55, 56, 57, 58, 59, 60, 61, 62, 63, 64, 65, 66, 67, 68, 69, 70, 71, 72, 73, 74, 75, 76, 77, 78, 79, 80, 81, 82, 83, 84, 85, 86, 87, 88, 89, 90, 91, 92, 93, 94, 95, 96, 97, 98, 99, 100, 101, 102, 103, 104, 105, 106, 107, 108, 109, 110, 111, 112, 113, 114, 115, 116, 117, 118, 119, 120, 121, 122, 123, 124, 125, 126, 127, 128, 129, 130, 131, 132, 133, 134, 135, 136, 137, 138, 139, 140, 141, 142, 143, 144, 145, 146, 147, 148]
  | 3, 27 => [132, 133, 134, 135, 136, 137, 138, 139, 140, 141, 142, 143, 144, 145, 146, 147, 148]
  | 18, 4 => [11, 12, 13, 14, 15, 16, 17, 18, 19, 20, 21, 22, 23, 24, 25]
  | 19, 2 => [6, 7, 8, 9, 10, 11, 12, 13, 14, 15, 16, 17, 18]
  | 128, 2 => [5, 9, 10, 11, 12, 13, 14, 15, 16, 17, 18]
  | _, _ => []

def coldA : Nat → Nat → List Nat
  | 3, 4 => [5]
  | 3, 21 => [5]
  | 3, 24 => [0, 5, 6, 8, 9, 11]
  | 3, 29 => [5, 12]
  | 18, 6 => [0, 1, 5]
  | 71, 1 => [1]
  | _, _ => []

def pureA : Nat → Nat → Bool
  | _, _ => true

def polA : Pol := ⟨keepA, coldA, pureA, liveA⟩

@[simp] theorem keepA_3 : polA.keep 3 = [4, 5, 6, 7, 8, 9, 10, 11, 12, 15, 21, 31, 36, 49, 61, 73, 94, 131, 136, 148] := rfl
@[simp] theorem coldA_3_0 : polA.cold 3 0 = [] := rfl
@[simp] theorem coldA_3_1 : polA.cold 3 1 = [] := rfl
@[simp] theorem coldA_3_2 : polA.cold 3 2 = [] := rfl
@[simp] theorem coldA_3_3 : polA.cold 3 3 = [] := rfl
@[simp] theorem coldA_3_4 : polA.cold 3 4 = [5] := rfl
@[simp] theorem coldA_3_5 : polA.cold 3 5 = [] := rfl
@[simp] theorem coldA_3_6 : polA.cold 3 6 = [] := rfl
@[simp] theorem coldA_3_8 : polA.cold 3 8 = [] := rfl
@[simp] theorem coldA_3_9 : polA.cold 3 9 = [] := rfl
@[simp] theorem coldA_3_10 : polA.cold 3 10 = [] := rfl
@[simp] theorem coldA_3_11 : polA.cold 3 11 = [] := rfl
@[simp] theorem coldA_3_12 : polA.cold 3 12 = [] := rfl
@[simp] theorem coldA_3_13 : polA.cold 3 13 = [] := rfl
@[simp] theorem coldA_3_14 : polA.cold 3 14 = [] := rfl
@[simp] theorem coldA_3_15 : polA.cold 3 15 = [] := rfl
@[simp] theorem coldA_3_16 : polA.cold 3 16 = [] := rfl
@[simp] theorem coldA_3_17 : polA.cold 3 17 = [] := rfl
@[simp] theorem coldA_3_18 : polA.cold 3 18 = [] := rfl
@[simp] theorem coldA_3_19 : polA.cold 3 19 = [] := rfl
@[simp] theorem coldA_3_20 : polA.cold 3 20 = [] := rfl
@[simp] theorem coldA_3_21 : polA.cold 3 21 = [5] := rfl
@[simp] theorem coldA_3_22 : polA.cold 3 22 = [] := rfl
@[simp] theorem coldA_3_23 : polA.cold 3 23 = [] := rfl
@[simp] theorem pureA_3_24 : polA.pure 3 24 = true := rfl
@[simp] theorem coldA_3_24 : polA.cold 3 24 = [0, 5, 6, 8, 9, 11] := rfl
@[simp] theorem coldA_3_25 : polA.cold 3 25 = [] := rfl
@[simp] theorem coldA_3_26 : polA.cold 3 26 = [] := rfl
@[simp] theorem coldA_3_27 : polA.cold 3 27 = [] := rfl
@[simp] theorem pureA_3_29 : polA.pure 3 29 = true := rfl
@[simp] theorem coldA_3_29 : polA.cold 3 29 = [5, 12] := rfl
@[simp] theorem coldA_3_30 : polA.cold 3 30 = [] := rfl
@[simp] theorem coldA_3_28 : polA.cold 3 28 = [] := rfl
@[simp] theorem coldA_3_7 : polA.cold 3 7 = [] := rfl
@[simp] theorem coldA_3_31 : polA.cold 3 31 = [] := rfl
@[simp] theorem liveA_3_6 : polA.live 3 6 = [8, 9, 10, 11, 12, 18, 19, 20, 21, 22, 23, 24, 25, 26, 27, 28, 29, 30, 31, 32, 33, 34, 35, 36, 37, 38, 39, 40, 41, 42, 43, 44, 45, 46, 47, 48, 49, 50, 51, 52, 53, 54, 55, 56, 57, 58, 59, 60, 61, 62, 63, 64, 65, 66, 67, 68, 69, 70, 71, 72, 73, 74, 75, 76, 77, 78, 79, 80, 81, 82, 83, 84, 85, 86, 87, 88, 89, 90, 91, 92, 93, 94, 95, 96, 97, 98, 99, 100, 101, 102, 103, 104, 105, 106, 107, 108, 109, 110, 111, 112, 113, 114, 115, 116, 117, 118, 119, 120, 121, 122, 123, 124, 125, 126, 127, 128, 129, 130, 131, 132, 133, 134, 135, 136, 137, 138, 139, 140, 141, 142, 143, 144, 145, 146, 147, 148] := rfl
@[simp] theorem liveA_3_27 : polA.live 3 27 = [132, 133, 134, 135, 136, 137, 138, 139, 140, 141, 142, 143, 144, 145, 146, 147, 148] := rfl
@[simp] theorem keepA_12 : polA.keep 12 = [0, 1, 2, 4, 6, 7, 8] := rfl
@[simp] theorem coldA_12_0 : polA.cold 12 0 = [] := rfl
@[simp] theorem coldA_12_1 : polA.cold 12 1 = [] := rfl
@[simp] theorem coldA_12_2 : polA.cold 12 2 = [] := rfl
@[simp] theorem coldA_12_3 : polA.cold 12 3 = [] := rfl
@[simp] theorem coldA_12_4 : polA.cold 12 4 = [] := rfl
@[simp] theorem coldA_12_5 : polA.cold 12 5 = [] := rfl
@[simp] theorem keepA_13 : polA.keep 13 = [0] := rfl
@[simp] theorem coldA_13_0 : polA.cold 13 0 = [] := rfl
@[simp] theorem coldA_13_1 : polA.cold 13 1 = [] := rfl
@[simp] theorem keepA_14 : polA.keep 14 = [3, 5, 6, 7, 8, 11, 15, 21, 37] := rfl
@[simp] theorem coldA_14_0 : polA.cold 14 0 = [] := rfl
@[simp] theorem coldA_14_1 : polA.cold 14 1 = [] := rfl
@[simp] theorem coldA_14_2 : polA.cold 14 2 = [] := rfl
@[simp] theorem coldA_14_3 : polA.cold 14 3 = [] := rfl
@[simp] theorem coldA_14_4 : polA.cold 14 4 = [] := rfl
@[simp] theorem coldA_14_5 : polA.cold 14 5 = [] := rfl
@[simp] theorem coldA_14_6 : polA.cold 14 6 = [] := rfl
@[simp] theorem coldA_14_7 : polA.cold 14 7 = [] := rfl
@[simp] theorem coldA_14_8 : polA.cold 14 8 = [] := rfl
@[simp] theorem coldA_14_9 : polA.cold 14 9 = [] := rfl
@[simp] theorem coldA_14_10 : polA.cold 14 10 = [] := rfl
@[simp] theorem coldA_14_11 : polA.cold 14 11 = [] := rfl
@[simp] theorem coldA_14_12 : polA.cold 14 12 = [] := rfl
@[simp] theorem keepA_15 : polA.keep 15 = [3, 6, 7, 25] := rfl
@[simp] theorem coldA_15_0 : polA.cold 15 0 = [] := rfl
@[simp] theorem coldA_15_1 : polA.cold 15 1 = [] := rfl
@[simp] theorem coldA_15_2 : polA.cold 15 2 = [] := rfl
@[simp] theorem coldA_15_3 : polA.cold 15 3 = [] := rfl
@[simp] theorem coldA_15_4 : polA.cold 15 4 = [] := rfl
@[simp] theorem coldA_15_5 : polA.cold 15 5 = [] := rfl
@[simp] theorem coldA_15_6 : polA.cold 15 6 = [] := rfl
@[simp] theorem coldA_15_7 : polA.cold 15 7 = [] := rfl
@[simp] theorem keepA_16 : polA.keep 16 = [2, 4, 5, 11] := rfl
@[simp] theorem coldA_16_0 : polA.cold 16 0 = [] := rfl
@[simp] theorem coldA_16_1 : polA.cold 16 1 = [] := rfl
@[simp] theorem coldA_16_2 : polA.cold 16 2 = [] := rfl
@[simp] theorem coldA_16_3 : polA.cold 16 3 = [] := rfl
@[simp] theorem coldA_16_4 : polA.cold 16 4 = [] := rfl
@[simp] theorem coldA_16_5 : polA.cold 16 5 = [] := rfl
@[simp] theorem keepA_17 : polA.keep 17 = [1, 2, 3, 4, 5, 11] := rfl
@[simp] theorem coldA_17_0 : polA.cold 17 0 = [] := rfl
@[simp] theorem coldA_17_1 : polA.cold 17 1 = [] := rfl
@[simp] theorem coldA_17_2 : polA.cold 17 2 = [] := rfl
@[simp] theorem coldA_17_3 : polA.cold 17 3 = [] := rfl
@[simp] theorem coldA_17_4 : polA.cold 17 4 = [] := rfl
@[simp] theorem coldA_17_5 : polA.cold 17 5 = [] := rfl
@[simp] theorem coldA_17_6 : polA.cold 17 6 = [] := rfl
@[simp] theorem keepA_18 : polA.keep 18 = [4, 5, 10, 14, 25] := rfl
@[simp] theorem coldA_18_0 : polA.cold 18 0 = [] := rfl
@[simp] theorem coldA_18_1 : polA.cold 18 1 = [] := rfl
@[simp] theorem coldA_18_2 : polA.cold 18 2 = [] := rfl
@[simp] theorem coldA_18_3 : polA.cold 18 3 = [] := rfl
@[simp] theorem coldA_18_4 : polA.cold 18 4 = [] := rfl
@[simp] theorem pureA_18_6 : polA.pure 18 6 = true := rfl
@[simp] theorem coldA_18_6 : polA.cold 18 6 = [0, 1, 5] := rfl
@[simp] theorem coldA_18_7 : polA.cold 18 7 = [] := rfl
@[simp] theorem coldA_18_5 : polA.cold 18 5 = [] := rfl
@[simp] theorem coldA_18_8 : polA.cold 18 8 = [] := rfl
@[simp] theorem liveA_18_4 : polA.live 18 4 = [11, 12, 13, 14, 15, 16, 17, 18, 19, 20, 21, 22, 23, 24, 25] := rfl
@[simp] theorem keepA_19 : polA.keep 19 = [4, 5, 9, 17] := rfl
@[simp] theorem coldA_19_0 : polA.cold 19 0 = [] := rfl
@[simp] theorem coldA_19_1 : polA.cold 19 1 = [] := rfl
@[simp] theorem coldA_19_2 : polA.cold 19 2 = [] := rfl
@[simp] theorem coldA_19_4 : polA.cold 19 4 = [] := rfl
@[simp] theorem coldA_19_5 : polA.cold 19 5 = [] := rfl
@[simp] theorem coldA_19_3 : polA.cold 19 3 = [] := rfl
@[simp] theorem coldA_19_6 : polA.cold 19 6 = [] := rfl
@[simp] theorem liveA_19_2 : polA.live 19 2 = [6, 7, 8, 9, 10, 11, 12, 13, 14, 15, 16, 17, 18] := rfl
@[simp] theorem keepA_64 : polA.keep 64 = [1, 2, 6] := rfl
@[simp] theorem coldA_64_0 : polA.cold 64 0 = [] := rfl
@[simp] theorem coldA_64_1 : polA.cold 64 1 = [] := rfl
@[simp] theorem coldA_64_2 : polA.cold 64 2 = [] := rfl
@[simp] theorem coldA_64_3 : polA.cold 64 3 = [] := rfl
@[simp] theorem keepA_65 : polA.keep 65 = [0] := rfl
@[simp] theorem coldA_65_0 : polA.cold 65 0 = [] := rfl
@[simp] theorem coldA_65_1 : polA.cold 65 1 = [] := rfl
@[simp] theorem keepA_66 : polA.keep 66 = [1, 2] := rfl
@[simp] theorem coldA_66_0 : polA.cold 66 0 = [] := rfl
@[simp] theorem coldA_66_1 : polA.cold 66 1 = [] := rfl
@[simp] theorem coldA_66_2 : polA.cold 66 2 = [] := rfl
@[simp] theorem keepA_67 : polA.keep 67 = [4] := rfl
@[simp] theorem coldA_67_0 : polA.cold 67 0 = [] := rfl
@[simp] theorem coldA_67_1 : polA.cold 67 1 = [] := rfl
@[simp] theorem keepA_68 : polA.keep 68 = [3] := rfl
@[simp] theorem coldA_68_0 : polA.cold 68 0 = [] := rfl
@[simp] theorem coldA_68_1 : polA.cold 68 1 = [] := rfl
@[simp] theorem keepA_69 : polA.keep 69 = [1, 2] := rfl
@[simp] theorem coldA_69_0 : polA.cold 69 0 = [] := rfl
@[simp] theorem coldA_69_1 : polA.cold 69 1 = [] := rfl
@[simp] theorem coldA_69_2 : polA.cold 69 2 = [] := rfl
@[simp] theorem coldA_69_3 : polA.cold 69 3 = [] := rfl
@[simp] theorem keepA_70 : polA.keep 70 = [2, 4] := rfl
@[simp] theorem coldA_70_0 : polA.cold 70 0 = [] := rfl
@[simp] theorem coldA_70_1 : polA.cold 70 1 = [] := rfl
@[simp] theorem coldA_70_2 : polA.cold 70 2 = [] := rfl
@[simp] theorem coldA_70_3 : polA.cold 70 3 = [] := rfl
@[simp] theorem keepA_71 : polA.keep 71 = [1, 2, 5] := rfl
@[simp] theorem coldA_71_0 : polA.cold 71 0 = [] := rfl
@[simp] theorem pureA_71_1 : polA.pure 71 1 = true := rfl
@[simp] theorem coldA_71_1 : polA.cold 71 1 = [1] := rfl
@[simp] theorem coldA_71_2 : polA.cold 71 2 = [] := rfl
@[simp] theorem coldA_71_3 : polA.cold 71 3 = [] := rfl
@[simp] theorem keepA_72 : polA.keep 72 = [1, 2, 3, 7] := rfl
@[simp] theorem coldA_72_0 : polA.cold 72 0 = [] := rfl
@[simp] theorem coldA_72_1 : polA.cold 72 1 = [] := rfl
@[simp] theorem coldA_72_2 : polA.cold 72 2 = [] := rfl
@[simp] theorem coldA_72_3 : polA.cold 72 3 = [] := rfl
@[simp] theorem coldA_72_4 : polA.cold 72 4 = [] := rfl
@[simp] theorem keepA_73 : polA.keep 73 = [1, 2, 3, 8, 16] := rfl
@[simp] theorem coldA_73_0 : polA.cold 73 0 = [] := rfl
@[simp] theorem coldA_73_1 : polA.cold 73 1 = [] := rfl
@[simp] theorem coldA_73_2 : polA.cold 73 2 = [] := rfl
@[simp] theorem coldA_73_3 : polA.cold 73 3 = [] := rfl
@[simp] theorem coldA_73_4 : polA.cold 73 4 = [] := rfl
@[simp] theorem coldA_73_5 : polA.cold 73 5 = [] := rfl
@[simp] theorem coldA_73_6 : polA.cold 73 6 = [] := rfl
@[simp] theorem coldA_73_7 : polA.cold 73 7 = [] := rfl
@[simp] theorem coldA_73_8 : polA.cold 73 8 = [] := rfl
@[simp] theorem coldA_73_9 : polA.cold 73 9 = [] := rfl
@[simp] theorem keepA_128 : polA.keep 128 = [4, 5, 7, 8, 9, 16] := rfl
@[simp] theorem coldA_128_0 : polA.cold 128 0 = [] := rfl
@[simp] theorem coldA_128_1 : polA.cold 128 1 = [] := rfl
@[simp] theorem coldA_128_2 : polA.cold 128 2 = [] := rfl
@[simp] theorem coldA_128_3 : polA.cold 128 3 = [] := rfl
@[simp] theorem coldA_128_4 : polA.cold 128 4 = [] := rfl
@[simp] theorem coldA_128_5 : polA.cold 128 5 = [] := rfl
@[simp] theorem coldA_128_6 : polA.cold 128 6 = [] := rfl
@[simp] theorem coldA_128_7 : polA.cold 128 7 = [] := rfl
@[simp] theorem liveA_128_2 : polA.live 128 2 = [5, 9, 10, 11, 12, 13, 14, 15, 16, 17, 18] := rfl
@[simp] theorem keepA_129 : polA.keep 129 = [1, 2, 5] := rfl
@[simp] theorem coldA_129_0 : polA.cold 129 0 = [] := rfl
@[simp] theorem coldA_129_1 : polA.cold 129 1 = [] := rfl
@[simp] theorem coldA_129_2 : polA.cold 129 2 = [] := rfl
@[simp] theorem coldA_129_3 : polA.cold 129 3 = [] := rfl
@[simp] theorem keepA_170 : polA.keep 170 = [1, 2, 22] := rfl
@[simp] theorem coldA_170_0 : polA.cold 170 0 = [] := rfl
@[simp] theorem coldA_170_1 : polA.cold 170 1 = [] := rfl
@[simp] theorem coldA_170_2 : polA.cold 170 2 = [] := rfl
@[simp] theorem coldA_170_3 : polA.cold 170 3 = [] := rfl

def ovrA : CallT := fun _ _ _ => none

/-- The seat's functions. -/
noncomputable def callA (k : Nat) : CallT := callF Try.prog (tiOf Try.prog) polA ovrA k

noncomputable def tiA : Nat → TI := tiOf Try.prog

@[simp] theorem tiA_3 : tiA 3 = TI.int IntKind.i64 := by kernel_rfl
@[simp] theorem tiA_4 : tiA 4 = TI.bool := by kernel_rfl
@[simp] theorem tiA_5 : tiA 5 = TI.int IntKind.u8 := by kernel_rfl
@[simp] theorem tiA_9 : tiA 9 = TI.str := by kernel_rfl
@[simp] theorem tiA_22 : tiA 22 = TI.sl { cells := 4, bytes := 40, ty := 31 } [D.int IntKind.i64 0, D.int IntKind.i64 0, D.int IntKind.i64 0, D.str ⟨#[]⟩] := by kernel_rfl
@[simp] theorem tiA_24 : tiA 24 = TI.sl { cells := 1, bytes := 16, ty := 9 } [D.str ⟨#[]⟩] := by kernel_rfl
@[simp] theorem tiA_26 : tiA 26 = TI.st [(0, 1, 3), (1, 1, 3)] [D.int IntKind.i64 0, D.int IntKind.i64 0] := by kernel_rfl
@[simp] theorem tiA_28 : tiA 28 = TI.st [(0, 1, 3), (1, 1, 3), (2, 1, 24), (3, 2, 26)] [D.int IntKind.i64 0, D.int IntKind.i64 0, D.sl 2 1 [], D.int IntKind.i64 0, D.int IntKind.i64 0] := by kernel_rfl
@[simp] theorem tiA_31 : tiA 31 = TI.st [(0, 1, 3), (1, 1, 3), (2, 1, 3), (3, 1, 9)] [D.int IntKind.i64 0, D.int IntKind.i64 0, D.int IntKind.i64 0, D.str ⟨#[]⟩] := by kernel_rfl
@[simp] theorem tiA_32 : tiA 32 = TI.int IntKind.i64 := by kernel_rfl
@[simp] theorem tiA_147 : tiA 147 = TI.fn := by kernel_rfl

end Go.PI

