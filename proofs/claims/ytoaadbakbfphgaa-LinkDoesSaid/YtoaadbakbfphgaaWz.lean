/- The seat's functions, as a table; what it answers, the program answers. -/
import Derived.Test.YtoaadbakbfphgaaWa
import Derived.Test.YtoaadbakbfphgaaWb
import Derived.Test.YtoaadbakbfphgaaWc
import Derived.Test.YtoaadbakbfphgaaWd
import Derived.Test.YtoaadbakbfphgaaWe
import Derived.Test.YtoaadbakbfphgaaWf
import Derived.Test.YtoaadbakbfphgaaWg
import Derived.Test.YtoaadbakbfphgaaWh
namespace Go.PI
open Go Go.Proofs
set_option maxRecDepth 100000
set_option linter.unusedVariables false

def vpA : Nat → VP
  | 7 => vp7
  | 13 => vp13
  | 14 => vp14
  | 15 => vp15
  | 16 => vp16
  | 17 => vp17
  | 18 => vp18
  | 19 => vp19
  | 20 => vp20
  | 22 => vp22
  | 24 => vp24
  | 25 => vp25
  | 26 => vp26
  | 27 => vp27
  | 28 => vp28
  | 29 => vp29
  | 30 => vp30
  | 31 => vp31
  | 32 => vp32
  | 33 => vp33
  | 34 => vp34
  | 35 => vp35
  | 36 => vp36
  | 37 => vp37
  | 38 => vp38
  | 62 => vp62
  | 64 => vp64
  | 65 => vp65
  | 66 => vp66
  | 67 => vp67
  | 68 => vp68
  | 69 => vp69
  | 70 => vp70
  | 71 => vp71
  | 72 => vp72
  | 73 => vp73
  | 74 => vp74
  | 75 => vp75
  | 76 => vp76
  | 77 => vp77
  | 78 => vp78
  | 79 => vp79
  | 80 => vp80
  | 81 => vp81
  | 82 => vp82
  | 83 => vp83
  | 84 => vp84
  | 85 => vp85
  | 86 => vp86
  | 87 => vp87
  | 88 => vp88
  | 89 => vp89
  | 90 => vp90
  | 91 => vp91
  | 126 => vp126
  | 128 => vp128
  | 129 => vp129
  | 130 => vp130
  | 131 => vp131
  | 132 => vp132
  | 133 => vp133
  | 134 => vp134
  | 135 => vp135
  | 136 => vp136
  | 137 => vp137
  | 138 => vp138
  | 139 => vp139
  | 140 => vp140
  | 141 => vp141
  | 142 => vp142
  | 170 => vp170
  | 171 => vp171
  | 172 => vp172
  | 173 => vp173
  | _ => vp65

/-- The seat's functions, to a depth. -/
noncomputable def tab : Nat → TyC sigA
  | 0 => fun _ _ => none
  | k + 1 => fun j x => bodyV std (tab k) tvA (vpA j) (fnA j) k j x

theorem tab_ok (hm : Try.prog.follows .mixedOrders = true) : ∀ k j x y, tab k j x = some y → EntOk Try.prog (sigA j) x y
  | 0, _, _, _, h => by cases h
  | k + 1, j, x, y, h => by
    simp only [tab] at h
    cases hb : (fnA j).body with
    | none => simp only [bodyV, hb] at h; cases h
    | some c =>
      obtain ⟨h1, h2⟩ := fnA_ok j c hb
      exact bodyV_ok (C' := fun id => plainC (tab k) ((vpA j).inst id)) tvA_ok hm (vpA j) (fun id => plain_ok (tab_ok hm k) _) (fun id => plain_matches _ _) h1 hb h2 h

theorem t65 (k : Nat) (x : (sigA 65).inT.den) : tab (k + 1) 65 x = g65 std (tab k) k x := g65_eq std (tab k) k x
theorem t13 (k : Nat) (x : (sigA 13).inT.den) : tab (k + 1) 13 x = g13 std (tab k) k x := g13_eq std (tab k) k x
theorem t76 (k : Nat) (x : (sigA 76).inT.den) : tab (k + 1) 76 x = g76 std (tab k) k x := g76_eq std (tab k) k x
theorem t25 (k : Nat) (x : (sigA 25).inT.den) : tab (k + 1) 25 x = g25 std (tab k) k x := g25_eq std (tab k) k x
theorem t70 (k : Nat) (x : (sigA 70).inT.den) : tab (k + 1) 70 x = g70 std (tab k) k x := g70_eq std (tab k) k x
theorem t66 (k : Nat) (x : (sigA 66).inT.den) : tab (k + 1) 66 x = g66 std (tab k) k x := g66_eq std (tab k) k x
theorem t71 (k : Nat) (x : (sigA 71).inT.den) : tab (k + 1) 71 x = g71 std (tab k) k x := g71_eq std (tab k) k x
theorem t69 (k : Nat) (x : (sigA 69).inT.den) : tab (k + 1) 69 x = g69 std (tab k) k x := g69_eq std (tab k) k x
theorem t72 (k : Nat) (x : (sigA 72).inT.den) : tab (k + 1) 72 x = g72 std (tab k) k x := g72_eq std (tab k) k x
theorem t15 (k : Nat) (x : (sigA 15).inT.den) : tab (k + 1) 15 x = g15 std (tab k) k x := g15_eq std (tab k) k x
theorem t64 (k : Nat) (x : (sigA 64).inT.den) : tab (k + 1) 64 x = g64 std (tab k) k x := g64_eq std (tab k) k x
theorem t77 (k : Nat) (x : (sigA 77).inT.den) : tab (k + 1) 77 x = g77 std (tab k) k x := g77_eq std (tab k) k x
theorem t16 (k : Nat) (x : (sigA 16).inT.den) : tab (k + 1) 16 x = g16 std (tab k) k x := g16_eq std (tab k) k x
theorem t137 (k : Nat) (x : (sigA 137).inT.den) : tab (k + 1) 137 x = g137 std (tab k) k x := g137_eq std (tab k) k x
theorem t79 (k : Nat) (x : (sigA 79).inT.den) : tab (k + 1) 79 x = g79 std (tab k) k x := g79_eq std (tab k) k x
theorem t170 (k : Nat) (x : (sigA 170).inT.den) : tab (k + 1) 170 x = g170 std (tab k) k x := g170_eq std (tab k) k x
theorem t129 (k : Nat) (x : (sigA 129).inT.den) : tab (k + 1) 129 x = g129 std (tab k) k x := g129_eq std (tab k) k x
theorem t73 (k : Nat) (x : (sigA 73).inT.den) : tab (k + 1) 73 x = g73 std (tab k) k x := g73_eq std (tab k) k x
theorem t17 (k : Nat) (x : (sigA 17).inT.den) : tab (k + 1) 17 x = g17 std (tab k) k x := g17_eq std (tab k) k x
theorem t28 (k : Nat) (x : (sigA 28).inT.den) : tab (k + 1) 28 x = g28 std (tab k) k x := g28_eq std (tab k) k x
theorem t131 (k : Nat) (x : (sigA 131).inT.den) : tab (k + 1) 131 x = g131 std (tab k) k x := g131_eq std (tab k) k x
theorem t133 (k : Nat) (x : (sigA 133).inT.den) : tab (k + 1) 133 x = g133 std (tab k) k x := g133_eq std (tab k) k x
theorem t135 (k : Nat) (x : (sigA 135).inT.den) : tab (k + 1) 135 x = g135 std (tab k) k x := g135_eq std (tab k) k x
theorem t136 (k : Nat) (x : (sigA 136).inT.den) : tab (k + 1) 136 x = g136 std (tab k) k x := g136_eq std (tab k) k x
theorem t132 (k : Nat) (x : (sigA 132).inT.den) : tab (k + 1) 132 x = g132 std (tab k) k x := g132_eq std (tab k) k x
theorem t134 (k : Nat) (x : (sigA 134).inT.den) : tab (k + 1) 134 x = g134 std (tab k) k x := g134_eq std (tab k) k x
theorem t78 (k : Nat) (x : (sigA 78).inT.den) : tab (k + 1) 78 x = g78 std (tab k) k x := g78_eq std (tab k) k x
theorem t80 (k : Nat) (x : (sigA 80).inT.den) : tab (k + 1) 80 x = g80 std (tab k) k x := g80_eq std (tab k) k x
theorem t81 (k : Nat) (x : (sigA 81).inT.den) : tab (k + 1) 81 x = g81 std (tab k) k x := g81_eq std (tab k) k x
theorem t130 (k : Nat) (x : (sigA 130).inT.den) : tab (k + 1) 130 x = g130 std (tab k) k x := g130_eq std (tab k) k x
theorem t27 (k : Nat) (x : (sigA 27).inT.den) : tab (k + 1) 27 x = g27 std (tab k) k x := g27_eq std (tab k) k x
theorem t20 (k : Nat) (x : (sigA 20).inT.den) : tab (k + 1) 20 x = g20 std (tab k) k x := g20_eq std (tab k) k x
theorem t75 (k : Nat) (x : (sigA 75).inT.den) : tab (k + 1) 75 x = g75 std (tab k) k x := g75_eq std (tab k) k x
theorem t68 (k : Nat) (x : (sigA 68).inT.den) : tab (k + 1) 68 x = g68 std (tab k) k x := g68_eq std (tab k) k x
theorem t128 (k : Nat) (x : (sigA 128).inT.den) : tab (k + 1) 128 x = g128 std (tab k) k x := g128_eq std (tab k) k x
theorem t67 (k : Nat) (x : (sigA 67).inT.den) : tab (k + 1) 67 x = g67 std (tab k) k x := g67_eq std (tab k) k x
theorem t14 (k : Nat) (x : (sigA 14).inT.den) : tab (k + 1) 14 x = g14 std (tab k) k x := g14_eq std (tab k) k x
theorem t26 (k : Nat) (x : (sigA 26).inT.den) : tab (k + 1) 26 x = g26 std (tab k) k x := g26_eq std (tab k) k x
theorem t29 (k : Nat) (x : (sigA 29).inT.den) : tab (k + 1) 29 x = g29 std (tab k) k x := g29_eq std (tab k) k x
theorem t22 (k : Nat) (x : (sigA 22).inT.den) : tab (k + 1) 22 x = g22 std (tab k) k x := g22_eq std (tab k) k x
theorem t82 (k : Nat) (x : (sigA 82).inT.den) : tab (k + 1) 82 x = g82 std (tab k) k x := g82_eq std (tab k) k x
theorem t30 (k : Nat) (x : (sigA 30).inT.den) : tab (k + 1) 30 x = g30 std (tab k) k x := g30_eq std (tab k) k x
theorem t19 (k : Nat) (x : (sigA 19).inT.den) : tab (k + 1) 19 x = g19 std (tab k) k x := g19_eq std (tab k) k x
theorem t83 (k : Nat) (x : (sigA 83).inT.den) : tab (k + 1) 83 x = g83 std (tab k) k x := g83_eq std (tab k) k x
theorem t84 (k : Nat) (x : (sigA 84).inT.den) : tab (k + 1) 84 x = g84 std (tab k) k x := g84_eq std (tab k) k x
theorem t31 (k : Nat) (x : (sigA 31).inT.den) : tab (k + 1) 31 x = g31 std (tab k) k x := g31_eq std (tab k) k x
theorem t18 (k : Nat) (x : (sigA 18).inT.den) : tab (k + 1) 18 x = g18 std (tab k) k x := g18_eq std (tab k) k x
theorem t138 (k : Nat) (x : (sigA 138).inT.den) : tab (k + 1) 138 x = g138 std (tab k) k x := g138_eq std (tab k) k x
theorem t85 (k : Nat) (x : (sigA 85).inT.den) : tab (k + 1) 85 x = g85 std (tab k) k x := g85_eq std (tab k) k x
theorem t32 (k : Nat) (x : (sigA 32).inT.den) : tab (k + 1) 32 x = g32 std (tab k) k x := g32_eq std (tab k) k x
theorem t36 (k : Nat) (x : (sigA 36).inT.den) : tab (k + 1) 36 x = g36 std (tab k) k x := g36_eq std (tab k) k x
theorem t33 (k : Nat) (x : (sigA 33).inT.den) : tab (k + 1) 33 x = g33 std (tab k) k x := g33_eq std (tab k) k x
theorem t171 (k : Nat) (x : (sigA 171).inT.den) : tab (k + 1) 171 x = g171 std (tab k) k x := g171_eq std (tab k) k x
theorem t139 (k : Nat) (x : (sigA 139).inT.den) : tab (k + 1) 139 x = g139 std (tab k) k x := g139_eq std (tab k) k x
theorem t86 (k : Nat) (x : (sigA 86).inT.den) : tab (k + 1) 86 x = g86 std (tab k) k x := g86_eq std (tab k) k x
theorem t34 (k : Nat) (x : (sigA 34).inT.den) : tab (k + 1) 34 x = g34 std (tab k) k x := g34_eq std (tab k) k x
theorem t173 (k : Nat) (x : (sigA 173).inT.den) : tab (k + 1) 173 x = g173 std (tab k) k x := g173_eq std (tab k) k x
theorem t172 (k : Nat) (x : (sigA 172).inT.den) : tab (k + 1) 172 x = g172 std (tab k) k x := g172_eq std (tab k) k x
theorem t140 (k : Nat) (x : (sigA 140).inT.den) : tab (k + 1) 140 x = g140 std (tab k) k x := g140_eq std (tab k) k x
theorem t87 (k : Nat) (x : (sigA 87).inT.den) : tab (k + 1) 87 x = g87 std (tab k) k x := g87_eq std (tab k) k x
theorem t35 (k : Nat) (x : (sigA 35).inT.den) : tab (k + 1) 35 x = g35 std (tab k) k x := g35_eq std (tab k) k x
theorem t74 (k : Nat) (x : (sigA 74).inT.den) : tab (k + 1) 74 x = g74 std (tab k) k x := g74_eq std (tab k) k x
theorem t24 (k : Nat) (x : (sigA 24).inT.den) : tab (k + 1) 24 x = g24 std (tab k) k x := g24_eq std (tab k) k x
theorem t126 (k : Nat) (x : (sigA 126).inT.den) : tab (k + 1) 126 x = g126 std (tab k) k x := g126_eq std (tab k) k x
theorem t62 (k : Nat) (x : (sigA 62).inT.den) : tab (k + 1) 62 x = g62 std (tab k) k x := g62_eq std (tab k) k x
theorem t141 (k : Nat) (x : (sigA 141).inT.den) : tab (k + 1) 141 x = g141 std (tab k) k x := g141_eq std (tab k) k x
theorem t142 (k : Nat) (x : (sigA 142).inT.den) : tab (k + 1) 142 x = g142 std (tab k) k x := g142_eq std (tab k) k x
theorem t88 (k : Nat) (x : (sigA 88).inT.den) : tab (k + 1) 88 x = g88 std (tab k) k x := g88_eq std (tab k) k x
theorem t89 (k : Nat) (x : (sigA 89).inT.den) : tab (k + 1) 89 x = g89 std (tab k) k x := g89_eq std (tab k) k x
theorem t90 (k : Nat) (x : (sigA 90).inT.den) : tab (k + 1) 90 x = g90 std (tab k) k x := g90_eq std (tab k) k x
theorem t37 (k : Nat) (x : (sigA 37).inT.den) : tab (k + 1) 37 x = g37 std (tab k) k x := g37_eq std (tab k) k x
theorem t91 (k : Nat) (x : (sigA 91).inT.den) : tab (k + 1) 91 x = g91 std (tab k) k x := g91_eq std (tab k) k x
theorem t38 (k : Nat) (x : (sigA 38).inT.den) : tab (k + 1) 38 x = g38 std (tab k) k x := g38_eq std (tab k) k x
theorem t7 (k : Nat) (x : (sigA 7).inT.den) : tab (k + 1) 7 x = g7 std (tab k) k x := g7_eq std (tab k) k x

/-- .. to any depth. -/
noncomputable def fnL : TyC sigA := lim tab

theorem c65 (x : (sigA 65).inT.den) : Cont (g65 std fnL 0 x) fun k => g65 std (tab k) k x := by
  unfold g65
  repeat' (first | (refine cont_opt ?_ fun _ => ?_) | refine cont_cond _ ?_ ?_ | (refine cont_sum _ (fun _ => ?_) fun _ => ?_) | (refine cont_loop (fun _ => ?_) (fun k => k) 0 _) | refine cont_both ?_ ?_ | exact cont_const _ | exact cont_call _ _ _)
theorem c13 (x : (sigA 13).inT.den) : Cont (g13 std fnL 0 x) fun k => g13 std (tab k) k x := by
  unfold g13
  repeat' (first | (refine cont_opt ?_ fun _ => ?_) | refine cont_cond _ ?_ ?_ | (refine cont_sum _ (fun _ => ?_) fun _ => ?_) | (refine cont_loop (fun _ => ?_) (fun k => k) 0 _) | refine cont_both ?_ ?_ | exact cont_const _ | exact cont_call _ _ _)
theorem c76 (x : (sigA 76).inT.den) : Cont (g76 std fnL 0 x) fun k => g76 std (tab k) k x := by
  unfold g76
  repeat' (first | (refine cont_opt ?_ fun _ => ?_) | refine cont_cond _ ?_ ?_ | (refine cont_sum _ (fun _ => ?_) fun _ => ?_) | (refine cont_loop (fun _ => ?_) (fun k => k) 0 _) | refine cont_both ?_ ?_ | exact cont_const _ | exact cont_call _ _ _)
theorem c25 (x : (sigA 25).inT.den) : Cont (g25 std fnL 0 x) fun k => g25 std (tab k) k x := by
  unfold g25
  repeat' (first | (refine cont_opt ?_ fun _ => ?_) | refine cont_cond _ ?_ ?_ | (refine cont_sum _ (fun _ => ?_) fun _ => ?_) | (refine cont_loop (fun _ => ?_) (fun k => k) 0 _) | refine cont_both ?_ ?_ | exact cont_const _ | exact cont_call _ _ _)
theorem c70 (x : (sigA 70).inT.den) : Cont (g70 std fnL 0 x) fun k => g70 std (tab k) k x := by
  unfold g70
  repeat' (first | (refine cont_opt ?_ fun _ => ?_) | refine cont_cond _ ?_ ?_ | (refine cont_sum _ (fun _ => ?_) fun _ => ?_) | (refine cont_loop (fun _ => ?_) (fun k => k) 0 _) | refine cont_both ?_ ?_ | exact cont_const _ | exact cont_call _ _ _)
theorem c66 (x : (sigA 66).inT.den) : Cont (g66 std fnL 0 x) fun k => g66 std (tab k) k x := by
  unfold g66
  repeat' (first | (refine cont_opt ?_ fun _ => ?_) | refine cont_cond _ ?_ ?_ | (refine cont_sum _ (fun _ => ?_) fun _ => ?_) | (refine cont_loop (fun _ => ?_) (fun k => k) 0 _) | refine cont_both ?_ ?_ | exact cont_const _ | exact cont_call _ _ _)
theorem c71 (x : (sigA 71).inT.den) : Cont (g71 std fnL 0 x) fun k => g71 std (tab k) k x := by
  unfold g71
  repeat' (first | (refine cont_opt ?_ fun _ => ?_) | refine cont_cond _ ?_ ?_ | (refine cont_sum _ (fun _ => ?_) fun _ => ?_) | (refine cont_loop (fun _ => ?_) (fun k => k) 0 _) | refine cont_both ?_ ?_ | exact cont_const _ | exact cont_call _ _ _)
theorem c69 (x : (sigA 69).inT.den) : Cont (g69 std fnL 0 x) fun k => g69 std (tab k) k x := by
  unfold g69
  repeat' (first | (refine cont_opt ?_ fun _ => ?_) | refine cont_cond _ ?_ ?_ | (refine cont_sum _ (fun _ => ?_) fun _ => ?_) | (refine cont_loop (fun _ => ?_) (fun k => k) 0 _) | refine cont_both ?_ ?_ | exact cont_const _ | exact cont_call _ _ _)
theorem c72 (x : (sigA 72).inT.den) : Cont (g72 std fnL 0 x) fun k => g72 std (tab k) k x := by
  unfold g72
  repeat' (first | (refine cont_opt ?_ fun _ => ?_) | refine cont_cond _ ?_ ?_ | (refine cont_sum _ (fun _ => ?_) fun _ => ?_) | (refine cont_loop (fun _ => ?_) (fun k => k) 0 _) | refine cont_both ?_ ?_ | exact cont_const _ | exact cont_call _ _ _)
theorem c15 (x : (sigA 15).inT.den) : Cont (g15 std fnL 0 x) fun k => g15 std (tab k) k x := by
  unfold g15
  repeat' (first | (refine cont_opt ?_ fun _ => ?_) | refine cont_cond _ ?_ ?_ | (refine cont_sum _ (fun _ => ?_) fun _ => ?_) | (refine cont_loop (fun _ => ?_) (fun k => k) 0 _) | refine cont_both ?_ ?_ | exact cont_const _ | exact cont_call _ _ _)
theorem c64 (x : (sigA 64).inT.den) : Cont (g64 std fnL 0 x) fun k => g64 std (tab k) k x := by
  unfold g64
  repeat' (first | (refine cont_opt ?_ fun _ => ?_) | refine cont_cond _ ?_ ?_ | (refine cont_sum _ (fun _ => ?_) fun _ => ?_) | (refine cont_loop (fun _ => ?_) (fun k => k) 0 _) | refine cont_both ?_ ?_ | exact cont_const _ | exact cont_call _ _ _)
theorem c77 (x : (sigA 77).inT.den) : Cont (g77 std fnL 0 x) fun k => g77 std (tab k) k x := by
  unfold g77
  repeat' (first | (refine cont_opt ?_ fun _ => ?_) | refine cont_cond _ ?_ ?_ | (refine cont_sum _ (fun _ => ?_) fun _ => ?_) | (refine cont_loop (fun _ => ?_) (fun k => k) 0 _) | refine cont_both ?_ ?_ | exact cont_const _ | exact cont_call _ _ _)
theorem c16 (x : (sigA 16).inT.den) : Cont (g16 std fnL 0 x) fun k => g16 std (tab k) k x := by
  unfold g16
  repeat' (first | (refine cont_opt ?_ fun _ => ?_) | refine cont_cond _ ?_ ?_ | (refine cont_sum _ (fun _ => ?_) fun _ => ?_) | (refine cont_loop (fun _ => ?_) (fun k => k) 0 _) | refine cont_both ?_ ?_ | exact cont_const _ | exact cont_call _ _ _)
theorem c137 (x : (sigA 137).inT.den) : Cont (g137 std fnL 0 x) fun k => g137 std (tab k) k x := by
  unfold g137
  repeat' (first | (refine cont_opt ?_ fun _ => ?_) | refine cont_cond _ ?_ ?_ | (refine cont_sum _ (fun _ => ?_) fun _ => ?_) | (refine cont_loop (fun _ => ?_) (fun k => k) 0 _) | refine cont_both ?_ ?_ | exact cont_const _ | exact cont_call _ _ _)
theorem c79 (x : (sigA 79).inT.den) : Cont (g79 std fnL 0 x) fun k => g79 std (tab k) k x := by
  unfold g79
  repeat' (first | (refine cont_opt ?_ fun _ => ?_) | refine cont_cond _ ?_ ?_ | (refine cont_sum _ (fun _ => ?_) fun _ => ?_) | (refine cont_loop (fun _ => ?_) (fun k => k) 0 _) | refine cont_both ?_ ?_ | exact cont_const _ | exact cont_call _ _ _)
theorem c170 (x : (sigA 170).inT.den) : Cont (g170 std fnL 0 x) fun k => g170 std (tab k) k x := by
  unfold g170
  repeat' (first | (refine cont_opt ?_ fun _ => ?_) | refine cont_cond _ ?_ ?_ | (refine cont_sum _ (fun _ => ?_) fun _ => ?_) | (refine cont_loop (fun _ => ?_) (fun k => k) 0 _) | refine cont_both ?_ ?_ | exact cont_const _ | exact cont_call _ _ _)
theorem c129 (x : (sigA 129).inT.den) : Cont (g129 std fnL 0 x) fun k => g129 std (tab k) k x := by
  unfold g129
  repeat' (first | (refine cont_opt ?_ fun _ => ?_) | refine cont_cond _ ?_ ?_ | (refine cont_sum _ (fun _ => ?_) fun _ => ?_) | (refine cont_loop (fun _ => ?_) (fun k => k) 0 _) | refine cont_both ?_ ?_ | exact cont_const _ | exact cont_call _ _ _)
theorem c73 (x : (sigA 73).inT.den) : Cont (g73 std fnL 0 x) fun k => g73 std (tab k) k x := by
  unfold g73
  repeat' (first | (refine cont_opt ?_ fun _ => ?_) | refine cont_cond _ ?_ ?_ | (refine cont_sum _ (fun _ => ?_) fun _ => ?_) | (refine cont_loop (fun _ => ?_) (fun k => k) 0 _) | refine cont_both ?_ ?_ | exact cont_const _ | exact cont_call _ _ _)
theorem c17 (x : (sigA 17).inT.den) : Cont (g17 std fnL 0 x) fun k => g17 std (tab k) k x := by
  unfold g17
  repeat' (first | (refine cont_opt ?_ fun _ => ?_) | refine cont_cond _ ?_ ?_ | (refine cont_sum _ (fun _ => ?_) fun _ => ?_) | (refine cont_loop (fun _ => ?_) (fun k => k) 0 _) | refine cont_both ?_ ?_ | exact cont_const _ | exact cont_call _ _ _)
theorem c28 (x : (sigA 28).inT.den) : Cont (g28 std fnL 0 x) fun k => g28 std (tab k) k x := by
  unfold g28
  repeat' (first | (refine cont_opt ?_ fun _ => ?_) | refine cont_cond _ ?_ ?_ | (refine cont_sum _ (fun _ => ?_) fun _ => ?_) | (refine cont_loop (fun _ => ?_) (fun k => k) 0 _) | refine cont_both ?_ ?_ | exact cont_const _ | exact cont_call _ _ _)
theorem c131 (x : (sigA 131).inT.den) : Cont (g131 std fnL 0 x) fun k => g131 std (tab k) k x := by
  unfold g131
  repeat' (first | (refine cont_opt ?_ fun _ => ?_) | refine cont_cond _ ?_ ?_ | (refine cont_sum _ (fun _ => ?_) fun _ => ?_) | (refine cont_loop (fun _ => ?_) (fun k => k) 0 _) | refine cont_both ?_ ?_ | exact cont_const _ | exact cont_call _ _ _)
theorem c133 (x : (sigA 133).inT.den) : Cont (g133 std fnL 0 x) fun k => g133 std (tab k) k x := by
  unfold g133
  repeat' (first | (refine cont_opt ?_ fun _ => ?_) | refine cont_cond _ ?_ ?_ | (refine cont_sum _ (fun _ => ?_) fun _ => ?_) | (refine cont_loop (fun _ => ?_) (fun k => k) 0 _) | refine cont_both ?_ ?_ | exact cont_const _ | exact cont_call _ _ _)
theorem c135 (x : (sigA 135).inT.den) : Cont (g135 std fnL 0 x) fun k => g135 std (tab k) k x := by
  unfold g135
  repeat' (first | (refine cont_opt ?_ fun _ => ?_) | refine cont_cond _ ?_ ?_ | (refine cont_sum _ (fun _ => ?_) fun _ => ?_) | (refine cont_loop (fun _ => ?_) (fun k => k) 0 _) | refine cont_both ?_ ?_ | exact cont_const _ | exact cont_call _ _ _)
theorem c136 (x : (sigA 136).inT.den) : Cont (g136 std fnL 0 x) fun k => g136 std (tab k) k x := by
  unfold g136
  repeat' (first | (refine cont_opt ?_ fun _ => ?_) | refine cont_cond _ ?_ ?_ | (refine cont_sum _ (fun _ => ?_) fun _ => ?_) | (refine cont_loop (fun _ => ?_) (fun k => k) 0 _) | refine cont_both ?_ ?_ | exact cont_const _ | exact cont_call _ _ _)
theorem c132 (x : (sigA 132).inT.den) : Cont (g132 std fnL 0 x) fun k => g132 std (tab k) k x := by
  unfold g132
  repeat' (first | (refine cont_opt ?_ fun _ => ?_) | refine cont_cond _ ?_ ?_ | (refine cont_sum _ (fun _ => ?_) fun _ => ?_) | (refine cont_loop (fun _ => ?_) (fun k => k) 0 _) | refine cont_both ?_ ?_ | exact cont_const _ | exact cont_call _ _ _)
theorem c134 (x : (sigA 134).inT.den) : Cont (g134 std fnL 0 x) fun k => g134 std (tab k) k x := by
  unfold g134
  repeat' (first | (refine cont_opt ?_ fun _ => ?_) | refine cont_cond _ ?_ ?_ | (refine cont_sum _ (fun _ => ?_) fun _ => ?_) | (refine cont_loop (fun _ => ?_) (fun k => k) 0 _) | refine cont_both ?_ ?_ | exact cont_const _ | exact cont_call _ _ _)
theorem c78 (x : (sigA 78).inT.den) : Cont (g78 std fnL 0 x) fun k => g78 std (tab k) k x := by
  unfold g78
  repeat' (first | (refine cont_opt ?_ fun _ => ?_) | refine cont_cond _ ?_ ?_ | (refine cont_sum _ (fun _ => ?_) fun _ => ?_) | (refine cont_loop (fun _ => ?_) (fun k => k) 0 _) | refine cont_both ?_ ?_ | exact cont_const _ | exact cont_call _ _ _)
theorem c80 (x : (sigA 80).inT.den) : Cont (g80 std fnL 0 x) fun k => g80 std (tab k) k x := by
  unfold g80
  repeat' (first | (refine cont_opt ?_ fun _ => ?_) | refine cont_cond _ ?_ ?_ | (refine cont_sum _ (fun _ => ?_) fun _ => ?_) | (refine cont_loop (fun _ => ?_) (fun k => k) 0 _) | refine cont_both ?_ ?_ | exact cont_const _ | exact cont_call _ _ _)
theorem c81 (x : (sigA 81).inT.den) : Cont (g81 std fnL 0 x) fun k => g81 std (tab k) k x := by
  unfold g81
  repeat' (first | (refine cont_opt ?_ fun _ => ?_) | refine cont_cond _ ?_ ?_ | (refine cont_sum _ (fun _ => ?_) fun _ => ?_) | (refine cont_loop (fun _ => ?_) (fun k => k) 0 _) | refine cont_both ?_ ?_ | exact cont_const _ | exact cont_call _ _ _)
theorem c130 (x : (sigA 130).inT.den) : Cont (g130 std fnL 0 x) fun k => g130 std (tab k) k x := by
  unfold g130
  repeat' (first | (refine cont_opt ?_ fun _ => ?_) | refine cont_cond _ ?_ ?_ | (refine cont_sum _ (fun _ => ?_) fun _ => ?_) | (refine cont_loop (fun _ => ?_) (fun k => k) 0 _) | refine cont_both ?_ ?_ | exact cont_const _ | exact cont_call _ _ _)
theorem c27 (x : (sigA 27).inT.den) : Cont (g27 std fnL 0 x) fun k => g27 std (tab k) k x := by
  unfold g27
  repeat' (first | (refine cont_opt ?_ fun _ => ?_) | refine cont_cond _ ?_ ?_ | (refine cont_sum _ (fun _ => ?_) fun _ => ?_) | (refine cont_loop (fun _ => ?_) (fun k => k) 0 _) | refine cont_both ?_ ?_ | exact cont_const _ | exact cont_call _ _ _)
theorem c20 (x : (sigA 20).inT.den) : Cont (g20 std fnL 0 x) fun k => g20 std (tab k) k x := by
  unfold g20
  repeat' (first | (refine cont_opt ?_ fun _ => ?_) | refine cont_cond _ ?_ ?_ | (refine cont_sum _ (fun _ => ?_) fun _ => ?_) | (refine cont_loop (fun _ => ?_) (fun k => k) 0 _) | refine cont_both ?_ ?_ | exact cont_const _ | exact cont_call _ _ _)
theorem c75 (x : (sigA 75).inT.den) : Cont (g75 std fnL 0 x) fun k => g75 std (tab k) k x := by
  unfold g75
  repeat' (first | (refine cont_opt ?_ fun _ => ?_) | refine cont_cond _ ?_ ?_ | (refine cont_sum _ (fun _ => ?_) fun _ => ?_) | (refine cont_loop (fun _ => ?_) (fun k => k) 0 _) | refine cont_both ?_ ?_ | exact cont_const _ | exact cont_call _ _ _)
theorem c68 (x : (sigA 68).inT.den) : Cont (g68 std fnL 0 x) fun k => g68 std (tab k) k x := by
  unfold g68
  repeat' (first | (refine cont_opt ?_ fun _ => ?_) | refine cont_cond _ ?_ ?_ | (refine cont_sum _ (fun _ => ?_) fun _ => ?_) | (refine cont_loop (fun _ => ?_) (fun k => k) 0 _) | refine cont_both ?_ ?_ | exact cont_const _ | exact cont_call _ _ _)
theorem c128 (x : (sigA 128).inT.den) : Cont (g128 std fnL 0 x) fun k => g128 std (tab k) k x := by
  unfold g128
  repeat' (first | (refine cont_opt ?_ fun _ => ?_) | refine cont_cond _ ?_ ?_ | (refine cont_sum _ (fun _ => ?_) fun _ => ?_) | (refine cont_loop (fun _ => ?_) (fun k => k) 0 _) | refine cont_both ?_ ?_ | exact cont_const _ | exact cont_call _ _ _)
theorem c67 (x : (sigA 67).inT.den) : Cont (g67 std fnL 0 x) fun k => g67 std (tab k) k x := by
  unfold g67
  repeat' (first | (refine cont_opt ?_ fun _ => ?_) | refine cont_cond _ ?_ ?_ | (refine cont_sum _ (fun _ => ?_) fun _ => ?_) | (refine cont_loop (fun _ => ?_) (fun k => k) 0 _) | refine cont_both ?_ ?_ | exact cont_const _ | exact cont_call _ _ _)
theorem c14 (x : (sigA 14).inT.den) : Cont (g14 std fnL 0 x) fun k => g14 std (tab k) k x := by
  unfold g14
  repeat' (first | (refine cont_opt ?_ fun _ => ?_) | refine cont_cond _ ?_ ?_ | (refine cont_sum _ (fun _ => ?_) fun _ => ?_) | (refine cont_loop (fun _ => ?_) (fun k => k) 0 _) | refine cont_both ?_ ?_ | exact cont_const _ | exact cont_call _ _ _)
theorem c26 (x : (sigA 26).inT.den) : Cont (g26 std fnL 0 x) fun k => g26 std (tab k) k x := by
  unfold g26
  repeat' (first | (refine cont_opt ?_ fun _ => ?_) | refine cont_cond _ ?_ ?_ | (refine cont_sum _ (fun _ => ?_) fun _ => ?_) | (refine cont_loop (fun _ => ?_) (fun k => k) 0 _) | refine cont_both ?_ ?_ | exact cont_const _ | exact cont_call _ _ _)
theorem c29 (x : (sigA 29).inT.den) : Cont (g29 std fnL 0 x) fun k => g29 std (tab k) k x := by
  unfold g29
  repeat' (first | (refine cont_opt ?_ fun _ => ?_) | refine cont_cond _ ?_ ?_ | (refine cont_sum _ (fun _ => ?_) fun _ => ?_) | (refine cont_loop (fun _ => ?_) (fun k => k) 0 _) | refine cont_both ?_ ?_ | exact cont_const _ | exact cont_call _ _ _)
theorem c22 (x : (sigA 22).inT.den) : Cont (g22 std fnL 0 x) fun k => g22 std (tab k) k x := by
  unfold g22
  repeat' (first | (refine cont_opt ?_ fun _ => ?_) | refine cont_cond _ ?_ ?_ | (refine cont_sum _ (fun _ => ?_) fun _ => ?_) | (refine cont_loop (fun _ => ?_) (fun k => k) 0 _) | refine cont_both ?_ ?_ | exact cont_const _ | exact cont_call _ _ _)
theorem c82 (x : (sigA 82).inT.den) : Cont (g82 std fnL 0 x) fun k => g82 std (tab k) k x := by
  unfold g82
  repeat' (first | (refine cont_opt ?_ fun _ => ?_) | refine cont_cond _ ?_ ?_ | (refine cont_sum _ (fun _ => ?_) fun _ => ?_) | (refine cont_loop (fun _ => ?_) (fun k => k) 0 _) | refine cont_both ?_ ?_ | exact cont_const _ | exact cont_call _ _ _)
theorem c30 (x : (sigA 30).inT.den) : Cont (g30 std fnL 0 x) fun k => g30 std (tab k) k x := by
  unfold g30
  repeat' (first | (refine cont_opt ?_ fun _ => ?_) | refine cont_cond _ ?_ ?_ | (refine cont_sum _ (fun _ => ?_) fun _ => ?_) | (refine cont_loop (fun _ => ?_) (fun k => k) 0 _) | refine cont_both ?_ ?_ | exact cont_const _ | exact cont_call _ _ _)
theorem c19 (x : (sigA 19).inT.den) : Cont (g19 std fnL 0 x) fun k => g19 std (tab k) k x := by
  unfold g19
  repeat' (first | (refine cont_opt ?_ fun _ => ?_) | refine cont_cond _ ?_ ?_ | (refine cont_sum _ (fun _ => ?_) fun _ => ?_) | (refine cont_loop (fun _ => ?_) (fun k => k) 0 _) | refine cont_both ?_ ?_ | exact cont_const _ | exact cont_call _ _ _)
theorem c83 (x : (sigA 83).inT.den) : Cont (g83 std fnL 0 x) fun k => g83 std (tab k) k x := by
  unfold g83
  repeat' (first | (refine cont_opt ?_ fun _ => ?_) | refine cont_cond _ ?_ ?_ | (refine cont_sum _ (fun _ => ?_) fun _ => ?_) | (refine cont_loop (fun _ => ?_) (fun k => k) 0 _) | refine cont_both ?_ ?_ | exact cont_const _ | exact cont_call _ _ _)
theorem c84 (x : (sigA 84).inT.den) : Cont (g84 std fnL 0 x) fun k => g84 std (tab k) k x := by
  unfold g84
  repeat' (first | (refine cont_opt ?_ fun _ => ?_) | refine cont_cond _ ?_ ?_ | (refine cont_sum _ (fun _ => ?_) fun _ => ?_) | (refine cont_loop (fun _ => ?_) (fun k => k) 0 _) | refine cont_both ?_ ?_ | exact cont_const _ | exact cont_call _ _ _)
theorem c31 (x : (sigA 31).inT.den) : Cont (g31 std fnL 0 x) fun k => g31 std (tab k) k x := by
  unfold g31
  repeat' (first | (refine cont_opt ?_ fun _ => ?_) | refine cont_cond _ ?_ ?_ | (refine cont_sum _ (fun _ => ?_) fun _ => ?_) | (refine cont_loop (fun _ => ?_) (fun k => k) 0 _) | refine cont_both ?_ ?_ | exact cont_const _ | exact cont_call _ _ _)
theorem c18 (x : (sigA 18).inT.den) : Cont (g18 std fnL 0 x) fun k => g18 std (tab k) k x := by
  unfold g18
  repeat' (first | (refine cont_opt ?_ fun _ => ?_) | refine cont_cond _ ?_ ?_ | (refine cont_sum _ (fun _ => ?_) fun _ => ?_) | (refine cont_loop (fun _ => ?_) (fun k => k) 0 _) | refine cont_both ?_ ?_ | exact cont_const _ | exact cont_call _ _ _)
theorem c138 (x : (sigA 138).inT.den) : Cont (g138 std fnL 0 x) fun k => g138 std (tab k) k x := by
  unfold g138
  repeat' (first | (refine cont_opt ?_ fun _ => ?_) | refine cont_cond _ ?_ ?_ | (refine cont_sum _ (fun _ => ?_) fun _ => ?_) | (refine cont_loop (fun _ => ?_) (fun k => k) 0 _) | refine cont_both ?_ ?_ | exact cont_const _ | exact cont_call _ _ _)
theorem c85 (x : (sigA 85).inT.den) : Cont (g85 std fnL 0 x) fun k => g85 std (tab k) k x := by
  unfold g85
  repeat' (first | (refine cont_opt ?_ fun _ => ?_) | refine cont_cond _ ?_ ?_ | (refine cont_sum _ (fun _ => ?_) fun _ => ?_) | (refine cont_loop (fun _ => ?_) (fun k => k) 0 _) | refine cont_both ?_ ?_ | exact cont_const _ | exact cont_call _ _ _)
theorem c32 (x : (sigA 32).inT.den) : Cont (g32 std fnL 0 x) fun k => g32 std (tab k) k x := by
  unfold g32
  repeat' (first | (refine cont_opt ?_ fun _ => ?_) | refine cont_cond _ ?_ ?_ | (refine cont_sum _ (fun _ => ?_) fun _ => ?_) | (refine cont_loop (fun _ => ?_) (fun k => k) 0 _) | refine cont_both ?_ ?_ | exact cont_const _ | exact cont_call _ _ _)
theorem c36 (x : (sigA 36).inT.den) : Cont (g36 std fnL 0 x) fun k => g36 std (tab k) k x := by
  unfold g36
  repeat' (first | (refine cont_opt ?_ fun _ => ?_) | refine cont_cond _ ?_ ?_ | (refine cont_sum _ (fun _ => ?_) fun _ => ?_) | (refine cont_loop (fun _ => ?_) (fun k => k) 0 _) | refine cont_both ?_ ?_ | exact cont_const _ | exact cont_call _ _ _)
theorem c33 (x : (sigA 33).inT.den) : Cont (g33 std fnL 0 x) fun k => g33 std (tab k) k x := by
  unfold g33
  repeat' (first | (refine cont_opt ?_ fun _ => ?_) | refine cont_cond _ ?_ ?_ | (refine cont_sum _ (fun _ => ?_) fun _ => ?_) | (refine cont_loop (fun _ => ?_) (fun k => k) 0 _) | refine cont_both ?_ ?_ | exact cont_const _ | exact cont_call _ _ _)
theorem c171 (x : (sigA 171).inT.den) : Cont (g171 std fnL 0 x) fun k => g171 std (tab k) k x := by
  unfold g171
  repeat' (first | (refine cont_opt ?_ fun _ => ?_) | refine cont_cond _ ?_ ?_ | (refine cont_sum _ (fun _ => ?_) fun _ => ?_) | (refine cont_loop (fun _ => ?_) (fun k => k) 0 _) | refine cont_both ?_ ?_ | exact cont_const _ | exact cont_call _ _ _)
theorem c139 (x : (sigA 139).inT.den) : Cont (g139 std fnL 0 x) fun k => g139 std (tab k) k x := by
  unfold g139
  repeat' (first | (refine cont_opt ?_ fun _ => ?_) | refine cont_cond _ ?_ ?_ | (refine cont_sum _ (fun _ => ?_) fun _ => ?_) | (refine cont_loop (fun _ => ?_) (fun k => k) 0 _) | refine cont_both ?_ ?_ | exact cont_const _ | exact cont_call _ _ _)
theorem c86 (x : (sigA 86).inT.den) : Cont (g86 std fnL 0 x) fun k => g86 std (tab k) k x := by
  unfold g86
  repeat' (first | (refine cont_opt ?_ fun _ => ?_) | refine cont_cond _ ?_ ?_ | (refine cont_sum _ (fun _ => ?_) fun _ => ?_) | (refine cont_loop (fun _ => ?_) (fun k => k) 0 _) | refine cont_both ?_ ?_ | exact cont_const _ | exact cont_call _ _ _)
theorem c34 (x : (sigA 34).inT.den) : Cont (g34 std fnL 0 x) fun k => g34 std (tab k) k x := by
  unfold g34
  repeat' (first | (refine cont_opt ?_ fun _ => ?_) | refine cont_cond _ ?_ ?_ | (refine cont_sum _ (fun _ => ?_) fun _ => ?_) | (refine cont_loop (fun _ => ?_) (fun k => k) 0 _) | refine cont_both ?_ ?_ | exact cont_const _ | exact cont_call _ _ _)
theorem c173 (x : (sigA 173).inT.den) : Cont (g173 std fnL 0 x) fun k => g173 std (tab k) k x := by
  unfold g173
  repeat' (first | (refine cont_opt ?_ fun _ => ?_) | refine cont_cond _ ?_ ?_ | (refine cont_sum _ (fun _ => ?_) fun _ => ?_) | (refine cont_loop (fun _ => ?_) (fun k => k) 0 _) | refine cont_both ?_ ?_ | exact cont_const _ | exact cont_call _ _ _)
theorem c172 (x : (sigA 172).inT.den) : Cont (g172 std fnL 0 x) fun k => g172 std (tab k) k x := by
  unfold g172
  repeat' (first | (refine cont_opt ?_ fun _ => ?_) | refine cont_cond _ ?_ ?_ | (refine cont_sum _ (fun _ => ?_) fun _ => ?_) | (refine cont_loop (fun _ => ?_) (fun k => k) 0 _) | refine cont_both ?_ ?_ | exact cont_const _ | exact cont_call _ _ _)
theorem c140 (x : (sigA 140).inT.den) : Cont (g140 std fnL 0 x) fun k => g140 std (tab k) k x := by
  unfold g140
  repeat' (first | (refine cont_opt ?_ fun _ => ?_) | refine cont_cond _ ?_ ?_ | (refine cont_sum _ (fun _ => ?_) fun _ => ?_) | (refine cont_loop (fun _ => ?_) (fun k => k) 0 _) | refine cont_both ?_ ?_ | exact cont_const _ | exact cont_call _ _ _)
theorem c87 (x : (sigA 87).inT.den) : Cont (g87 std fnL 0 x) fun k => g87 std (tab k) k x := by
  unfold g87
  repeat' (first | (refine cont_opt ?_ fun _ => ?_) | refine cont_cond _ ?_ ?_ | (refine cont_sum _ (fun _ => ?_) fun _ => ?_) | (refine cont_loop (fun _ => ?_) (fun k => k) 0 _) | refine cont_both ?_ ?_ | exact cont_const _ | exact cont_call _ _ _)
theorem c35 (x : (sigA 35).inT.den) : Cont (g35 std fnL 0 x) fun k => g35 std (tab k) k x := by
  unfold g35
  repeat' (first | (refine cont_opt ?_ fun _ => ?_) | refine cont_cond _ ?_ ?_ | (refine cont_sum _ (fun _ => ?_) fun _ => ?_) | (refine cont_loop (fun _ => ?_) (fun k => k) 0 _) | refine cont_both ?_ ?_ | exact cont_const _ | exact cont_call _ _ _)
theorem c74 (x : (sigA 74).inT.den) : Cont (g74 std fnL 0 x) fun k => g74 std (tab k) k x := by
  unfold g74
  repeat' (first | (refine cont_opt ?_ fun _ => ?_) | refine cont_cond _ ?_ ?_ | (refine cont_sum _ (fun _ => ?_) fun _ => ?_) | (refine cont_loop (fun _ => ?_) (fun k => k) 0 _) | refine cont_both ?_ ?_ | exact cont_const _ | exact cont_call _ _ _)
theorem c24 (x : (sigA 24).inT.den) : Cont (g24 std fnL 0 x) fun k => g24 std (tab k) k x := by
  unfold g24
  repeat' (first | (refine cont_opt ?_ fun _ => ?_) | refine cont_cond _ ?_ ?_ | (refine cont_sum _ (fun _ => ?_) fun _ => ?_) | (refine cont_loop (fun _ => ?_) (fun k => k) 0 _) | refine cont_both ?_ ?_ | exact cont_const _ | exact cont_call _ _ _)
theorem c126 (x : (sigA 126).inT.den) : Cont (g126 std fnL 0 x) fun k => g126 std (tab k) k x := by
  unfold g126
  repeat' (first | (refine cont_opt ?_ fun _ => ?_) | refine cont_cond _ ?_ ?_ | (refine cont_sum _ (fun _ => ?_) fun _ => ?_) | (refine cont_loop (fun _ => ?_) (fun k => k) 0 _) | refine cont_both ?_ ?_ | exact cont_const _ | exact cont_call _ _ _)
theorem c62 (x : (sigA 62).inT.den) : Cont (g62 std fnL 0 x) fun k => g62 std (tab k) k x := by
  unfold g62
  repeat' (first | (refine cont_opt ?_ fun _ => ?_) | refine cont_cond _ ?_ ?_ | (refine cont_sum _ (fun _ => ?_) fun _ => ?_) | (refine cont_loop (fun _ => ?_) (fun k => k) 0 _) | refine cont_both ?_ ?_ | exact cont_const _ | exact cont_call _ _ _)
theorem c141 (x : (sigA 141).inT.den) : Cont (g141 std fnL 0 x) fun k => g141 std (tab k) k x := by
  unfold g141
  repeat' (first | (refine cont_opt ?_ fun _ => ?_) | refine cont_cond _ ?_ ?_ | (refine cont_sum _ (fun _ => ?_) fun _ => ?_) | (refine cont_loop (fun _ => ?_) (fun k => k) 0 _) | refine cont_both ?_ ?_ | exact cont_const _ | exact cont_call _ _ _)
theorem c142 (x : (sigA 142).inT.den) : Cont (g142 std fnL 0 x) fun k => g142 std (tab k) k x := by
  unfold g142
  repeat' (first | (refine cont_opt ?_ fun _ => ?_) | refine cont_cond _ ?_ ?_ | (refine cont_sum _ (fun _ => ?_) fun _ => ?_) | (refine cont_loop (fun _ => ?_) (fun k => k) 0 _) | refine cont_both ?_ ?_ | exact cont_const _ | exact cont_call _ _ _)
theorem c88 (x : (sigA 88).inT.den) : Cont (g88 std fnL 0 x) fun k => g88 std (tab k) k x := by
  unfold g88
  repeat' (first | (refine cont_opt ?_ fun _ => ?_) | refine cont_cond _ ?_ ?_ | (refine cont_sum _ (fun _ => ?_) fun _ => ?_) | (refine cont_loop (fun _ => ?_) (fun k => k) 0 _) | refine cont_both ?_ ?_ | exact cont_const _ | exact cont_call _ _ _)
theorem c89 (x : (sigA 89).inT.den) : Cont (g89 std fnL 0 x) fun k => g89 std (tab k) k x := by
  unfold g89
  repeat' (first | (refine cont_opt ?_ fun _ => ?_) | refine cont_cond _ ?_ ?_ | (refine cont_sum _ (fun _ => ?_) fun _ => ?_) | (refine cont_loop (fun _ => ?_) (fun k => k) 0 _) | refine cont_both ?_ ?_ | exact cont_const _ | exact cont_call _ _ _)
theorem c90 (x : (sigA 90).inT.den) : Cont (g90 std fnL 0 x) fun k => g90 std (tab k) k x := by
  unfold g90
  repeat' (first | (refine cont_opt ?_ fun _ => ?_) | refine cont_cond _ ?_ ?_ | (refine cont_sum _ (fun _ => ?_) fun _ => ?_) | (refine cont_loop (fun _ => ?_) (fun k => k) 0 _) | refine cont_both ?_ ?_ | exact cont_const _ | exact cont_call _ _ _)
theorem c37 (x : (sigA 37).inT.den) : Cont (g37 std fnL 0 x) fun k => g37 std (tab k) k x := by
  unfold g37
  repeat' (first | (refine cont_opt ?_ fun _ => ?_) | refine cont_cond _ ?_ ?_ | (refine cont_sum _ (fun _ => ?_) fun _ => ?_) | (refine cont_loop (fun _ => ?_) (fun k => k) 0 _) | refine cont_both ?_ ?_ | exact cont_const _ | exact cont_call _ _ _)
theorem c91 (x : (sigA 91).inT.den) : Cont (g91 std fnL 0 x) fun k => g91 std (tab k) k x := by
  unfold g91
  repeat' (first | (refine cont_opt ?_ fun _ => ?_) | refine cont_cond _ ?_ ?_ | (refine cont_sum _ (fun _ => ?_) fun _ => ?_) | (refine cont_loop (fun _ => ?_) (fun k => k) 0 _) | refine cont_both ?_ ?_ | exact cont_const _ | exact cont_call _ _ _)
theorem c38 (x : (sigA 38).inT.den) : Cont (g38 std fnL 0 x) fun k => g38 std (tab k) k x := by
  unfold g38
  repeat' (first | (refine cont_opt ?_ fun _ => ?_) | refine cont_cond _ ?_ ?_ | (refine cont_sum _ (fun _ => ?_) fun _ => ?_) | (refine cont_loop (fun _ => ?_) (fun k => k) 0 _) | refine cont_both ?_ ?_ | exact cont_const _ | exact cont_call _ _ _)
theorem c7 (x : (sigA 7).inT.den) : Cont (g7 std fnL 0 x) fun k => g7 std (tab k) k x := by
  unfold g7
  repeat' (first | (refine cont_opt ?_ fun _ => ?_) | refine cont_cond _ ?_ ?_ | (refine cont_sum _ (fun _ => ?_) fun _ => ?_) | (refine cont_loop (fun _ => ?_) (fun k => k) 0 _) | refine cont_both ?_ ?_ | exact cont_const _ | exact cont_call _ _ _)
theorem v65 {x : (sigA 65).inT.den} {v : (sigA 65).outT.den} (h : g65 std fnL 0 x = some v) : fnL 65 x = some v := lim_of (t65 · x) (c65 x) h
theorem v13 {x : (sigA 13).inT.den} {v : (sigA 13).outT.den} (h : g13 std fnL 0 x = some v) : fnL 13 x = some v := lim_of (t13 · x) (c13 x) h
theorem v76 {x : (sigA 76).inT.den} {v : (sigA 76).outT.den} (h : g76 std fnL 0 x = some v) : fnL 76 x = some v := lim_of (t76 · x) (c76 x) h
theorem v25 {x : (sigA 25).inT.den} {v : (sigA 25).outT.den} (h : g25 std fnL 0 x = some v) : fnL 25 x = some v := lim_of (t25 · x) (c25 x) h
theorem v70 {x : (sigA 70).inT.den} {v : (sigA 70).outT.den} (h : g70 std fnL 0 x = some v) : fnL 70 x = some v := lim_of (t70 · x) (c70 x) h
theorem v66 {x : (sigA 66).inT.den} {v : (sigA 66).outT.den} (h : g66 std fnL 0 x = some v) : fnL 66 x = some v := lim_of (t66 · x) (c66 x) h
theorem v71 {x : (sigA 71).inT.den} {v : (sigA 71).outT.den} (h : g71 std fnL 0 x = some v) : fnL 71 x = some v := lim_of (t71 · x) (c71 x) h
theorem v69 {x : (sigA 69).inT.den} {v : (sigA 69).outT.den} (h : g69 std fnL 0 x = some v) : fnL 69 x = some v := lim_of (t69 · x) (c69 x) h
theorem v72 {x : (sigA 72).inT.den} {v : (sigA 72).outT.den} (h : g72 std fnL 0 x = some v) : fnL 72 x = some v := lim_of (t72 · x) (c72 x) h
theorem v15 {x : (sigA 15).inT.den} {v : (sigA 15).outT.den} (h : g15 std fnL 0 x = some v) : fnL 15 x = some v := lim_of (t15 · x) (c15 x) h
theorem v64 {x : (sigA 64).inT.den} {v : (sigA 64).outT.den} (h : g64 std fnL 0 x = some v) : fnL 64 x = some v := lim_of (t64 · x) (c64 x) h
theorem v77 {x : (sigA 77).inT.den} {v : (sigA 77).outT.den} (h : g77 std fnL 0 x = some v) : fnL 77 x = some v := lim_of (t77 · x) (c77 x) h
theorem v16 {x : (sigA 16).inT.den} {v : (sigA 16).outT.den} (h : g16 std fnL 0 x = some v) : fnL 16 x = some v := lim_of (t16 · x) (c16 x) h
theorem v137 {x : (sigA 137).inT.den} {v : (sigA 137).outT.den} (h : g137 std fnL 0 x = some v) : fnL 137 x = some v := lim_of (t137 · x) (c137 x) h
theorem v79 {x : (sigA 79).inT.den} {v : (sigA 79).outT.den} (h : g79 std fnL 0 x = some v) : fnL 79 x = some v := lim_of (t79 · x) (c79 x) h
theorem v170 {x : (sigA 170).inT.den} {v : (sigA 170).outT.den} (h : g170 std fnL 0 x = some v) : fnL 170 x = some v := lim_of (t170 · x) (c170 x) h
theorem v129 {x : (sigA 129).inT.den} {v : (sigA 129).outT.den} (h : g129 std fnL 0 x = some v) : fnL 129 x = some v := lim_of (t129 · x) (c129 x) h
theorem v73 {x : (sigA 73).inT.den} {v : (sigA 73).outT.den} (h : g73 std fnL 0 x = some v) : fnL 73 x = some v := lim_of (t73 · x) (c73 x) h
theorem v17 {x : (sigA 17).inT.den} {v : (sigA 17).outT.den} (h : g17 std fnL 0 x = some v) : fnL 17 x = some v := lim_of (t17 · x) (c17 x) h
theorem v28 {x : (sigA 28).inT.den} {v : (sigA 28).outT.den} (h : g28 std fnL 0 x = some v) : fnL 28 x = some v := lim_of (t28 · x) (c28 x) h
theorem v131 {x : (sigA 131).inT.den} {v : (sigA 131).outT.den} (h : g131 std fnL 0 x = some v) : fnL 131 x = some v := lim_of (t131 · x) (c131 x) h
theorem v133 {x : (sigA 133).inT.den} {v : (sigA 133).outT.den} (h : g133 std fnL 0 x = some v) : fnL 133 x = some v := lim_of (t133 · x) (c133 x) h
theorem v135 {x : (sigA 135).inT.den} {v : (sigA 135).outT.den} (h : g135 std fnL 0 x = some v) : fnL 135 x = some v := lim_of (t135 · x) (c135 x) h
theorem v136 {x : (sigA 136).inT.den} {v : (sigA 136).outT.den} (h : g136 std fnL 0 x = some v) : fnL 136 x = some v := lim_of (t136 · x) (c136 x) h
theorem v132 {x : (sigA 132).inT.den} {v : (sigA 132).outT.den} (h : g132 std fnL 0 x = some v) : fnL 132 x = some v := lim_of (t132 · x) (c132 x) h
theorem v134 {x : (sigA 134).inT.den} {v : (sigA 134).outT.den} (h : g134 std fnL 0 x = some v) : fnL 134 x = some v := lim_of (t134 · x) (c134 x) h
theorem v78 {x : (sigA 78).inT.den} {v : (sigA 78).outT.den} (h : g78 std fnL 0 x = some v) : fnL 78 x = some v := lim_of (t78 · x) (c78 x) h
theorem v80 {x : (sigA 80).inT.den} {v : (sigA 80).outT.den} (h : g80 std fnL 0 x = some v) : fnL 80 x = some v := lim_of (t80 · x) (c80 x) h
theorem v81 {x : (sigA 81).inT.den} {v : (sigA 81).outT.den} (h : g81 std fnL 0 x = some v) : fnL 81 x = some v := lim_of (t81 · x) (c81 x) h
theorem v130 {x : (sigA 130).inT.den} {v : (sigA 130).outT.den} (h : g130 std fnL 0 x = some v) : fnL 130 x = some v := lim_of (t130 · x) (c130 x) h
theorem v27 {x : (sigA 27).inT.den} {v : (sigA 27).outT.den} (h : g27 std fnL 0 x = some v) : fnL 27 x = some v := lim_of (t27 · x) (c27 x) h
theorem v20 {x : (sigA 20).inT.den} {v : (sigA 20).outT.den} (h : g20 std fnL 0 x = some v) : fnL 20 x = some v := lim_of (t20 · x) (c20 x) h
theorem v75 {x : (sigA 75).inT.den} {v : (sigA 75).outT.den} (h : g75 std fnL 0 x = some v) : fnL 75 x = some v := lim_of (t75 · x) (c75 x) h
theorem v68 {x : (sigA 68).inT.den} {v : (sigA 68).outT.den} (h : g68 std fnL 0 x = some v) : fnL 68 x = some v := lim_of (t68 · x) (c68 x) h
theorem v128 {x : (sigA 128).inT.den} {v : (sigA 128).outT.den} (h : g128 std fnL 0 x = some v) : fnL 128 x = some v := lim_of (t128 · x) (c128 x) h
theorem v67 {x : (sigA 67).inT.den} {v : (sigA 67).outT.den} (h : g67 std fnL 0 x = some v) : fnL 67 x = some v := lim_of (t67 · x) (c67 x) h
theorem v14 {x : (sigA 14).inT.den} {v : (sigA 14).outT.den} (h : g14 std fnL 0 x = some v) : fnL 14 x = some v := lim_of (t14 · x) (c14 x) h
theorem v26 {x : (sigA 26).inT.den} {v : (sigA 26).outT.den} (h : g26 std fnL 0 x = some v) : fnL 26 x = some v := lim_of (t26 · x) (c26 x) h
theorem v29 {x : (sigA 29).inT.den} {v : (sigA 29).outT.den} (h : g29 std fnL 0 x = some v) : fnL 29 x = some v := lim_of (t29 · x) (c29 x) h
theorem v22 {x : (sigA 22).inT.den} {v : (sigA 22).outT.den} (h : g22 std fnL 0 x = some v) : fnL 22 x = some v := lim_of (t22 · x) (c22 x) h
theorem v82 {x : (sigA 82).inT.den} {v : (sigA 82).outT.den} (h : g82 std fnL 0 x = some v) : fnL 82 x = some v := lim_of (t82 · x) (c82 x) h
theorem v30 {x : (sigA 30).inT.den} {v : (sigA 30).outT.den} (h : g30 std fnL 0 x = some v) : fnL 30 x = some v := lim_of (t30 · x) (c30 x) h
theorem v19 {x : (sigA 19).inT.den} {v : (sigA 19).outT.den} (h : g19 std fnL 0 x = some v) : fnL 19 x = some v := lim_of (t19 · x) (c19 x) h
theorem v83 {x : (sigA 83).inT.den} {v : (sigA 83).outT.den} (h : g83 std fnL 0 x = some v) : fnL 83 x = some v := lim_of (t83 · x) (c83 x) h
theorem v84 {x : (sigA 84).inT.den} {v : (sigA 84).outT.den} (h : g84 std fnL 0 x = some v) : fnL 84 x = some v := lim_of (t84 · x) (c84 x) h
theorem v31 {x : (sigA 31).inT.den} {v : (sigA 31).outT.den} (h : g31 std fnL 0 x = some v) : fnL 31 x = some v := lim_of (t31 · x) (c31 x) h
theorem v18 {x : (sigA 18).inT.den} {v : (sigA 18).outT.den} (h : g18 std fnL 0 x = some v) : fnL 18 x = some v := lim_of (t18 · x) (c18 x) h
theorem v138 {x : (sigA 138).inT.den} {v : (sigA 138).outT.den} (h : g138 std fnL 0 x = some v) : fnL 138 x = some v := lim_of (t138 · x) (c138 x) h
theorem v85 {x : (sigA 85).inT.den} {v : (sigA 85).outT.den} (h : g85 std fnL 0 x = some v) : fnL 85 x = some v := lim_of (t85 · x) (c85 x) h
theorem v32 {x : (sigA 32).inT.den} {v : (sigA 32).outT.den} (h : g32 std fnL 0 x = some v) : fnL 32 x = some v := lim_of (t32 · x) (c32 x) h
theorem v36 {x : (sigA 36).inT.den} {v : (sigA 36).outT.den} (h : g36 std fnL 0 x = some v) : fnL 36 x = some v := lim_of (t36 · x) (c36 x) h
theorem v33 {x : (sigA 33).inT.den} {v : (sigA 33).outT.den} (h : g33 std fnL 0 x = some v) : fnL 33 x = some v := lim_of (t33 · x) (c33 x) h
theorem v171 {x : (sigA 171).inT.den} {v : (sigA 171).outT.den} (h : g171 std fnL 0 x = some v) : fnL 171 x = some v := lim_of (t171 · x) (c171 x) h
theorem v139 {x : (sigA 139).inT.den} {v : (sigA 139).outT.den} (h : g139 std fnL 0 x = some v) : fnL 139 x = some v := lim_of (t139 · x) (c139 x) h
theorem v86 {x : (sigA 86).inT.den} {v : (sigA 86).outT.den} (h : g86 std fnL 0 x = some v) : fnL 86 x = some v := lim_of (t86 · x) (c86 x) h
theorem v34 {x : (sigA 34).inT.den} {v : (sigA 34).outT.den} (h : g34 std fnL 0 x = some v) : fnL 34 x = some v := lim_of (t34 · x) (c34 x) h
theorem v173 {x : (sigA 173).inT.den} {v : (sigA 173).outT.den} (h : g173 std fnL 0 x = some v) : fnL 173 x = some v := lim_of (t173 · x) (c173 x) h
theorem v172 {x : (sigA 172).inT.den} {v : (sigA 172).outT.den} (h : g172 std fnL 0 x = some v) : fnL 172 x = some v := lim_of (t172 · x) (c172 x) h
theorem v140 {x : (sigA 140).inT.den} {v : (sigA 140).outT.den} (h : g140 std fnL 0 x = some v) : fnL 140 x = some v := lim_of (t140 · x) (c140 x) h
theorem v87 {x : (sigA 87).inT.den} {v : (sigA 87).outT.den} (h : g87 std fnL 0 x = some v) : fnL 87 x = some v := lim_of (t87 · x) (c87 x) h
theorem v35 {x : (sigA 35).inT.den} {v : (sigA 35).outT.den} (h : g35 std fnL 0 x = some v) : fnL 35 x = some v := lim_of (t35 · x) (c35 x) h
theorem v74 {x : (sigA 74).inT.den} {v : (sigA 74).outT.den} (h : g74 std fnL 0 x = some v) : fnL 74 x = some v := lim_of (t74 · x) (c74 x) h
theorem v24 {x : (sigA 24).inT.den} {v : (sigA 24).outT.den} (h : g24 std fnL 0 x = some v) : fnL 24 x = some v := lim_of (t24 · x) (c24 x) h
theorem v126 {x : (sigA 126).inT.den} {v : (sigA 126).outT.den} (h : g126 std fnL 0 x = some v) : fnL 126 x = some v := lim_of (t126 · x) (c126 x) h
theorem v62 {x : (sigA 62).inT.den} {v : (sigA 62).outT.den} (h : g62 std fnL 0 x = some v) : fnL 62 x = some v := lim_of (t62 · x) (c62 x) h
theorem v141 {x : (sigA 141).inT.den} {v : (sigA 141).outT.den} (h : g141 std fnL 0 x = some v) : fnL 141 x = some v := lim_of (t141 · x) (c141 x) h
theorem v142 {x : (sigA 142).inT.den} {v : (sigA 142).outT.den} (h : g142 std fnL 0 x = some v) : fnL 142 x = some v := lim_of (t142 · x) (c142 x) h
theorem v88 {x : (sigA 88).inT.den} {v : (sigA 88).outT.den} (h : g88 std fnL 0 x = some v) : fnL 88 x = some v := lim_of (t88 · x) (c88 x) h
theorem v89 {x : (sigA 89).inT.den} {v : (sigA 89).outT.den} (h : g89 std fnL 0 x = some v) : fnL 89 x = some v := lim_of (t89 · x) (c89 x) h
theorem v90 {x : (sigA 90).inT.den} {v : (sigA 90).outT.den} (h : g90 std fnL 0 x = some v) : fnL 90 x = some v := lim_of (t90 · x) (c90 x) h
theorem v37 {x : (sigA 37).inT.den} {v : (sigA 37).outT.den} (h : g37 std fnL 0 x = some v) : fnL 37 x = some v := lim_of (t37 · x) (c37 x) h
theorem v91 {x : (sigA 91).inT.den} {v : (sigA 91).outT.den} (h : g91 std fnL 0 x = some v) : fnL 91 x = some v := lim_of (t91 · x) (c91 x) h
theorem v38 {x : (sigA 38).inT.den} {v : (sigA 38).outT.den} (h : g38 std fnL 0 x = some v) : fnL 38 x = some v := lim_of (t38 · x) (c38 x) h
theorem v7 {x : (sigA 7).inT.den} {v : (sigA 7).outT.den} (h : g7 std fnL 0 x = some v) : fnL 7 x = some v := lim_of (t7 · x) (c7 x) h
theorem u65 {x : Unit} {v : Int × Int} (h : g65 std fnL 0 x = some v) : q65 fnL x = some v := @v65 x v h
theorem u13 {x : Unit} {v : Int × Int × (List ByteArray) × Int × Int} (h : g13 std fnL 0 x = some v) : q13 fnL x = some v := @v13 x v h
theorem u76 {x : Int} {v : Int × Int × Int} (h : g76 std fnL 0 x = some v) : q76 fnL x = some v := @v76 x v h
theorem u25 {x : Int × Int × Int} {v : Int × Int × Int × (Int × Int × (List ByteArray) × Int × Int) × Int × Int × Int} (h : g25 std fnL 0 x = some v) : q25 fnL x = some v := @v25 x v h
theorem u70 {x : List ByteArray} {v : List ByteArray} (h : g70 std fnL 0 x = some v) : q70 fnL x = some v := @v70 x v h
theorem u66 {x : Int × Int × (List ByteArray) × Int × Int} {v : Int × Int × (List ByteArray) × Int × Int} (h : g66 std fnL 0 x = some v) : q66 fnL x = some v := @v66 x v h
theorem u71 {x : Int × Int} {v : Int × Int} (h : g71 std fnL 0 x = some v) : q71 fnL x = some v := @v71 x v h
theorem u69 {x : Int × Int} {v : Int × Int} (h : g69 std fnL 0 x = some v) : q69 fnL x = some v := @v69 x v h
theorem u72 {x : Int × Int × (List ByteArray) × Int × Int} {v : (Int × Int × (List ByteArray) × Int × Int) × Bool} (h : g72 std fnL 0 x = some v) : q72 fnL x = some v := @v72 x v h
theorem u15 {x : (Int × Int × (List ByteArray) × Int × Int) × Int × Int} {v : (Int × Int × (List ByteArray) × Int × Int) × Bool} (h : g15 std fnL 0 x = some v) : q15 fnL x = some v := @v15 x v h
theorem u64 {x : Int × Int × (List ByteArray) × Int × Int} {v : ByteArray} (h : g64 std fnL 0 x = some v) : q64 fnL x = some v := @v64 x v h
theorem u77 {x : (Int × Int × Int × (Int × Int × (List ByteArray) × Int × Int) × Int × Int × Int) × Bool} {v : List (Int × Int × Int × Int × Int × Int × ByteArray)} (h : g77 std fnL 0 x = some v) : q77 fnL x = some v := @v77 x v h
theorem u16 {x : (Int × Int × (List ByteArray) × Int × Int) × Int} {v : (Int × Int × (List ByteArray) × Int × Int) × Bool} (h : g16 std fnL 0 x = some v) : q16 fnL x = some v := @v16 x v h
theorem u137 {x : (Int × Int × Int) × Int} {v : Int × Int × Int} (h : g137 std fnL 0 x = some v) : q137 fnL x = some v := @v137 x v h
theorem u79 {x : (Int × Int × Int × (Int × Int × (List ByteArray) × Int × Int) × Int × Int × Int) × Int} {v : (Int × Int × Int × (Int × Int × (List ByteArray) × Int × Int) × Int × Int × Int) × (List (Int × Int × Int × Int × Int × Int × ByteArray))} (h : g79 std fnL 0 x = some v) : q79 fnL x = some v := @v79 x v h
theorem u170 {x : Int × Int} {v : Bool} (h : g170 std fnL 0 x = some v) : q170 fnL x = some v := @v170 x v h
theorem u129 {x : Int × Int} {v : Int × Int} (h : g129 std fnL 0 x = some v) : q129 fnL x = some v := @v129 x v h
theorem u73 {x : Int × Int} {v : (Int × Int) × Bool} (h : g73 std fnL 0 x = some v) : q73 fnL x = some v := @v73 x v h
theorem u17 {x : Int × Int × (List ByteArray) × Int × Int} {v : (Int × Int × (List ByteArray) × Int × Int) × Bool} (h : g17 std fnL 0 x = some v) : q17 fnL x = some v := @v17 x v h
theorem u28 {x : Int × Int × Int × (Int × Int × (List ByteArray) × Int × Int) × Int × Int × Int} {v : (Int × Int × Int × (Int × Int × (List ByteArray) × Int × Int) × Int × Int × Int) × (List (Int × Int × Int × Int × Int × Int × ByteArray))} (h : g28 std fnL 0 x = some v) : q28 fnL x = some v := @v28 x v h
theorem u131 {x : Int} {v : Bool} (h : g131 std fnL 0 x = some v) : q131 fnL x = some v := @v131 x v h
theorem u133 {x : Int} {v : Bool} (h : g133 std fnL 0 x = some v) : q133 fnL x = some v := @v133 x v h
theorem u135 {x : Int} {v : Bool} (h : g135 std fnL 0 x = some v) : q135 fnL x = some v := @v135 x v h
theorem u136 {x : Int} {v : Bool} (h : g136 std fnL 0 x = some v) : q136 fnL x = some v := @v136 x v h
theorem u132 {x : Int × Int × Int × Int × Int × Int × ByteArray} {v : Int × Int × Int × Int × Int × Int × ByteArray} (h : g132 std fnL 0 x = some v) : q132 fnL x = some v := @v132 x v h
theorem u134 {x : Bool × Int} {v : Bool} (h : g134 std fnL 0 x = some v) : q134 fnL x = some v := @v134 x v h
theorem u78 {x : Int × Int × Int × Int × Int × Int × ByteArray} {v : Bool} (h : g78 std fnL 0 x = some v) : q78 fnL x = some v := @v78 x v h
theorem u80 {x : (Int × Int × Int) × Int × Int × Int} {v : (Int × Int × Int) × Int} (h : g80 std fnL 0 x = some v) : q80 fnL x = some v := @v80 x v h
theorem u81 {x : (Int × Int × Int × (Int × Int × (List ByteArray) × Int × Int) × Int × Int × Int) × Int × (Int × Int × Int × Int × Int × Int × ByteArray) × Int} {v : Int × Int × Int × Int × Int × Int × ByteArray} (h : g81 std fnL 0 x = some v) : q81 fnL x = some v := @v81 x v h
theorem u130 {x : Int} {v : ByteArray} (h : g130 std fnL 0 x = some v) : q130 fnL x = some v := @v130 x v h
theorem u27 {x : (Int × Int × Int × (Int × Int × (List ByteArray) × Int × Int) × Int × Int × Int) × Int × Int × Int × Int × Int × Int × ByteArray} {v : (Int × Int × Int × (Int × Int × (List ByteArray) × Int × Int) × Int × Int × Int) × ByteArray × Bool × (List (Int × Int × Int × Int × Int × Int × ByteArray))} (h : g27 std fnL 0 x = some v) : q27 fnL x = some v := @v27 x v h
theorem u20 {x : Unit} {v : Unit × (Int × Int × Int × (Int × Int × (List ByteArray) × Int × Int) × Int × Int × Int) × (Int × Int × Int × (Int × Int × (List ByteArray) × Int × Int) × Int × Int × Int) × (List (Int × Int × Int × Int × Int × Int × ByteArray)) × (Int × Int) × (Int × Int) × Bool} (h : g20 std fnL 0 x = some v) : q20 fnL x = some v := @v20 x v h
theorem u75 {x : Int} {v : ByteArray} (h : g75 std fnL 0 x = some v) : q75 fnL x = some v := @v75 x v h
theorem u68 {x : ByteArray × Unit × (Int × Int × (List ByteArray) × Int × Int) × (Int × Int × (List ByteArray) × Int × Int) × ByteArray} {v : Bool × (Int × Int × (List ByteArray) × Int × Int) × (Int × Int × (List ByteArray) × Int × Int) × ByteArray} (h : g68 std fnL 0 x = some v) : q68 fnL x = some v := @v68 x v h
theorem u128 {x : (List ByteArray) × (Unit × Unit) × (Int × Int × (List ByteArray) × Int × Int) × (Int × Int × (List ByteArray) × Int × Int) × ByteArray} {v : Int × (Int × Int × (List ByteArray) × Int × Int) × (Int × Int × (List ByteArray) × Int × Int) × ByteArray} (h : g128 std fnL 0 x = some v) : q128 fnL x = some v := @v128 x v h
theorem u67 {x : (List ByteArray) × (Unit × Unit) × (Int × Int × (List ByteArray) × Int × Int) × (Int × Int × (List ByteArray) × Int × Int) × ByteArray} {v : Bool × (Int × Int × (List ByteArray) × Int × Int) × (Int × Int × (List ByteArray) × Int × Int) × ByteArray} (h : g67 std fnL 0 x = some v) : q67 fnL x = some v := @v67 x v h
theorem u14 {x : (Int × Int × (List ByteArray) × Int × Int) × Int × ByteArray} {v : (Int × Int × (List ByteArray) × Int × Int) × Bool × Int} (h : g14 std fnL 0 x = some v) : q14 fnL x = some v := @v14 x v h
theorem u26 {x : (Int × Int × Int × (Int × Int × (List ByteArray) × Int × Int) × Int × Int × Int) × Int × ByteArray} {v : (Int × Int × Int × (Int × Int × (List ByteArray) × Int × Int) × Int × Int × Int) × (List (Int × Int × Int × Int × Int × Int × ByteArray)) × Int} (h : g26 std fnL 0 x = some v) : q26 fnL x = some v := @v26 x v h
theorem u29 {x : (List ByteArray) × Int × Int} {v : Bool} (h : g29 std fnL 0 x = some v) : q29 fnL x = some v := @v29 x v h
theorem u22 {x : Unit} {v : Bool} (h : g22 std fnL 0 x = some v) : q22 fnL x = some v := @v22 x v h
theorem u82 {x : Int × Int × (List ByteArray) × Int × Int} {v : Int × Int × (List ByteArray) × Int × Int} (h : g82 std fnL 0 x = some v) : q82 fnL x = some v := @v82 x v h
theorem u30 {x : Int × Int × Int × (Int × Int × (List ByteArray) × Int × Int) × Int × Int × Int} {v : Int × Int × Int × (Int × Int × (List ByteArray) × Int × Int) × Int × Int × Int} (h : g30 std fnL 0 x = some v) : q30 fnL x = some v := @v30 x v h
theorem u19 {x : (List ByteArray) × ByteArray} {v : Int} (h : g19 std fnL 0 x = some v) : q19 fnL x = some v := @v19 x v h
theorem u83 {x : (Int × Int × (List ByteArray) × Int × Int) × Int × ByteArray} {v : (Int × Int × (List ByteArray) × Int × Int) × Bool × Int} (h : g83 std fnL 0 x = some v) : q83 fnL x = some v := @v83 x v h
theorem u84 {x : (Int × Int × Int × (Int × Int × (List ByteArray) × Int × Int) × Int × Int × Int) × Bool} {v : List (Int × Int × Int × Int × Int × Int × ByteArray)} (h : g84 std fnL 0 x = some v) : q84 fnL x = some v := @v84 x v h
theorem u31 {x : (Int × Int × Int × (Int × Int × (List ByteArray) × Int × Int) × Int × Int × Int) × Int × ByteArray} {v : (Int × Int × Int × (Int × Int × (List ByteArray) × Int × Int) × Int × Int × Int) × (List (Int × Int × Int × Int × Int × Int × ByteArray)) × Int} (h : g31 std fnL 0 x = some v) : q31 fnL x = some v := @v31 x v h
theorem u18 {x : (List ByteArray) × (List ByteArray)} {v : Bool} (h : g18 std fnL 0 x = some v) : q18 fnL x = some v := @v18 x v h
theorem u138 {x : (Int × Int × (List ByteArray) × Int × Int) × Int × Int × (List ByteArray) × Int × Int} {v : Bool} (h : g138 std fnL 0 x = some v) : q138 fnL x = some v := @v138 x v h
theorem u85 {x : (Int × Int × (List ByteArray) × Int × Int) × Int × Int × (List ByteArray) × Int × Int} {v : Bool} (h : g85 std fnL 0 x = some v) : q85 fnL x = some v := @v85 x v h
theorem u32 {x : (Int × Int × Int × (Int × Int × (List ByteArray) × Int × Int) × Int × Int × Int) × Int × Int × Int × (Int × Int × (List ByteArray) × Int × Int) × Int × Int × Int} {v : Bool} (h : g32 std fnL 0 x = some v) : q32 fnL x = some v := @v32 x v h
theorem u36 {x : Int × Int × Int × Int × Int × Int × ByteArray} {v : Int × Int × Int × Int × Int × Int × ByteArray} (h : g36 std fnL 0 x = some v) : q36 fnL x = some v := @v36 x v h
theorem u33 {x : (List (Int × Int × Int × Int × Int × Int × ByteArray)) × (List (Int × Int × Int × Int × Int × Int × ByteArray))} {v : Bool} (h : g33 std fnL 0 x = some v) : q33 fnL x = some v := @v33 x v h
theorem u171 {x : Int × Int} {v : Bool} (h : g171 std fnL 0 x = some v) : q171 fnL x = some v := @v171 x v h
theorem u139 {x : Int × Int} {v : (Int × Int) × Bool} (h : g139 std fnL 0 x = some v) : q139 fnL x = some v := @v139 x v h
theorem u86 {x : Int × Int × (List ByteArray) × Int × Int} {v : (Int × Int × (List ByteArray) × Int × Int) × Bool} (h : g86 std fnL 0 x = some v) : q86 fnL x = some v := @v86 x v h
theorem u34 {x : Int × Int × Int × (Int × Int × (List ByteArray) × Int × Int) × Int × Int × Int} {v : (Int × Int × Int × (Int × Int × (List ByteArray) × Int × Int) × Int × Int × Int) × (List (Int × Int × Int × Int × Int × Int × ByteArray))} (h : g34 std fnL 0 x = some v) : q34 fnL x = some v := @v34 x v h
theorem u173 {x : Int × Unit × Unit × (List ByteArray) × (List ByteArray)} {v : Bool × (List ByteArray) × (List ByteArray)} (h : g173 std fnL 0 x = some v) : q173 fnL x = some v := @v173 x v h
theorem u172 {x : Int × (Unit × Unit × Unit) × (List ByteArray) × (List ByteArray)} {v : Int × (List ByteArray) × (List ByteArray)} (h : g172 std fnL 0 x = some v) : q172 fnL x = some v := @v172 x v h
theorem u140 {x : (List ByteArray) × (List ByteArray)} {v : Bool} (h : g140 std fnL 0 x = some v) : q140 fnL x = some v := @v140 x v h
theorem u87 {x : (Int × Int × (List ByteArray) × Int × Int) × Int × Int × (List ByteArray) × Int × Int} {v : Bool} (h : g87 std fnL 0 x = some v) : q87 fnL x = some v := @v87 x v h
theorem u35 {x : (Int × Int × Int × (Int × Int × (List ByteArray) × Int × Int) × Int × Int × Int) × Int × Int × Int × (Int × Int × (List ByteArray) × Int × Int) × Int × Int × Int} {v : Bool} (h : g35 std fnL 0 x = some v) : q35 fnL x = some v := @v35 x v h
theorem u74 {x : Unit × Int × ((Int × Int × Int × (Int × Int × (List ByteArray) × Int × Int) × Int × Int × Int) × (Int × Int × Int × (Int × Int × (List ByteArray) × Int × Int) × Int × Int × Int) × (List (Int × Int × Int × Int × Int × Int × ByteArray)) × (Int × Int) × (Int × Int) × Bool) × Int × Int} {v : Unit × ((Int × Int × Int × (Int × Int × (List ByteArray) × Int × Int) × Int × Int × Int) × (Int × Int × Int × (Int × Int × (List ByteArray) × Int × Int) × Int × Int × Int) × (List (Int × Int × Int × Int × Int × Int × ByteArray)) × (Int × Int) × (Int × Int) × Bool) × Int × Int} (h : g74 std fnL 0 x = some v) : q74 fnL x = some v := @v74 x v h
theorem u24 {x : Unit × Int × ((Int × Int × Int × (Int × Int × (List ByteArray) × Int × Int) × Int × Int × Int) × (Int × Int × Int × (Int × Int × (List ByteArray) × Int × Int) × Int × Int × Int) × (List (Int × Int × Int × Int × Int × Int × ByteArray)) × (Int × Int) × (Int × Int) × Bool) × Int × Int} {v : Unit × ((Int × Int × Int × (Int × Int × (List ByteArray) × Int × Int) × Int × Int × Int) × (Int × Int × Int × (Int × Int × (List ByteArray) × Int × Int) × Int × Int × Int) × (List (Int × Int × Int × Int × Int × Int × ByteArray)) × (Int × Int) × (Int × Int) × Bool) × Int × Int} (h : g24 std fnL 0 x = some v) : q24 fnL x = some v := @v24 x v h
theorem u126 {x : Bool × Int} {v : Bool} (h : g126 std fnL 0 x = some v) : q126 fnL x = some v := @v126 x v h
theorem u62 {x : Int × Int × Int × Int × Int × Int × ByteArray} {v : Bool} (h : g62 std fnL 0 x = some v) : q62 fnL x = some v := @v62 x v h
theorem u141 {x : (Int × Int × (List ByteArray) × Int × Int) × Int} {v : (Int × Int × (List ByteArray) × Int × Int) × Bool} (h : g141 std fnL 0 x = some v) : q141 fnL x = some v := @v141 x v h
theorem u142 {x : (Int × Int × Int) × Int} {v : Int × Int × Int} (h : g142 std fnL 0 x = some v) : q142 fnL x = some v := @v142 x v h
theorem u88 {x : (Int × Int × Int × (Int × Int × (List ByteArray) × Int × Int) × Int × Int × Int) × Int} {v : (Int × Int × Int × (Int × Int × (List ByteArray) × Int × Int) × Int × Int × Int) × (List (Int × Int × Int × Int × Int × Int × ByteArray))} (h : g88 std fnL 0 x = some v) : q88 fnL x = some v := @v88 x v h
theorem u89 {x : (Int × Int × (List ByteArray) × Int × Int) × Int × Int} {v : (Int × Int × (List ByteArray) × Int × Int) × Bool} (h : g89 std fnL 0 x = some v) : q89 fnL x = some v := @v89 x v h
theorem u90 {x : (Int × Int × Int) × Int × Int × Int} {v : (Int × Int × Int) × Int} (h : g90 std fnL 0 x = some v) : q90 fnL x = some v := @v90 x v h
theorem u37 {x : (Int × Int × Int × (Int × Int × (List ByteArray) × Int × Int) × Int × Int × Int) × Int × Int × Int × Int × Int × Int × ByteArray} {v : (Int × Int × Int × (Int × Int × (List ByteArray) × Int × Int) × Int × Int × Int) × ByteArray × Bool × (List (Int × Int × Int × Int × Int × Int × ByteArray))} (h : g37 std fnL 0 x = some v) : q37 fnL x = some v := @v37 x v h
theorem u91 {x : Unit} {v : Int × Int × (List ByteArray) × Int × Int} (h : g91 std fnL 0 x = some v) : q91 fnL x = some v := @v91 x v h
theorem u38 {x : Int × Int × Int} {v : Int × Int × Int × (Int × Int × (List ByteArray) × Int × Int) × Int × Int × Int} (h : g38 std fnL 0 x = some v) : q38 fnL x = some v := @v38 x v h
theorem u7 {x : (Int × Int × Int × (Int × Int × (List ByteArray) × Int × Int) × Int × Int × Int) × (Int × Int × Int × Int × Int × Int × ByteArray) × ByteArray} {v : Bool} (h : g7 std fnL 0 x = some v) : q7 fnL x = some v := @v7 x v h

end Go.PI
