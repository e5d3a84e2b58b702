/- A seat's tables: types, shapes of functions. -/
import Derived.Test.YtoaadbakbfphgaaVk
import Derived.Test.YtoaadbakbfphgaaProg
import Derived.KernelRfl
namespace Go.PI
open Go Go.Proofs
set_option maxRecDepth 100000
set_option linter.unusedVariables false

abbrev R26 : Ty := .pair (.int .i64) (.int .i64)
abbrev R28 : Ty := .pair (.int .i64) (.pair (.int .i64) (.pair (.sl 0 (.str)) (R26)))
abbrev R47 : Ty := .pair (.int .i64) (.int .i64)
abbrev R49 : Ty := .pair (.int .i64) (.pair (.int .i64) (.int .i64))
abbrev R51 : Ty := .pair (.int .i64) (.pair (.int .i64) (.pair (.int .i64) (.pair (R28) (R49))))
abbrev R58 : Ty := .pair (.int .i64) (.pair (.int .i64) (.pair (.int .i64) (.pair (.int .i64) (.pair (.int .i64) (.pair (.int .i64) (.str))))))
abbrev R53 : Ty := .pair (.int .i64) (.int .i64)
abbrev R55 : Ty := .pair (R51) (.pair (R51) (.pair (.sl 0 (R58)) (.pair (R53) (.pair (R53) (.bool)))))
abbrev R69 : Ty := .pair (.int .i64) (.int .i64)
abbrev R71 : Ty := .pair (.int .i64) (.pair (.int .i64) (.pair (.sl 0 (.str)) (R69)))
abbrev R72 : Ty := .pair (.int .i64) (.pair (.int .i64) (.int .i64))
abbrev R74 : Ty := .pair (.int .i64) (.pair (.int .i64) (.pair (.int .i64) (.pair (R71) (R72))))
abbrev R75 : Ty := .pair (.int .i64) (.pair (.int .i64) (.pair (.int .i64) (.pair (.int .i64) (.pair (.int .i64) (.pair (.int .i64) (.str))))))
abbrev R88 : Ty := .pair (R74) (.pair (.str) (.pair (.bool) (.sl 0 (R75))))
abbrev R96 : Ty := .pair (.int .i64) (.pair (.int .i64) (.pair (.int .i64) (.pair (.int .i64) (.pair (.int .i64) (.pair (.int .i64) (.sl 0 (.str)))))))
abbrev R122 : Ty := .pair (.int .u8) (.int .u8)
abbrev R136 : Ty := .pair (.int .i64) (.pair (.int .i64) (.pair (.str) (R75)))
abbrev R134 : Ty := .pair (.int .u32) (.int .u32)
abbrev R175 : Ty := .pair (.sl 0 (.int .u8)) (.pair (.int .i64) (.int .i64))
abbrev R279 : Ty := .pair (.sl 0 (.int .u8)) (.pair (.int .i64) (.bool))

def tvA : Nat → TV
  | 3 => .int .i64
  | 4 => .bool
  | 5 => .int .u8
  | 9 => .str
  | 24 => .sl 16 9 (.str) [.str ⟨#[]⟩]
  | 26 => .st [(0, 1, 3), (1, 1, 3)] [.int .i64 0, .int .i64 0]
  | 28 => .st [(0, 1, 3), (1, 1, 3), (2, 1, 24), (3, 2, 26)] [.int .i64 0, .int .i64 0, .sl 2 (.str) [], .int .i64 0, .int .i64 0]
  | 32 => .int .i64
  | 42 => .sl 16 47 (R47) [.int .i64 0, .int .i64 0]
  | 43 => .ptr
  | 47 => .st [(0, 1, 3), (1, 1, 3)] [.int .i64 0, .int .i64 0]
  | 49 => .st [(0, 1, 3), (1, 1, 3), (2, 1, 3)] [.int .i64 0, .int .i64 0, .int .i64 0]
  | 51 => .st [(0, 1, 3), (1, 1, 3), (2, 1, 3), (3, 5, 28), (8, 3, 49)] [.int .i64 0, .int .i64 0, .int .i64 0, .int .i64 0, .int .i64 0, .sl 2 (.str) [], .int .i64 0, .int .i64 0, .int .i64 0, .int .i64 0, .int .i64 0]
  | 52 => .sl 64 58 (R58) [.int .i64 0, .int .i64 0, .int .i64 0, .int .i64 0, .int .i64 0, .int .i64 0, .str ⟨#[]⟩]
  | 53 => .arr 2 1 3 [.int .i64 0, .int .i64 0]
  | 55 => .st [(0, 11, 51), (11, 11, 51), (22, 1, 52), (23, 2, 53), (25, 2, 53), (27, 1, 4)] [.int .i64 0, .int .i64 0, .int .i64 0, .int .i64 0, .int .i64 0, .sl 2 (.str) [], .int .i64 0, .int .i64 0, .int .i64 0, .int .i64 0, .int .i64 0, .int .i64 0, .int .i64 0, .int .i64 0, .int .i64 0, .int .i64 0, .sl 2 (.str) [], .int .i64 0, .int .i64 0, .int .i64 0, .int .i64 0, .int .i64 0, .sl 2 (R58) [], .int .i64 0, .int .i64 0, .int .i64 0, .int .i64 0, .bool false]
  | 58 => .st [(0, 1, 3), (1, 1, 3), (2, 1, 3), (3, 1, 3), (4, 1, 3), (5, 1, 3), (6, 1, 9)] [.int .i64 0, .int .i64 0, .int .i64 0, .int .i64 0, .int .i64 0, .int .i64 0, .str ⟨#[]⟩]
  | 69 => .st [(0, 1, 3), (1, 1, 3)] [.int .i64 0, .int .i64 0]
  | 71 => .st [(0, 1, 3), (1, 1, 3), (2, 1, 24), (3, 2, 69)] [.int .i64 0, .int .i64 0, .sl 2 (.str) [], .int .i64 0, .int .i64 0]
  | 72 => .st [(0, 1, 3), (1, 1, 3), (2, 1, 3)] [.int .i64 0, .int .i64 0, .int .i64 0]
  | 74 => .st [(0, 1, 3), (1, 1, 3), (2, 1, 3), (3, 5, 71), (8, 3, 72)] [.int .i64 0, .int .i64 0, .int .i64 0, .int .i64 0, .int .i64 0, .sl 2 (.str) [], .int .i64 0, .int .i64 0, .int .i64 0, .int .i64 0, .int .i64 0]
  | 75 => .st [(0, 1, 3), (1, 1, 3), (2, 1, 3), (3, 1, 3), (4, 1, 3), (5, 1, 3), (6, 1, 9)] [.int .i64 0, .int .i64 0, .int .i64 0, .int .i64 0, .int .i64 0, .int .i64 0, .str ⟨#[]⟩]
  | 78 => .sl 64 75 (R75) [.int .i64 0, .int .i64 0, .int .i64 0, .int .i64 0, .int .i64 0, .int .i64 0, .str ⟨#[]⟩]
  | 88 => .st [(0, 11, 74), (11, 1, 9), (12, 1, 4), (13, 1, 78)] [.int .i64 0, .int .i64 0, .int .i64 0, .int .i64 0, .int .i64 0, .sl 2 (.str) [], .int .i64 0, .int .i64 0, .int .i64 0, .int .i64 0, .int .i64 0, .str ⟨#[]⟩, .bool false, .sl 2 (R75) []]
  | 92 => .sl 72 96 (R96) [.int .i64 0, .int .i64 0, .int .i64 0, .int .i64 0, .int .i64 0, .int .i64 0, .sl 0 (.str) []]
  | 93 => .int .u16
  | 96 => .st [(0, 1, 3), (1, 1, 3), (2, 1, 3), (3, 1, 3), (4, 1, 3), (5, 1, 3), (6, 1, 24)] [.int .i64 0, .int .i64 0, .int .i64 0, .int .i64 0, .int .i64 0, .int .i64 0, .sl 2 (.str) []]
  | 97 => .ptr
  | 99 => .ptr
  | 122 => .arr 2 1 5 [.int .u8 0, .int .u8 0]
  | 123 => .ptr
  | 132 => .sl 96 136 (R136) [.int .i64 0, .int .i64 0, .str ⟨#[]⟩, .int .i64 0, .int .i64 0, .int .i64 0, .int .i64 0, .int .i64 0, .int .i64 0, .str ⟨#[]⟩]
  | 133 => .int .u32
  | 134 => .arr 2 1 133 [.int .u32 0, .int .u32 0]
  | 136 => .st [(0, 1, 3), (1, 1, 3), (2, 1, 9), (3, 7, 75)] [.int .i64 0, .int .i64 0, .str ⟨#[]⟩, .int .i64 0, .int .i64 0, .int .i64 0, .int .i64 0, .int .i64 0, .int .i64 0, .str ⟨#[]⟩]
  | 139 => .sl 1 5 (.int .u8) [.int .u8 0]
  | 140 => .int .u64
  | 147 => .fn
  | 175 => .st [(0, 1, 139), (1, 1, 3), (2, 1, 3)] [.sl 2 (.int .u8) [], .int .i64 0, .int .i64 0]
  | 181 => .st [(0, 1, 97)] [.nilp]
  | 183 => .st [(0, 1, 181), (1, 1, 92), (2, 1, 4)] [.nilp, .sl 2 (R96) [], .bool false]
  | 193 => .sl 8 3 (.int .i64) [.int .i64 0]
  | 197 => .int .u64
  | 225 => .fn
  | 239 => .fn
  | 254 => .ptr
  | 279 => .st [(0, 1, 139), (1, 1, 32), (2, 1, 4)] [.sl 2 (.int .u8) [], .int .i64 0, .bool false]
  | 283 => .int .i64
  | 305 => .int .u64
  | 309 => .ptr
  | 323 => .ptr
  | _ => .other

theorem tok_of {P : Program} {T : Nat → TV} (h : ∀ t, erTs T t = tiOf P t ∨ erTs T t = .other) : TOk P (erTs T) := by
  have k := tiOf_ok P
  refine ⟨fun ty => ?_, fun ty hn => ?_⟩
  · rcases h ty with e | e
    · rw [e]; exact k.desc ty
    · rw [e]; trivial
  · rcases h ty with e | e
    · rw [e] at hn ⊢; exact k.info ty hn
    · exact (hn e).elim

theorem tv_3 : erT (tvA 3) = tiOf Try.prog 3 := by kernel_rfl
theorem tv_4 : erT (tvA 4) = tiOf Try.prog 4 := by kernel_rfl
theorem tv_5 : erT (tvA 5) = tiOf Try.prog 5 := by kernel_rfl
theorem tv_9 : erT (tvA 9) = tiOf Try.prog 9 := by kernel_rfl
theorem tv_24 : erT (tvA 24) = tiOf Try.prog 24 := by kernel_rfl
theorem tv_26 : erT (tvA 26) = tiOf Try.prog 26 := by kernel_rfl
theorem tv_28 : erT (tvA 28) = tiOf Try.prog 28 := by kernel_rfl
theorem tv_32 : erT (tvA 32) = tiOf Try.prog 32 := by kernel_rfl
theorem tv_42 : erT (tvA 42) = tiOf Try.prog 42 := by kernel_rfl
theorem tv_43 : erT (tvA 43) = tiOf Try.prog 43 := by kernel_rfl
theorem tv_47 : erT (tvA 47) = tiOf Try.prog 47 := by kernel_rfl
theorem tv_49 : erT (tvA 49) = tiOf Try.prog 49 := by kernel_rfl
theorem tv_51 : erT (tvA 51) = tiOf Try.prog 51 := by kernel_rfl
theorem tv_52 : erT (tvA 52) = tiOf Try.prog 52 := by kernel_rfl
theorem tv_53 : erT (tvA 53) = tiOf Try.prog 53 := by kernel_rfl
theorem tv_55 : erT (tvA 55) = tiOf Try.prog 55 := by kernel_rfl
theorem tv_58 : erT (tvA 58) = tiOf Try.prog 58 := by kernel_rfl
theorem tv_69 : erT (tvA 69) = tiOf Try.prog 69 := by kernel_rfl
theorem tv_71 : erT (tvA 71) = tiOf Try.prog 71 := by kernel_rfl
theorem tv_72 : erT (tvA 72) = tiOf Try.prog 72 := by kernel_rfl
theorem tv_74 : erT (tvA 74) = tiOf Try.prog 74 := by kernel_rfl
theorem tv_75 : erT (tvA 75) = tiOf Try.prog 75 := by kernel_rfl
theorem tv_78 : erT (tvA 78) = tiOf Try.prog 78 := by kernel_rfl
theorem tv_88 : erT (tvA 88) = tiOf Try.prog 88 := by kernel_rfl
theorem tv_92 : erT (tvA 92) = tiOf Try.prog 92 := by kernel_rfl
theorem tv_93 : erT (tvA 93) = tiOf Try.prog 93 := by kernel_rfl
theorem tv_96 : erT (tvA 96) = tiOf Try.prog 96 := by kernel_rfl
theorem tv_97 : erT (tvA 97) = tiOf Try.prog 97 := by kernel_rfl
theorem tv_99 : erT (tvA 99) = tiOf Try.prog 99 := by kernel_rfl
theorem tv_122 : erT (tvA 122) = tiOf Try.prog 122 := by kernel_rfl
theorem tv_123 : erT (tvA 123) = tiOf Try.prog 123 := by kernel_rfl
theorem tv_132 : erT (tvA 132) = tiOf Try.prog 132 := by kernel_rfl
theorem tv_133 : erT (tvA 133) = tiOf Try.prog 133 := by kernel_rfl
theorem tv_134 : erT (tvA 134) = tiOf Try.prog 134 := by kernel_rfl
theorem tv_136 : erT (tvA 136) = tiOf Try.prog 136 := by kernel_rfl
theorem tv_139 : erT (tvA 139) = tiOf Try.prog 139 := by kernel_rfl
theorem tv_140 : erT (tvA 140) = tiOf Try.prog 140 := by kernel_rfl
theorem tv_147 : erT (tvA 147) = tiOf Try.prog 147 := by kernel_rfl
theorem tv_175 : erT (tvA 175) = tiOf Try.prog 175 := by kernel_rfl
theorem tv_181 : erT (tvA 181) = tiOf Try.prog 181 := by kernel_rfl
theorem tv_183 : erT (tvA 183) = tiOf Try.prog 183 := by kernel_rfl
theorem tv_193 : erT (tvA 193) = tiOf Try.prog 193 := by kernel_rfl
theorem tv_197 : erT (tvA 197) = tiOf Try.prog 197 := by kernel_rfl
theorem tv_225 : erT (tvA 225) = tiOf Try.prog 225 := by kernel_rfl
theorem tv_239 : erT (tvA 239) = tiOf Try.prog 239 := by kernel_rfl
theorem tv_254 : erT (tvA 254) = tiOf Try.prog 254 := by kernel_rfl
theorem tv_279 : erT (tvA 279) = tiOf Try.prog 279 := by kernel_rfl
theorem tv_283 : erT (tvA 283) = tiOf Try.prog 283 := by kernel_rfl
theorem tv_305 : erT (tvA 305) = tiOf Try.prog 305 := by kernel_rfl
theorem tv_309 : erT (tvA 309) = tiOf Try.prog 309 := by kernel_rfl
theorem tv_323 : erT (tvA 323) = tiOf Try.prog 323 := by kernel_rfl

theorem tvA_ok : TOk Try.prog (erTs tvA) := by
  refine tok_of fun t => ?_
  unfold erTs tvA
  split
  · exact .inl tv_3
  · exact .inl tv_4
  · exact .inl tv_5
  · exact .inl tv_9
  · exact .inl tv_24
  · exact .inl tv_26
  · exact .inl tv_28
  · exact .inl tv_32
  · exact .inl tv_42
  · exact .inl tv_43
  · exact .inl tv_47
  · exact .inl tv_49
  · exact .inl tv_51
  · exact .inl tv_52
  · exact .inl tv_53
  · exact .inl tv_55
  · exact .inl tv_58
  · exact .inl tv_69
  · exact .inl tv_71
  · exact .inl tv_72
  · exact .inl tv_74
  · exact .inl tv_75
  · exact .inl tv_78
  · exact .inl tv_88
  · exact .inl tv_92
  · exact .inl tv_93
  · exact .inl tv_96
  · exact .inl tv_97
  · exact .inl tv_99
  · exact .inl tv_122
  · exact .inl tv_123
  · exact .inl tv_132
  · exact .inl tv_133
  · exact .inl tv_134
  · exact .inl tv_136
  · exact .inl tv_139
  · exact .inl tv_140
  · exact .inl tv_147
  · exact .inl tv_175
  · exact .inl tv_181
  · exact .inl tv_183
  · exact .inl tv_193
  · exact .inl tv_197
  · exact .inl tv_225
  · exact .inl tv_239
  · exact .inl tv_254
  · exact .inl tv_279
  · exact .inl tv_283
  · exact .inl tv_305
  · exact .inl tv_309
  · exact .inl tv_323
  · exact .inr rfl

def sigA : Nat → Sig
  | 7 => ⟨7, 3, true, .pair (.agg R74) (.pair (.agg R75) .str), .bool, [], false⟩
  | 13 => ⟨13, 0, true, .unit, .agg (.pair (.int .i64) (.pair (.int .i64) (.pair (.sl 2 .str) R26))), [], false⟩
  | 14 => ⟨14, 3, true, .pair (.agg R28) (.pair (.int .i64) .str), .tup (.pair (.agg R28) (.pair .bool (.int .i64))), [], false⟩
  | 15 => ⟨15, 3, true, .pair (.agg R28) R26, .tup (.pair (.agg R28) .bool), [], false⟩
  | 16 => ⟨16, 2, true, .pair (.agg R28) (.int .i64), .tup (.pair (.agg R28) .bool), [], false⟩
  | 17 => ⟨17, 1, true, .agg R28, .tup (.pair (.agg (.pair (.int .i64) (.pair (.int .i64) (.pair (.sl 2 .str) R26)))) .bool), [], false⟩
  | 18 => ⟨18, 2, true, .pair (.sl 0 .str) (.sl 0 .str), .bool, [], false⟩
  | 19 => ⟨19, 2, true, .pair (.sl 0 .str) .str, .int .i64, [], false⟩
  | 20 => ⟨20, 0, false, .unit, .pair (.ptr 0 0) (.agg (.pair (.pair (.int .i64) (.pair (.int .i64) (.pair (.int .i64) (.pair (.pair (.int .i64) (.pair (.int .i64) (.pair (.sl 2 .str) R26))) R49)))) (.pair (.pair (.int .i64) (.pair (.int .i64) (.pair (.int .i64) (.pair (.pair (.int .i64) (.pair (.int .i64) (.pair (.sl 2 .str) R26))) R49)))) (.pair (.sl 2 R58) (.pair R26 (.pair R26 .bool)))))), [], false⟩
  | 22 => ⟨22, 0, true, .unit, .bool, [], false⟩
  | 24 => ⟨24, 2, false, .pair (.ptr 0 0) (.pair (.int .i64) (.pair (.agg (.pair (.pair (.int .i64) (.pair (.int .i64) (.pair (.int .i64) (.pair (.pair (.int .i64) (.pair (.int .i64) (.pair (.sl 2 .str) R26))) R49)))) (.pair (.pair (.int .i64) (.pair (.int .i64) (.pair (.int .i64) (.pair (.pair (.int .i64) (.pair (.int .i64) (.pair (.sl 2 .str) R26))) R49)))) (.pair (.sl 2 R58) (.pair R26 (.pair R26 .bool)))))) (.agg R26))), .pair (.tup .unit) (.pair (.agg (.pair (.pair (.int .i64) (.pair (.int .i64) (.pair (.int .i64) (.pair R28 R49)))) (.pair (.pair (.int .i64) (.pair (.int .i64) (.pair (.int .i64) (.pair R28 R49)))) (.pair (.sl 2 R58) (.pair R26 (.pair R26 .bool)))))) (.agg R26)), [0, 1], false⟩
  | 25 => ⟨25, 3, true, R49, .agg (.pair (.int .i64) (.pair (.int .i64) (.pair (.int .i64) (.pair (.pair (.int .i64) (.pair (.int .i64) (.pair (.sl 2 .str) R26))) R49)))), [], false⟩
  | 26 => ⟨26, 3, true, .pair (.agg R51) (.pair (.int .i64) .str), .tup (.pair (.agg (.pair (.int .i64) (.pair (.int .i64) (.pair (.int .i64) (.pair R28 R49))))) (.pair (.sl 2 R58) (.int .i64))), [], false⟩
  | 27 => ⟨27, 2, true, .pair (.agg R51) (.agg R58), .tup (.pair (.agg (.pair (.int .i64) (.pair (.int .i64) (.pair (.int .i64) (.pair R28 R49))))) (.pair .str (.pair .bool (.sl 0 R58)))), [], false⟩
  | 28 => ⟨28, 1, true, .agg R51, .tup (.pair (.agg (.pair (.int .i64) (.pair (.int .i64) (.pair (.int .i64) (.pair R28 R49))))) (.sl 2 R58)), [], false⟩
  | 29 => ⟨29, 3, true, .pair (.sl 0 .str) R26, .bool, [], false⟩
  | 30 => ⟨30, 1, true, .agg R74, .agg (.pair (.int .i64) (.pair (.int .i64) (.pair (.int .i64) (.pair (.pair (.int .i64) (.pair (.int .i64) (.pair (.sl 2 .str) R26))) R49)))), [], false⟩
  | 31 => ⟨31, 3, true, .pair (.agg R74) (.pair (.int .i64) .str), .tup (.pair (.agg (.pair (.int .i64) (.pair (.int .i64) (.pair (.int .i64) (.pair R28 R49))))) (.pair (.sl 2 R58) (.int .i64))), [], false⟩
  | 32 => ⟨32, 2, true, .pair (.agg R51) (.agg R74), .bool, [], false⟩
  | 33 => ⟨33, 2, true, .pair (.sl 0 R58) (.sl 0 R75), .bool, [], false⟩
  | 34 => ⟨34, 1, true, .agg R74, .tup (.pair (.agg (.pair (.int .i64) (.pair (.int .i64) (.pair (.int .i64) (.pair R28 R49))))) (.sl 2 R58)), [], false⟩
  | 35 => ⟨35, 2, true, .pair (.agg R51) (.agg R51), .bool, [], false⟩
  | 36 => ⟨36, 1, true, .agg R75, .agg R58, [], false⟩
  | 37 => ⟨37, 2, true, .pair (.agg R74) (.agg R75), .agg (.pair (.pair (.int .i64) (.pair (.int .i64) (.pair (.int .i64) (.pair R28 R49)))) (.pair .str (.pair .bool (.sl 2 R58)))), [], false⟩
  | 38 => ⟨38, 3, true, R49, .agg (.pair (.int .i64) (.pair (.int .i64) (.pair (.int .i64) (.pair (.pair (.int .i64) (.pair (.int .i64) (.pair (.sl 2 .str) R26))) R49)))), [], false⟩
  | 62 => ⟨62, 1, true, .agg R75, .bool, [], false⟩
  | 64 => ⟨64, 1, true, .agg R28, .str, [], false⟩
  | 65 => ⟨65, 0, true, .unit, .agg R26, [], false⟩
  | 66 => ⟨66, 1, true, .agg R28, .agg (.pair (.int .i64) (.pair (.int .i64) (.pair (.sl 2 .str) R26))), [], false⟩
  | 67 => ⟨67, 2, false, .pair (.sl 0 .str) (.pair (.fn 68 .unit (.ptr 2 0)) (.pair (.agg (.pair (.int .i64) (.pair (.int .i64) (.pair (.sl 2 .str) R26)))) (.pair (.agg (.pair (.int .i64) (.pair (.int .i64) (.pair (.sl 1 .str) R26)))) (.agg .str)))), .pair .bool (.pair (.agg (.pair (.int .i64) (.pair (.int .i64) (.pair (.sl 2 .str) R26)))) (.pair (.agg (.pair (.int .i64) (.pair (.int .i64) (.pair (.sl 1 .str) R26)))) (.agg .str))), [0, 1, 2], false⟩
  | 68 => ⟨68, 2, false, .pair .str (.pair (.ptr 2 0) (.pair (.agg (.pair (.int .i64) (.pair (.int .i64) (.pair (.sl 2 .str) R26)))) (.pair (.agg (.pair (.int .i64) (.pair (.int .i64) (.pair (.sl 1 .str) R26)))) (.agg .str)))), .pair .bool (.pair (.agg (.pair (.int .i64) (.pair (.int .i64) (.pair (.sl 2 .str) R26)))) (.pair (.agg (.pair (.int .i64) (.pair (.int .i64) (.pair (.sl 1 .str) R26)))) (.agg .str))), [0, 1, 2], false⟩
  | 69 => ⟨69, 1, true, .agg R26, .agg R26, [], false⟩
  | 70 => ⟨70, 1, true, .sl 0 .str, .sl 2 .str, [], false⟩
  | 71 => ⟨71, 1, true, .agg R26, .agg R26, [], false⟩
  | 72 => ⟨72, 1, true, .agg R28, .tup (.pair (.agg R28) .bool), [], false⟩
  | 73 => ⟨73, 1, true, .agg R26, .tup (.pair (.agg R26) .bool), [], false⟩
  | 74 => ⟨74, 2, false, .pair (.ptr 0 0) (.pair (.int .i64) (.pair (.agg (.pair (.pair (.int .i64) (.pair (.int .i64) (.pair (.int .i64) (.pair (.pair (.int .i64) (.pair (.int .i64) (.pair (.sl 2 .str) R26))) R49)))) (.pair (.pair (.int .i64) (.pair (.int .i64) (.pair (.int .i64) (.pair (.pair (.int .i64) (.pair (.int .i64) (.pair (.sl 2 .str) R26))) R49)))) (.pair (.sl 2 R58) (.pair R26 (.pair R26 .bool)))))) (.agg R26))), .pair (.tup .unit) (.pair (.agg (.pair (.pair (.int .i64) (.pair (.int .i64) (.pair (.int .i64) (.pair R28 R49)))) (.pair (.pair (.int .i64) (.pair (.int .i64) (.pair (.int .i64) (.pair R28 R49)))) (.pair (.sl 2 R58) (.pair R26 (.pair R26 .bool)))))) (.agg R26)), [0, 1], false⟩
  | 75 => ⟨75, 1, true, .int .i64, .str, [], false⟩
  | 76 => ⟨76, 1, true, .int .i64, .agg R49, [], false⟩
  | 77 => ⟨77, 2, true, .pair (.agg R51) .bool, .sl 2 R58, [], false⟩
  | 78 => ⟨78, 1, true, .agg R58, .bool, [], false⟩
  | 79 => ⟨79, 2, true, .pair (.agg R51) (.int .i64), .tup (.pair (.agg (.pair (.int .i64) (.pair (.int .i64) (.pair (.int .i64) (.pair R28 R49))))) (.sl 2 R58)), [], false⟩
  | 80 => ⟨80, 4, true, .pair (.agg R49) R49, .tup (.pair (.agg R49) (.int .i64)), [], false⟩
  | 81 => ⟨81, 4, true, .pair (.agg R51) (.pair (.int .i64) (.pair (.agg R58) (.int .i64))), .agg R58, [], false⟩
  | 82 => ⟨82, 1, true, .agg R71, .agg (.pair (.int .i64) (.pair (.int .i64) (.pair (.sl 2 .str) R26))), [], false⟩
  | 83 => ⟨83, 3, true, .pair (.agg R71) (.pair (.int .i64) .str), .tup (.pair (.agg R28) (.pair .bool (.int .i64))), [], false⟩
  | 84 => ⟨84, 2, true, .pair (.agg R74) .bool, .sl 2 R58, [], false⟩
  | 85 => ⟨85, 2, true, .pair (.agg R28) (.agg R71), .bool, [], false⟩
  | 86 => ⟨86, 1, true, .agg R71, .tup (.pair (.agg R28) .bool), [], false⟩
  | 87 => ⟨87, 2, true, .pair (.agg R28) (.agg R28), .bool, [], false⟩
  | 88 => ⟨88, 2, true, .pair (.agg R74) (.int .i64), .tup (.pair (.agg (.pair (.int .i64) (.pair (.int .i64) (.pair (.int .i64) (.pair R28 R49))))) (.sl 2 R58)), [], false⟩
  | 89 => ⟨89, 3, true, .pair (.agg R71) R26, .tup (.pair (.agg R28) .bool), [], false⟩
  | 90 => ⟨90, 4, true, .pair (.agg R72) R49, .tup (.pair (.agg R49) (.int .i64)), [], false⟩
  | 91 => ⟨91, 0, true, .unit, .agg (.pair (.int .i64) (.pair (.int .i64) (.pair (.sl 2 .str) R26))), [], false⟩
  | 126 => ⟨126, 2, true, .pair .bool (.int .i64), .bool, [], false⟩
  | 128 => ⟨128, 2, false, .pair (.sl 0 .str) (.pair (.fn 68 .unit (.ptr 2 0)) (.pair (.agg (.pair (.int .i64) (.pair (.int .i64) (.pair (.sl 2 .str) R26)))) (.pair (.agg (.pair (.int .i64) (.pair (.int .i64) (.pair (.sl 1 .str) R26)))) (.agg .str)))), .pair (.int .i64) (.pair (.agg (.pair (.int .i64) (.pair (.int .i64) (.pair (.sl 2 .str) R26)))) (.pair (.agg (.pair (.int .i64) (.pair (.int .i64) (.pair (.sl 1 .str) R26)))) (.agg .str))), [0, 1, 2], false⟩
  | 129 => ⟨129, 1, true, .agg R26, .agg R26, [], false⟩
  | 130 => ⟨130, 1, true, .int .i64, .str, [], false⟩
  | 131 => ⟨131, 1, true, .int .i64, .bool, [], false⟩
  | 132 => ⟨132, 1, true, .agg R58, .agg R58, [], false⟩
  | 133 => ⟨133, 1, true, .int .i64, .bool, [], false⟩
  | 134 => ⟨134, 2, true, .pair .bool (.int .i64), .bool, [], false⟩
  | 135 => ⟨135, 1, true, .int .i64, .bool, [], false⟩
  | 136 => ⟨136, 1, true, .int .i64, .bool, [], false⟩
  | 137 => ⟨137, 2, true, .pair (.agg R49) (.int .i64), .agg R49, [], false⟩
  | 138 => ⟨138, 2, true, .pair (.agg R71) (.agg R71), .bool, [], false⟩
  | 139 => ⟨139, 1, true, .agg R69, .tup (.pair (.agg R26) .bool), [], false⟩
  | 140 => ⟨140, 2, true, .pair (.sl 0 .str) (.sl 0 .str), .bool, [], false⟩
  | 141 => ⟨141, 2, true, .pair (.agg R71) (.int .i64), .tup (.pair (.agg R28) .bool), [], false⟩
  | 142 => ⟨142, 2, true, .pair (.agg R72) (.int .i64), .agg R49, [], false⟩
  | 170 => ⟨170, 1, true, .agg R26, .bool, [], false⟩
  | 171 => ⟨171, 1, true, .agg R69, .bool, [], false⟩
  | 172 => ⟨172, 2, false, .pair (.int .i64) (.pair (.fn 173 .unit (.pair (.ptr 0 0) (.ptr 1 0))) (.pair (.agg (.sl 0 .str)) (.agg (.sl 0 .str)))), .pair (.int .i64) (.pair (.agg (.sl 0 .str)) (.agg (.sl 0 .str))), [0, 1], false⟩
  | 173 => ⟨173, 3, false, .pair (.int .i64) (.pair (.ptr 0 0) (.pair (.ptr 1 0) (.pair (.agg (.sl 0 .str)) (.agg (.sl 0 .str))))), .pair .bool (.pair (.agg (.sl 0 .str)) (.agg (.sl 0 .str))), [0, 1], false⟩
  | _ => ⟨1000000, 0, true, .unit, .unit, [], false⟩

noncomputable def fnA : Nat → Func
  | 7 => Try.f7
  | 13 => Try.f13
  | 14 => Try.f14
  | 15 => Try.f15
  | 16 => Try.f16
  | 17 => Try.f17
  | 18 => Try.f18
  | 19 => Try.f19
  | 20 => Try.f20
  | 22 => Try.f22
  | 24 => Try.f24
  | 25 => Try.f25
  | 26 => Try.f26
  | 27 => Try.f27
  | 28 => Try.f28
  | 29 => Try.f29
  | 30 => Try.f30
  | 31 => Try.f31
  | 32 => Try.f32
  | 33 => Try.f33
  | 34 => Try.f34
  | 35 => Try.f35
  | 36 => Try.f36
  | 37 => Try.f37
  | 38 => Try.f38
  | 62 => Try.f62
  | 64 => Try.f64
  | 65 => Try.f65
  | 66 => Try.f66
  | 67 => Try.f67
  | 68 => Try.f68
  | 69 => Try.f69
  | 70 => Try.f70
  | 71 => Try.f71
  | 72 => Try.f72
  | 73 => Try.f73
  | 74 => Try.f74
  | 75 => Try.f75
  | 76 => Try.f76
  | 77 => Try.f77
  | 78 => Try.f78
  | 79 => Try.f79
  | 80 => Try.f80
  | 81 => Try.f81
  | 82 => Try.f82
  | 83 => Try.f83
  | 84 => Try.f84
  | 85 => Try.f85
  | 86 => Try.f86
  | 87 => Try.f87
  | 88 => Try.f88
  | 89 => Try.f89
  | 90 => Try.f90
  | 91 => Try.f91
  | 126 => Try.f126
  | 128 => Try.f128
  | 129 => Try.f129
  | 130 => Try.f130
  | 131 => Try.f131
  | 132 => Try.f132
  | 133 => Try.f133
  | 134 => Try.f134
  | 135 => Try.f135
  | 136 => Try.f136
  | 137 => Try.f137
  | 138 => Try.f138
  | 139 => Try.f139
  | 140 => Try.f140
  | 141 => Try.f141
  | 142 => Try.f142
  | 170 => Try.f170
  | 171 => Try.f171
  | 172 => Try.f172
  | 173 => Try.f173
  | _ => Try.f0

@[reducible] def q65 (C : TyC sigA) (x : Unit) : Option (Int × Int) := C 65 x
@[reducible] def q13 (C : TyC sigA) (x : Unit) : Option (Int × Int × (List ByteArray) × Int × Int) := C 13 x
@[reducible] def q76 (C : TyC sigA) (x : Int) : Option (Int × Int × Int) := C 76 x
@[reducible] def q25 (C : TyC sigA) (x : Int × Int × Int) : Option (Int × Int × Int × (Int × Int × (List ByteArray) × Int × Int) × Int × Int × Int) := C 25 x
@[reducible] def q70 (C : TyC sigA) (x : List ByteArray) : Option (List ByteArray) := C 70 x
@[reducible] def q66 (C : TyC sigA) (x : Int × Int × (List ByteArray) × Int × Int) : Option (Int × Int × (List ByteArray) × Int × Int) := C 66 x
@[reducible] def q71 (C : TyC sigA) (x : Int × Int) : Option (Int × Int) := C 71 x
@[reducible] def q69 (C : TyC sigA) (x : Int × Int) : Option (Int × Int) := C 69 x
@[reducible] def q72 (C : TyC sigA) (x : Int × Int × (List ByteArray) × Int × Int) : Option ((Int × Int × (List ByteArray) × Int × Int) × Bool) := C 72 x
@[reducible] def q15 (C : TyC sigA) (x : (Int × Int × (List ByteArray) × Int × Int) × Int × Int) : Option ((Int × Int × (List ByteArray) × Int × Int) × Bool) := C 15 x
@[reducible] def q64 (C : TyC sigA) (x : Int × Int × (List ByteArray) × Int × Int) : Option (ByteArray) := C 64 x
@[reducible] def q77 (C : TyC sigA) (x : (Int × Int × Int × (Int × Int × (List ByteArray) × Int × Int) × Int × Int × Int) × Bool) : Option (List (Int × Int × Int × Int × Int × Int × ByteArray)) := C 77 x
@[reducible] def q16 (C : TyC sigA) (x : (Int × Int × (List ByteArray) × Int × Int) × Int) : Option ((Int × Int × (List ByteArray) × Int × Int) × Bool) := C 16 x
@[reducible] def q137 (C : TyC sigA) (x : (Int × Int × Int) × Int) : Option (Int × Int × Int) := C 137 x
@[reducible] def q79 (C : TyC sigA) (x : (Int × Int × Int × (Int × Int × (List ByteArray) × Int × Int) × Int × Int × Int) × Int) : Option ((Int × Int × Int × (Int × Int × (List ByteArray) × Int × Int) × Int × Int × Int) × (List (Int × Int × Int × Int × Int × Int × ByteArray))) := C 79 x
@[reducible] def q170 (C : TyC sigA) (x : Int × Int) : Option (Bool) := C 170 x
@[reducible] def q129 (C : TyC sigA) (x : Int × Int) : Option (Int × Int) := C 129 x
@[reducible] def q73 (C : TyC sigA) (x : Int × Int) : Option ((Int × Int) × Bool) := C 73 x
@[reducible] def q17 (C : TyC sigA) (x : Int × Int × (List ByteArray) × Int × Int) : Option ((Int × Int × (List ByteArray) × Int × Int) × Bool) := C 17 x
@[reducible] def q28 (C : TyC sigA) (x : Int × Int × Int × (Int × Int × (List ByteArray) × Int × Int) × Int × Int × Int) : Option ((Int × Int × Int × (Int × Int × (List ByteArray) × Int × Int) × Int × Int × Int) × (List (Int × Int × Int × Int × Int × Int × ByteArray))) := C 28 x
@[reducible] def q131 (C : TyC sigA) (x : Int) : Option (Bool) := C 131 x
@[reducible] def q133 (C : TyC sigA) (x : Int) : Option (Bool) := C 133 x
@[reducible] def q135 (C : TyC sigA) (x : Int) : Option (Bool) := C 135 x
@[reducible] def q136 (C : TyC sigA) (x : Int) : Option (Bool) := C 136 x
@[reducible] def q132 (C : TyC sigA) (x : Int × Int × Int × Int × Int × Int × ByteArray) : Option (Int × Int × Int × Int × Int × Int × ByteArray) := C 132 x
@[reducible] def q134 (C : TyC sigA) (x : Bool × Int) : Option (Bool) := C 134 x
@[reducible] def q78 (C : TyC sigA) (x : Int × Int × Int × Int × Int × Int × ByteArray) : Option (Bool) := C 78 x
@[reducible] def q80 (C : TyC sigA) (x : (Int × Int × Int) × Int × Int × Int) : Option ((Int × Int × Int) × Int) := C 80 x
@[reducible] def q81 (C : TyC sigA) (x : (Int × Int × Int × (Int × Int × (List ByteArray) × Int × Int) × Int × Int × Int) × Int × (Int × Int × Int × Int × Int × Int × ByteArray) × Int) : Option (Int × Int × Int × Int × Int × Int × ByteArray) := C 81 x
@[reducible] def q130 (C : TyC sigA) (x : Int) : Option (ByteArray) := C 130 x
@[reducible] def q27 (C : TyC sigA) (x : (Int × Int × Int × (Int × Int × (List ByteArray) × Int × Int) × Int × Int × Int) × Int × Int × Int × Int × Int × Int × ByteArray) : Option ((Int × Int × Int × (Int × Int × (List ByteArray) × Int × Int) × Int × Int × Int) × ByteArray × Bool × (List (Int × Int × Int × Int × Int × Int × ByteArray))) := C 27 x
@[reducible] def q20 (C : TyC sigA) (x : Unit) : Option (Unit × (Int × Int × Int × (Int × Int × (List ByteArray) × Int × Int) × Int × Int × Int) × (Int × Int × Int × (Int × Int × (List ByteArray) × Int × Int) × Int × Int × Int) × (List (Int × Int × Int × Int × Int × Int × ByteArray)) × (Int × Int) × (Int × Int) × Bool) := C 20 x
@[reducible] def q75 (C : TyC sigA) (x : Int) : Option (ByteArray) := C 75 x
@[reducible] def q68 (C : TyC sigA) (x : ByteArray × Unit × (Int × Int × (List ByteArray) × Int × Int) × (Int × Int × (List ByteArray) × Int × Int) × ByteArray) : Option (Bool × (Int × Int × (List ByteArray) × Int × Int) × (Int × Int × (List ByteArray) × Int × Int) × ByteArray) := C 68 x
@[reducible] def q128 (C : TyC sigA) (x : (List ByteArray) × (Unit × Unit) × (Int × Int × (List ByteArray) × Int × Int) × (Int × Int × (List ByteArray) × Int × Int) × ByteArray) : Option (Int × (Int × Int × (List ByteArray) × Int × Int) × (Int × Int × (List ByteArray) × Int × Int) × ByteArray) := C 128 x
@[reducible] def q67 (C : TyC sigA) (x : (List ByteArray) × (Unit × Unit) × (Int × Int × (List ByteArray) × Int × Int) × (Int × Int × (List ByteArray) × Int × Int) × ByteArray) : Option (Bool × (Int × Int × (List ByteArray) × Int × Int) × (Int × Int × (List ByteArray) × Int × Int) × ByteArray) := C 67 x
@[reducible] def q14 (C : TyC sigA) (x : (Int × Int × (List ByteArray) × Int × Int) × Int × ByteArray) : Option ((Int × Int × (List ByteArray) × Int × Int) × Bool × Int) := C 14 x
@[reducible] def q26 (C : TyC sigA) (x : (Int × Int × Int × (Int × Int × (List ByteArray) × Int × Int) × Int × Int × Int) × Int × ByteArray) : Option ((Int × Int × Int × (Int × Int × (List ByteArray) × Int × Int) × Int × Int × Int) × (List (Int × Int × Int × Int × Int × Int × ByteArray)) × Int) := C 26 x
@[reducible] def q29 (C : TyC sigA) (x : (List ByteArray) × Int × Int) : Option (Bool) := C 29 x
@[reducible] def q22 (C : TyC sigA) (x : Unit) : Option (Bool) := C 22 x
@[reducible] def q82 (C : TyC sigA) (x : Int × Int × (List ByteArray) × Int × Int) : Option (Int × Int × (List ByteArray) × Int × Int) := C 82 x
@[reducible] def q30 (C : TyC sigA) (x : Int × Int × Int × (Int × Int × (List ByteArray) × Int × Int) × Int × Int × Int) : Option (Int × Int × Int × (Int × Int × (List ByteArray) × Int × Int) × Int × Int × Int) := C 30 x
@[reducible] def q19 (C : TyC sigA) (x : (List ByteArray) × ByteArray) : Option (Int) := C 19 x
@[reducible] def q83 (C : TyC sigA) (x : (Int × Int × (List ByteArray) × Int × Int) × Int × ByteArray) : Option ((Int × Int × (List ByteArray) × Int × Int) × Bool × Int) := C 83 x
@[reducible] def q84 (C : TyC sigA) (x : (Int × Int × Int × (Int × Int × (List ByteArray) × Int × Int) × Int × Int × Int) × Bool) : Option (List (Int × Int × Int × Int × Int × Int × ByteArray)) := C 84 x
@[reducible] def q31 (C : TyC sigA) (x : (Int × Int × Int × (Int × Int × (List ByteArray) × Int × Int) × Int × Int × Int) × Int × ByteArray) : Option ((Int × Int × Int × (Int × Int × (List ByteArray) × Int × Int) × Int × Int × Int) × (List (Int × Int × Int × Int × Int × Int × ByteArray)) × Int) := C 31 x
@[reducible] def q18 (C : TyC sigA) (x : (List ByteArray) × (List ByteArray)) : Option (Bool) := C 18 x
@[reducible] def q138 (C : TyC sigA) (x : (Int × Int × (List ByteArray) × Int × Int) × Int × Int × (List ByteArray) × Int × Int) : Option (Bool) := C 138 x
@[reducible] def q85 (C : TyC sigA) (x : (Int × Int × (List ByteArray) × Int × Int) × Int × Int × (List ByteArray) × Int × Int) : Option (Bool) := C 85 x
@[reducible] def q32 (C : TyC sigA) (x : (Int × Int × Int × (Int × Int × (List ByteArray) × Int × Int) × Int × Int × Int) × Int × Int × Int × (Int × Int × (List ByteArray) × Int × Int) × Int × Int × Int) : Option (Bool) := C 32 x
@[reducible] def q36 (C : TyC sigA) (x : Int × Int × Int × Int × Int × Int × ByteArray) : Option (Int × Int × Int × Int × Int × Int × ByteArray) := C 36 x
@[reducible] def q33 (C : TyC sigA) (x : (List (Int × Int × Int × Int × Int × Int × ByteArray)) × (List (Int × Int × Int × Int × Int × Int × ByteArray))) : Option (Bool) := C 33 x
@[reducible] def q171 (C : TyC sigA) (x : Int × Int) : Option (Bool) := C 171 x
@[reducible] def q139 (C : TyC sigA) (x : Int × Int) : Option ((Int × Int) × Bool) := C 139 x
@[reducible] def q86 (C : TyC sigA) (x : Int × Int × (List ByteArray) × Int × Int) : Option ((Int × Int × (List ByteArray) × Int × Int) × Bool) := C 86 x
@[reducible] def q34 (C : TyC sigA) (x : Int × Int × Int × (Int × Int × (List ByteArray) × Int × Int) × Int × Int × Int) : Option ((Int × Int × Int × (Int × Int × (List ByteArray) × Int × Int) × Int × Int × Int) × (List (Int × Int × Int × Int × Int × Int × ByteArray))) := C 34 x
@[reducible] def q173 (C : TyC sigA) (x : Int × Unit × Unit × (List ByteArray) × (List ByteArray)) : Option (Bool × (List ByteArray) × (List ByteArray)) := C 173 x
@[reducible] def q172 (C : TyC sigA) (x : Int × (Unit × Unit × Unit) × (List ByteArray) × (List ByteArray)) : Option (Int × (List ByteArray) × (List ByteArray)) := C 172 x
@[reducible] def q140 (C : TyC sigA) (x : (List ByteArray) × (List ByteArray)) : Option (Bool) := C 140 x
@[reducible] def q87 (C : TyC sigA) (x : (Int × Int × (List ByteArray) × Int × Int) × Int × Int × (List ByteArray) × Int × Int) : Option (Bool) := C 87 x
@[reducible] def q35 (C : TyC sigA) (x : (Int × Int × Int × (Int × Int × (List ByteArray) × Int × Int) × Int × Int × Int) × Int × Int × Int × (Int × Int × (List ByteArray) × Int × Int) × Int × Int × Int) : Option (Bool) := C 35 x
@[reducible] def q74 (C : TyC sigA) (x : Unit × Int × ((Int × Int × Int × (Int × Int × (List ByteArray) × Int × Int) × Int × Int × Int) × (Int × Int × Int × (Int × Int × (List ByteArray) × Int × Int) × Int × Int × Int) × (List (Int × Int × Int × Int × Int × Int × ByteArray)) × (Int × Int) × (Int × Int) × Bool) × Int × Int) : Option (Unit × ((Int × Int × Int × (Int × Int × (List ByteArray) × Int × Int) × Int × Int × Int) × (Int × Int × Int × (Int × Int × (List ByteArray) × Int × Int) × Int × Int × Int) × (List (Int × Int × Int × Int × Int × Int × ByteArray)) × (Int × Int) × (Int × Int) × Bool) × Int × Int) := C 74 x
@[reducible] def q24 (C : TyC sigA) (x : Unit × Int × ((Int × Int × Int × (Int × Int × (List ByteArray) × Int × Int) × Int × Int × Int) × (Int × Int × Int × (Int × Int × (List ByteArray) × Int × Int) × Int × Int × Int) × (List (Int × Int × Int × Int × Int × Int × ByteArray)) × (Int × Int) × (Int × Int) × Bool) × Int × Int) : Option (Unit × ((Int × Int × Int × (Int × Int × (List ByteArray) × Int × Int) × Int × Int × Int) × (Int × Int × Int × (Int × Int × (List ByteArray) × Int × Int) × Int × Int × Int) × (List (Int × Int × Int × Int × Int × Int × ByteArray)) × (Int × Int) × (Int × Int) × Bool) × Int × Int) := C 24 x
@[reducible] def q126 (C : TyC sigA) (x : Bool × Int) : Option (Bool) := C 126 x
@[reducible] def q62 (C : TyC sigA) (x : Int × Int × Int × Int × Int × Int × ByteArray) : Option (Bool) := C 62 x
@[reducible] def q141 (C : TyC sigA) (x : (Int × Int × (List ByteArray) × Int × Int) × Int) : Option ((Int × Int × (List ByteArray) × Int × Int) × Bool) := C 141 x
@[reducible] def q142 (C : TyC sigA) (x : (Int × Int × Int) × Int) : Option (Int × Int × Int) := C 142 x
@[reducible] def q88 (C : TyC sigA) (x : (Int × Int × Int × (Int × Int × (List ByteArray) × Int × Int) × Int × Int × Int) × Int) : Option ((Int × Int × Int × (Int × Int × (List ByteArray) × Int × Int) × Int × Int × Int) × (List (Int × Int × Int × Int × Int × Int × ByteArray))) := C 88 x
@[reducible] def q89 (C : TyC sigA) (x : (Int × Int × (List ByteArray) × Int × Int) × Int × Int) : Option ((Int × Int × (List ByteArray) × Int × Int) × Bool) := C 89 x
@[reducible] def q90 (C : TyC sigA) (x : (Int × Int × Int) × Int × Int × Int) : Option ((Int × Int × Int) × Int) := C 90 x
@[reducible] def q37 (C : TyC sigA) (x : (Int × Int × Int × (Int × Int × (List ByteArray) × Int × Int) × Int × Int × Int) × Int × Int × Int × Int × Int × Int × ByteArray) : Option ((Int × Int × Int × (Int × Int × (List ByteArray) × Int × Int) × Int × Int × Int) × ByteArray × Bool × (List (Int × Int × Int × Int × Int × Int × ByteArray))) := C 37 x
@[reducible] def q91 (C : TyC sigA) (x : Unit) : Option (Int × Int × (List ByteArray) × Int × Int) := C 91 x
@[reducible] def q38 (C : TyC sigA) (x : Int × Int × Int) : Option (Int × Int × Int × (Int × Int × (List ByteArray) × Int × Int) × Int × Int × Int) := C 38 x
@[reducible] def q7 (C : TyC sigA) (x : (Int × Int × Int × (Int × Int × (List ByteArray) × Int × Int) × Int × Int × Int) × (Int × Int × Int × Int × Int × Int × ByteArray) × ByteArray) : Option (Bool) := C 7 x

theorem fnA_ok (j : Nat) (c : Code) : (fnA j).body = some c → Try.prog.funcs[(sigA j).g]? = some (fnA j) ∧ (fnA j).name ≠ "runtime.NumGoroutine" := by
  unfold fnA
  split
  · exact fun _ => ⟨Try.func7, by decide⟩
  · exact fun _ => ⟨Try.func13, by decide⟩
  · exact fun _ => ⟨Try.func14, by decide⟩
  · exact fun _ => ⟨Try.func15, by decide⟩
  · exact fun _ => ⟨Try.func16, by decide⟩
  · exact fun _ => ⟨Try.func17, by decide⟩
  · exact fun _ => ⟨Try.func18, by decide⟩
  · exact fun _ => ⟨Try.func19, by decide⟩
  · exact fun _ => ⟨Try.func20, by decide⟩
  · exact fun _ => ⟨Try.func22, by decide⟩
  · exact fun _ => ⟨Try.func24, by decide⟩
  · exact fun _ => ⟨Try.func25, by decide⟩
  · exact fun _ => ⟨Try.func26, by decide⟩
  · exact fun _ => ⟨Try.func27, by decide⟩
  · exact fun _ => ⟨Try.func28, by decide⟩
  · exact fun _ => ⟨Try.func29, by decide⟩
  · exact fun _ => ⟨Try.func30, by decide⟩
  · exact fun _ => ⟨Try.func31, by decide⟩
  · exact fun _ => ⟨Try.func32, by decide⟩
  · exact fun _ => ⟨Try.func33, by decide⟩
  · exact fun _ => ⟨Try.func34, by decide⟩
  · exact fun _ => ⟨Try.func35, by decide⟩
  · exact fun _ => ⟨Try.func36, by decide⟩
  · exact fun _ => ⟨Try.func37, by decide⟩
  · exact fun _ => ⟨Try.func38, by decide⟩
  · exact fun _ => ⟨Try.func62, by decide⟩
  · exact fun _ => ⟨Try.func64, by decide⟩
  · exact fun _ => ⟨Try.func65, by decide⟩
  · exact fun _ => ⟨Try.func66, by decide⟩
  · exact fun _ => ⟨Try.func67, by decide⟩
  · exact fun _ => ⟨Try.func68, by decide⟩
  · exact fun _ => ⟨Try.func69, by decide⟩
  · exact fun _ => ⟨Try.func70, by decide⟩
  · exact fun _ => ⟨Try.func71, by decide⟩
  · exact fun _ => ⟨Try.func72, by decide⟩
  · exact fun _ => ⟨Try.func73, by decide⟩
  · exact fun _ => ⟨Try.func74, by decide⟩
  · exact fun _ => ⟨Try.func75, by decide⟩
  · exact fun _ => ⟨Try.func76, by decide⟩
  · exact fun _ => ⟨Try.func77, by decide⟩
  · exact fun _ => ⟨Try.func78, by decide⟩
  · exact fun _ => ⟨Try.func79, by decide⟩
  · exact fun _ => ⟨Try.func80, by decide⟩
  · exact fun _ => ⟨Try.func81, by decide⟩
  · exact fun _ => ⟨Try.func82, by decide⟩
  · exact fun _ => ⟨Try.func83, by decide⟩
  · exact fun _ => ⟨Try.func84, by decide⟩
  · exact fun _ => ⟨Try.func85, by decide⟩
  · exact fun _ => ⟨Try.func86, by decide⟩
  · exact fun _ => ⟨Try.func87, by decide⟩
  · exact fun _ => ⟨Try.func88, by decide⟩
  · exact fun _ => ⟨Try.func89, by decide⟩
  · exact fun _ => ⟨Try.func90, by decide⟩
  · exact fun _ => ⟨Try.func91, by decide⟩
  · exact fun _ => ⟨Try.func126, by decide⟩
  · exact fun _ => ⟨Try.func128, by decide⟩
  · exact fun _ => ⟨Try.func129, by decide⟩
  · exact fun _ => ⟨Try.func130, by decide⟩
  · exact fun _ => ⟨Try.func131, by decide⟩
  · exact fun _ => ⟨Try.func132, by decide⟩
  · exact fun _ => ⟨Try.func133, by decide⟩
  · exact fun _ => ⟨Try.func134, by decide⟩
  · exact fun _ => ⟨Try.func135, by decide⟩
  · exact fun _ => ⟨Try.func136, by decide⟩
  · exact fun _ => ⟨Try.func137, by decide⟩
  · exact fun _ => ⟨Try.func138, by decide⟩
  · exact fun _ => ⟨Try.func139, by decide⟩
  · exact fun _ => ⟨Try.func140, by decide⟩
  · exact fun _ => ⟨Try.func141, by decide⟩
  · exact fun _ => ⟨Try.func142, by decide⟩
  · exact fun _ => ⟨Try.func170, by decide⟩
  · exact fun _ => ⟨Try.func171, by decide⟩
  · exact fun _ => ⟨Try.func172, by decide⟩
  · exact fun _ => ⟨Try.func173, by decide⟩
  · intro h; cases h

end Go.PI
