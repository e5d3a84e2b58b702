/- The functions of packages pace and sent. -/
import Derived.Test.YtoaadbakbfphgaaKc
import Derived.Test.YtoaadbakbfphgaaLa
namespace Go.PI
open Go Go.Proofs
set_option maxRecDepth 20000
set_option linter.unusedSimpArgs false
set_option maxHeartbeats 1000000

theorem callA_eq {k f : Nat} {fn : Func} {c : Code} {args : List D} {bx : List (List D)} (h : Try.prog.funcs[f]? = some fn) (hb : fn.body = some c) (hn : fn.name ≠ "runtime.NumGoroutine") (ho : openC polA f c = true) :
    callA (k + 1) f args bx = endC tiA bx.length fn.results.toList (codeF (callA k) tiA polA f bx.length k c { tm := args ++ List.replicate (fn.ntmps - args.length) .undef, bx, ln := [], dirty := [], up := false }) :=
  callF_eq rfl h hb hn ho

theorem a70 (k : Nat) (hk : 3 ≤ k) (l : List ByteArray) (h : l.length ≤ 1000000) : callA k 70 [.sl 0 1 (strs l)] [] = some (.sl 2 1 (strs l), [], [], false) := by
  obtain ⟨k, rfl⟩ : ∃ j, k = j + 3 := ⟨k - 3, by omega⟩
  rw [callA_eq Try.func70 rfl (by decide) (by kernel_rfl)]
  cases l with
  | nil => simp [Try.f70, strs, List.range_succ, room]
  | cons a l =>
    have h1 : (l.length + 1) * 16 ≤ room := by unfold room; simp at h; omega
    simp [Try.f70, strs, List.range_succ, h1]

def paceD (w l : Int) : D := .agg [.int .i64 w, .int .i64 l]

theorem a65 (k : Nat) (hk : 1 ≤ k) : callA k 65 [] [] = some (paceD 1 0, [], [], false) := by
  obtain ⟨k, rfl⟩ : ∃ j, k = j + 1 := ⟨k - 1, by omega⟩
  rw [callA_eq Try.func65 rfl (by decide) (by kernel_rfl)]
  simp [Try.f65, paceD, List.range_succ]

theorem a69 (k : Nat) (hk : 2 ≤ k) (w l : Int) : callA k 69 [paceD w l] [] = some (paceD 1 1, [], [], false) := by
  obtain ⟨k, rfl⟩ : ∃ j, k = j + 2 := ⟨k - 2, by omega⟩
  have h := a65 (k + 1) (by omega)
  simp only [paceD] at h ⊢
  rw [callA_eq Try.func69 rfl (by decide) (by kernel_rfl)]
  simp [Try.f69, List.range_succ, h]

theorem a71 (k : Nat) (hk : 2 ≤ k) (w l : Int) : callA k 71 [paceD w l] [] = some (paceD 1 0, [], [], false) := by
  obtain ⟨k, rfl⟩ : ∃ j, k = j + 2 := ⟨k - 2, by omega⟩
  have h := a65 (k + 1) (by omega)
  simp only [paceD] at h ⊢
  rw [callA_eq Try.func71 rfl (by decide) (by kernel_rfl)]
  by_cases hw : w = 1
  · by_cases hl : l = 0
    · subst hw hl
      simp [Try.f71, List.range_succ, h]
    · have h2 : (l == 0) = false := by simp [hl]
      simp [Try.f71, List.range_succ, h, hw, hl, h2]
  · have h2 : (w == 1) = false := by simp [hw]
    simp [Try.f71, List.range_succ, h, hw, h2]

/-- Is a pace as it should be? -/
def paceOk (w l : Int) : Bool := !(w < 1 || w > 8 || l < 0 || l > w) && (bitsOf .and .i64 w (IntKind.i64.wrap (w - 1)) == 0)

theorem a170 (k : Nat) (hk : 1 ≤ k) (w l : Int) : callA k 170 [paceD w l] [] = some (.bool (paceOk w l), [], [], false) := by
  obtain ⟨k, rfl⟩ : ∃ j, k = j + 1 := ⟨k - 1, by omega⟩
  rw [callA_eq Try.func170 rfl (by decide) (by kernel_rfl)]
  by_cases h1 : w < 1
  · simp [Try.f170, paceD, List.range_succ, h1, paceOk]
  · by_cases h2 : 8 < w
    · simp [Try.f170, paceD, List.range_succ, h1, h2, paceOk]
    · by_cases h3 : l < 0
      · simp [Try.f170, paceD, List.range_succ, h1, h2, h3, paceOk]
      · by_cases h4 : w < l
        · simp [Try.f170, paceD, List.range_succ, h1, h2, h3, h4, paceOk]
        · simp [Try.f170, paceD, List.range_succ, h1, h2, h3, h4, paceOk]

def fineP (w l : Int) : Int × Int := if paceOk w l then (w, l) else (1, 0)

theorem a129 (k : Nat) (hk : 2 ≤ k) (w l : Int) : callA k 129 [paceD w l] [] = some (paceD (fineP w l).1 (fineP w l).2, [], [], false) := by
  obtain ⟨k, rfl⟩ : ∃ j, k = j + 2 := ⟨k - 2, by omega⟩
  have h := a65 (k + 1) (by omega)
  have h2 := a170 (k + 1) (by omega) w l
  simp only [paceD] at h h2 ⊢
  rw [callA_eq Try.func129 rfl (by decide) (by kernel_rfl)]
  cases hp : paceOk w l
  · rw [hp] at h2
    simp [Try.f129, List.range_succ, h, h2, fineP, hp]
  · rw [hp] at h2
    simp [Try.f129, List.range_succ, h, h2, fineP, hp]

def tickF (w l : Int) : Int × Int × Bool :=
  if l = 0 then (w, l, false)
  else if 0 < IntKind.i64.wrap (l - 1) then (w, IntKind.i64.wrap (l - 1), false)
  else
    let w' := if 8 < IntKind.i64.wrap (2 * w) then 8 else IntKind.i64.wrap (2 * w)
    (w', w', true)

def tickP (w l : Int) : Int × Int × Bool := tickF (fineP w l).1 (fineP w l).2

theorem a73 (k : Nat) (hk : 3 ≤ k) (w l : Int) : callA k 73 [paceD w l] [] = some (.tup [paceD (tickP w l).1 (tickP w l).2.1, .bool (tickP w l).2.2], [], [], false) := by
  obtain ⟨k, rfl⟩ : ∃ j, k = j + 3 := ⟨k - 3, by omega⟩
  have h := a129 (k + 2) (by omega) w l
  simp only [paceD] at h ⊢
  rw [callA_eq Try.func73 rfl (by decide) (by kernel_rfl)]
  unfold tickP
  generalize (fineP w l).1 = a at h ⊢
  generalize (fineP w l).2 = b at h ⊢
  by_cases h1 : b = 0
  · subst h1
    simp [Try.f73, List.range_succ, h, tickF]
  · have h1' : (b == 0) = false := by simp [h1]
    by_cases h2 : 0 < IntKind.i64.wrap (b - 1)
    · simp [Try.f73, List.range_succ, h, tickF, h1, h1', h2]
    · by_cases h3 : 8 < IntKind.i64.wrap (2 * a)
      · simp [Try.f73, List.range_succ, h, tickF, h1, h1', h2, h3]
      · simp [Try.f73, List.range_succ, h, tickF, h1, h1', h2, h3]

/-- An outbox. -/
def outD (f : Nat) (a b : Int) (l : List ByteArray) (c d : Int) : D := .agg [.int .i64 a, .int .i64 b, .sl f 1 (strs l), .int .i64 c, .int .i64 d]

theorem a13 (k : Nat) (hk : 2 ≤ k) : callA k 13 [] [] = some (outD 2 1 1 [] 1 0, [], [], false) := by
  obtain ⟨k, rfl⟩ : ∃ j, k = j + 2 := ⟨k - 2, by omega⟩
  have h := a65 (k + 1) (by omega)
  simp only [paceD] at h
  rw [callA_eq Try.func13 rfl (by decide) (by kernel_rfl)]
  simp [Try.f13, outD, List.range_succ, h, strs]

theorem a66 (k : Nat) (hk : 4 ≤ k) (a b c d : Int) (l : List ByteArray) (h : l.length ≤ 1000000) : callA k 66 [outD 0 a b l c d] [] = some (outD 2 a b l c d, [], [], false) := by
  obtain ⟨k, rfl⟩ : ∃ j, k = j + 4 := ⟨k - 4, by omega⟩
  have h2 := a70 (k + 3) (by omega) l h
  rw [callA_eq Try.func66 rfl (by decide) (by kernel_rfl)]
  simp [Try.f66, outD, List.range_succ, h2]

theorem a72 (k : Nat) (hk : 3 ≤ k) (a b c d : Int) (l : List ByteArray) : callA k 72 [outD 0 a b l c d] [] = some (.tup [if l = [] then outD 0 a b [] c d else outD 0 a b l 1 1, .bool (!l.isEmpty)], [], [], false) := by
  obtain ⟨k, rfl⟩ : ∃ j, k = j + 3 := ⟨k - 3, by omega⟩
  have h := a69 (k + 2) (by omega) c d
  simp only [paceD] at h
  rw [callA_eq Try.func72 rfl (by decide) (by kernel_rfl)]
  cases l with
  | nil => simp [Try.f72, outD, List.range_succ, h, strs]
  | cons t l =>
    have h1 : ((l.length : Int) + 1 == 0) = false := by simp; omega
    have h2 : ¬ ((l.length : Int) + 1 = 0) := by omega
    simp [Try.f72, outD, List.range_succ, h, h1, h2]

end Go.PI
