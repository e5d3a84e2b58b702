/- sent.Acked; looking a string up. -/
import Derived.Test.YtoaadbakbfphgaaLc
namespace Go.PI
open Go Go.Proofs
set_option maxRecDepth 20000
set_option linter.unusedSimpArgs false
set_option maxHeartbeats 4000000

theorem a15 (k : Nat) (hk : 5 ≤ k) (a b c d p q : Int) (l : List ByteArray) (h : l.length ≤ 1000000) :
    callA k 15 [outD 0 a b l c d, .int .i64 p, .int .i64 q] [] =
      some (.tup [if l = [] ∨ p ≠ a ∨ q ≠ b then outD 2 a b l c d else if l.tail = [] then outD 0 a (IntKind.i64.wrap (b + 1)) [] 1 0 else outD 0 a (IntKind.i64.wrap (b + 1)) l.tail 1 1, .bool (!(decide (l = []) || decide (p ≠ a) || decide (q ≠ b)) && !l.tail.isEmpty)], [], [], false) := by
  obtain ⟨k, rfl⟩ : ∃ j, k = j + 5 := ⟨k - 5, by omega⟩
  have h1 := a66 (k + 4) (by omega) a b c d l h
  simp only [outD] at h1 ⊢
  rw [callA_eq Try.func15 rfl (by decide) (by kernel_rfl)]
  cases l with
  | nil =>
    rw [show strs [] = [] from rfl] at h1 ⊢
    simp [Try.f15, List.range_succ, h1]
  | cons t l =>
    have e1 : ((l.length : Int) + 1 == 0) = false := by simp; omega
    have e2 : ¬ ((l.length : Int) + 1 = 0) := by omega
    by_cases hp : p = a
    · by_cases hq : q = b
      · subst hp hq
        have h2 := a70 (k + 4) (by omega) l (by simp at h; omega)
        have h3 := a71 (k + 4) (by omega) c d
        have h4 := a72 (k + 4) (by omega) p (IntKind.i64.wrap (q + 1)) 1 0 l
        simp only [outD, paceD] at h2 h3 h4
        rw [strs_cons] at h1 ⊢
        cases l with
        | nil =>
          rw [show strs [] = [] from rfl] at h1 h2 h4 ⊢
          simp at h4
          simp [Try.f15, List.range_succ, h1, h2, h3, h4]
        | cons u l =>
          have e3 : ((l.length : Int) + 1 + 1 == 0) = false := by simp; omega
          have e4 : ¬ ((l.length : Int) + 1 + 1 = 0) := by omega
          have e5 : (0 : Int) ≤ (l.length : Int) + 1 := by omega
          have e6 : (1 : Int) ≤ (l.length : Int) + 1 + 1 := by omega
          have e7 : ((l.length : Int) + 1 + 1).toNat = l.length + 1 + 1 := by omega
          have e8 : List.take (l.length + 1) (strs (u :: l)) = strs (u :: l) := List.take_of_length_le (by simp)
          simp at h4
          simp [Try.f15, List.range_succ, h1, h2, h3, h4, e3, e4, e5, e6, e7, e8]
      · have hq2 : (q == b) = false := by simp [hq]
        have hq3 : (q != b) = true := by simp [hq]
        simp [Try.f15, List.range_succ, h1, e1, e2, hp, hq, hq2, hq3]
    · have hp2 : (p == a) = false := by simp [hp]
      have hp3 : (p != a) = true := by simp [hp]
      simp [Try.f15, List.range_succ, h1, e1, e2, hp, hp2, hp3]

/-- Are two strings alike? -/
def likeB (a b : ByteArray) : Bool := a.toList == b.toList

theorem a68 (k : Nat) (hk : 1 ≤ k) (b0 b1 : List D) (x s : ByteArray) : callA k 68 [.str x, .ptr 2 0] [b0, b1, [.str s]] = some (.bool (likeB x s), [b0, b1, [.str s]], [], false) := by
  obtain ⟨k, rfl⟩ : ∃ j, k = j + 1 := ⟨k - 1, by omega⟩
  rw [callA_eq Try.func68 rfl (by decide) (by kernel_rfl)]
  simp [Try.f68, List.range_succ, likeB]

end Go.PI
