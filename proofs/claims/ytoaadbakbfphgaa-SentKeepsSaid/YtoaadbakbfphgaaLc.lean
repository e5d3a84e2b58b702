/- The functions of package sent, and of the reference, over slices of strings. -/
import Derived.Test.YtoaadbakbfphgaaLb
import Derived.IntWalk
namespace Go.PI
open Go Go.Proofs
set_option maxRecDepth 20000
set_option linter.unusedSimpArgs false
set_option maxHeartbeats 2000000

theorem strs_drop (l : List ByteArray) (n : Nat) : (strs l).drop n = strs (l.drop n) := by simp [strs]
theorem strs_take (l : List ByteArray) (n : Nat) : (strs l).take n = strs (l.take n) := by simp [strs]
theorem strs_append (l m : List ByteArray) : strs l ++ strs m = strs (l ++ m) := by simp [strs]
theorem strs_cons (a : ByteArray) (l : List ByteArray) : strs (a :: l) = [.str a] :: strs l := rfl
theorem strs_get (l : List ByteArray) (i : Nat) (h : i < l.length) : (strs l)[i]? = some [.str l[i]] := by simp [strs, h]

theorem a64 (k : Nat) (hk : 1 ≤ k) (a b c d : Int) (l : List ByteArray) : callA k 64 [outD 0 a b l c d] [] = some (.str (l.headD ⟨#[]⟩), [], [], false) := by
  obtain ⟨k, rfl⟩ : ∃ j, k = j + 1 := ⟨k - 1, by omega⟩
  rw [callA_eq Try.func64 rfl (by decide) (by kernel_rfl)]
  cases l with
  | nil => simp [Try.f64, outD, List.range_succ, strs]
  | cons t l =>
    have h1 : ((l.length : Int) + 1 == 0) = false := by simp; omega
    have h2 : ¬ ((l.length : Int) + 1 = 0) := by omega
    have h3 : (0 : Int) < (l.length : Int) + 1 := by omega
    simp [Try.f64, outD, List.range_succ, strs_cons, h1, h2, h3]

theorem a17 (k : Nat) (hk : 5 ≤ k) (a b c d : Int) (l : List ByteArray) (h : l.length ≤ 1000000) :
    callA k 17 [outD 0 a b l c d] [] = some (.tup [if l = [] then outD 2 a b [] c d else outD 2 a b l (tickP c d).1 (tickP c d).2.1, .bool (!l.isEmpty && (tickP c d).2.2)], [], [], false) := by
  obtain ⟨k, rfl⟩ : ∃ j, k = j + 5 := ⟨k - 5, by omega⟩
  have h1 := a66 (k + 4) (by omega) a b c d l h
  have h2 := a73 (k + 4) (by omega) c d
  simp only [paceD, outD] at h1 h2 ⊢
  rw [callA_eq Try.func17 rfl (by decide) (by kernel_rfl)]
  generalize (tickP c d).1 = p at h2 ⊢
  generalize (tickP c d).2.1 = q at h2 ⊢
  generalize (tickP c d).2.2 = r at h2 ⊢
  cases l with
  | nil =>
    rw [show strs [] = [] from rfl] at h1 ⊢
    simp [Try.f17, List.range_succ, h1, h2]
  | cons t l =>
    have h3 : ((l.length : Int) + 1 == 0) = false := by simp; omega
    have h4 : ¬ ((l.length : Int) + 1 = 0) := by omega
    simp [Try.f17, List.range_succ, h1, h2, h3, h4]

theorem a16 (k : Nat) (hk : 5 ≤ k) (a b c d p : Int) (l : List ByteArray) (h : l.length ≤ 1000000) :
    callA k 16 [outD 0 a b l c d, .int .i64 p] [] = some (.tup [if p ≤ a then outD 2 a b l c d else if l = [] then outD 0 p 1 [] c d else outD 0 p 1 l 1 1, .bool (!decide (p ≤ a) && !l.isEmpty)], [], [], false) := by
  obtain ⟨k, rfl⟩ : ∃ j, k = j + 5 := ⟨k - 5, by omega⟩
  have h1 := a66 (k + 4) (by omega) a b c d l h
  have h2 := a72 (k + 4) (by omega) p 1 c d l
  simp only [outD] at h1 h2 ⊢
  rw [callA_eq Try.func16 rfl (by decide) (by kernel_rfl)]
  by_cases h3 : p ≤ a
  · simp [Try.f16, List.range_succ, h1, h3]
  · cases l with
    | nil =>
      rw [show strs [] = [] from rfl] at h1 h2 ⊢
      simp at h2
      simp [Try.f16, List.range_succ, h1, h2, h3]
    | cons t l =>
      simp at h2
      simp [Try.f16, List.range_succ, h1, h2, h3]

end Go.PI
