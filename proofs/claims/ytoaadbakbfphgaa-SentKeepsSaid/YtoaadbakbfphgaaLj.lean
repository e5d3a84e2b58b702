/- SentKeeps: behind the call. -/
import Derived.Test.YtoaadbakbfphgaaLi
namespace Go.PI
open Go Go.Proofs
set_option maxRecDepth 20000
set_option linter.unusedSimpArgs false
set_option linter.unusedVariables false
set_option maxHeartbeats 40000000

theorem frost21 (n : Int) (l : List Stp) (q i a b : Int) (f : Nat) (hf : f = 0 ∨ f = 1 ∨ f = 2) (t : List ByteArray) (w p : Int) (s : Stp) (was : List ByteArray) (told : Bool) (v36 v49 v61 v73 : D) :
    (S21 n l q i a b f t w p s was told v36 v49 v61 v73).frost 0 [5] = S21 n l q i a b 0 t w p s was told v36 v49 v61 v73 := by
  rcases hf with rfl | rfl | rfl <;> simp (config := { maxSteps := 1000000 }) [S21, List.range_succ]

theorem sameB_tail {t was : List ByteArray} (h : t = was.drop 1) : sameB t (was.drop 1) = true := by
  subst h
  simp only [sameB, beq_self_eq_true, Bool.true_and, List.all_eq_true]
  intro x hx
  have : ∀ (l : List ByteArray), x ∈ l.zip l → x.1 = x.2 := by
    intro l
    induction l with
    | nil => intro h; simp at h
    | cons a l ih =>
      intro h
      rw [List.zip_cons_cons] at h
      rcases List.mem_cons.mp h with rfl | h
      · rfl
      · exact ih h
  exact likeB_iff.mpr (this _ hx)

theorem partB0 (k : Nat) (n : Int) (hn : 0 ≤ n ∧ n ≤ 255) (l : List Stp) (q i a b : Int) (t : List ByteArray) (w p : Int) (s : Stp) (was : List ByteArray) (told : Bool) (v36 v49 v61 v73 : D)
    (ht : t.Nodup) (htn : (t.length : Int) ≤ n) (hk : 400 ≤ k) (hq : ¬ 8 ≤ (if told = true ∨ t = [] then 0 else q)) (hless : t.length < was.length → (s.act = 1 ∨ s.act = 2) ∧ t = was.drop 1) :
    codeF (callA k) tiA polA 3 0 k rest21 (S21 n l q i a b 0 t w p s was told v36 v49 v61 v73) =
      some (.normal, S27 n l (if told = true ∨ t = [] then 0 else q) i a b t w p s was told (.bool (decide (t.length < was.length))) t.length v36 v49 v61 v73 (.bool (told || decide (t = []))) (.bool false) (.bool false) .undef) := by
  have wn : IntKind.i64.wrap n = n := IntWalk.i64_in _ (by omega)
  have n1 : ¬ n < (t.length : Int) := by omega
  have n0 : ¬ n < 0 := by omega
  have hL := fun q (v11 v94 v131 : D) (v136 v148 : D) => loop27 k n l q i a b t w p s was told v11 v36 v49 v61 v73 v94 v131 ht (by omega) (by omega) t.length 0 k v136 v148 (by omega) (by omega)
  simp only [body27, subC, bodyC, Try.f3, Option.getD_some, S27] at hL
  by_cases hl : t.length < was.length
  · obtain ⟨hact, htw⟩ := hless hl
    have hs := a18 k t (was.drop 1) (by omega) (by omega)
    rw [sameB_tail htw, List.drop_one] at hs
    have d1 : ¬ s.act < 1 := by omega
    have d2 : ¬ 2 < s.act := by omega
    have w0 : (1 : Int) ≤ was.length := by omega
    have w1 : 1 ≤ was.length := by omega
    have w2 : (strs was).drop 1 = strs (was.drop 1) := strs_drop _ _
    have w3 : List.take was.length (strs was) = strs was := List.take_of_length_le (by simp)
    by_cases hto : told = true
    · subst hto
      simp at hL hq
      simp (config := { maxSteps := 10000000 }) [rest21, subC, bodyC, Try.f3, S21, S27, List.range_succ, wn, n1, hl, hs, d1, d2, w0, w1, w2, w3, codeF_loop, hL]
    · have hto : told = false := by simpa using hto
      subst hto
      by_cases ht0 : t = []
      · subst ht0
        rw [show strs [] = [] from rfl] at hL hs
        simp at hL hq hl
        simp (config := { maxSteps := 10000000 }) [rest21, subC, bodyC, Try.f3, S21, S27, List.range_succ, wn, n0, hl, hs, d1, d2, w0, w1, w2, w3, codeF_loop, hL, show strs [] = [] from rfl]
      · have t0 : ¬ (t.length : Int) = 0 := by cases t <;> simp at *; omega
        have t1 : ((t.length : Int) == 0) = false := by simpa using t0
        simp [ht0] at hL hq
        have q1 : ¬ 8 ≤ q := by omega
        simp (config := { maxSteps := 10000000 }) [rest21, subC, bodyC, Try.f3, S21, S27, List.range_succ, wn, n1, hl, hs, d1, d2, w0, w1, w2, w3, codeF_loop, hL, ht0, t0, t1, q1]
  · by_cases hto : told = true
    · subst hto
      simp at hL hq
      simp (config := { maxSteps := 10000000 }) [rest21, subC, bodyC, Try.f3, S21, S27, List.range_succ, wn, n1, hl, codeF_loop, hL]
    · have hto : told = false := by simpa using hto
      subst hto
      by_cases ht0 : t = []
      · subst ht0
        obtain rfl : was = [] := by simpa using hl
        rw [show strs [] = [] from rfl] at hL
        simp at hL hq
        simp (config := { maxSteps := 10000000 }) [rest21, subC, bodyC, Try.f3, S21, S27, List.range_succ, wn, n0, hl, codeF_loop, hL, show strs [] = [] from rfl]
      · have t0 : ¬ (t.length : Int) = 0 := by cases t <;> simp at *; omega
        have t1 : ((t.length : Int) == 0) = false := by simpa using t0
        simp [ht0] at hL hq
        have q1 : ¬ 8 ≤ q := by omega
        simp (config := { maxSteps := 10000000 }) [rest21, subC, bodyC, Try.f3, S21, S27, List.range_succ, wn, n1, hl, codeF_loop, hL, ht0, t0, t1, q1]

theorem partB (k : Nat) (n : Int) (hn : 0 ≤ n ∧ n ≤ 255) (l : List Stp) (q i a b : Int) (f : Nat) (hf : f = 0 ∨ f = 1 ∨ f = 2) (t : List ByteArray) (w p : Int) (s : Stp) (was : List ByteArray) (told : Bool) (v36 v49 v61 v73 : D)
    (ht : t.Nodup) (htn : (t.length : Int) ≤ n) (hk : 400 ≤ k) (hq : ¬ 8 ≤ (if told = true ∨ t = [] then 0 else q)) (hless : t.length < was.length → (s.act = 1 ∨ s.act = 2) ∧ t = was.drop 1) :
    codeF (callA k) tiA polA 3 0 k rest21 (S21 n l q i a b f t w p s was told v36 v49 v61 v73) =
      some (.normal, S27 n l (if told = true ∨ t = [] then 0 else q) i a b t w p s was told (.bool (decide (t.length < was.length))) t.length v36 v49 v61 v73 (.bool (told || decide (t = []))) (.bool false) (.bool false) .undef) := by
  rw [← partB0 k n hn l q i a b t w p s was told v36 v49 v61 v73 ht htn hk hq hless]
  have hfr := frost21 n l q i a b f hf t w p s was told v36 v49 v61 v73
  have hfr0 := frost21 n l q i a b 0 (.inl rfl) t w p s was told v36 v49 v61 v73
  have hb : (S21 n l q i a b f t w p s was told v36 v49 v61 v73).bx.length = (S21 n l q i a b 0 t w p s was told v36 v49 v61 v73).bx.length := rfl
  simp only [rest21, subC, bodyC, Try.f3, Option.getD_some]
  simp only [codeF_seq, codeF_region, coldA_3_21, hfr, hfr0, hb]

end Go.PI
