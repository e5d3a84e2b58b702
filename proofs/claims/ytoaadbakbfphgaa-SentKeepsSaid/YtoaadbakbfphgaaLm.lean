/- SentKeeps: the whole. -/
import Derived.Test.YtoaadbakbfphgaaLl
namespace Go.PI
open Go Go.Proofs
set_option maxRecDepth 20000
set_option linter.unusedSimpArgs false
set_option linter.unusedVariables false
set_option maxHeartbeats 4000000

theorem round_ok3 {k : Nat} {n : Int} {l : List Stp} {q : Int} {i : Nat} {a b : Int} {t : List ByteArray} {w p : Int} {ex : List (List D)} {v8 v9 v10 v11 v12 v21 v31 v36 v49 v61 v73 v94 v131 v136 v148 : D} (hk : 400 ≤ k) (hn : 0 ≤ n ∧ n ≤ 255) (hl : l.length ≤ 60) (hi : i < l.length) (h : Kept3 n t w p q) : RoundOk k n l q i a b t w p ex v8 v9 v10 v11 v12 v21 v31 v36 v49 v61 v73 v94 v131 v136 v148 := by
  have hq : 0 ≤ q ∧ q ≤ 7 := ⟨h.q0, h.q7⟩
  by_cases h20 : 20 < (l[i].text.size : Int)
  · exact round_skip hl hi rfl h20 h
  · by_cases h0 : l[i].act = 0
    · obtain ⟨f, t', w', p', told, e, hc, hf, hK, hless⟩ := put_ok k hk hn.2 a b h l[i].text
      exact round_put hk hn hl hi rfl h20 h0 hf hc hK (fun hh => absurd hh hless) hq
    · by_cases h1 : l[i].act = 1
      · obtain ⟨f, b', t', w', p', told, hc, hf, hK, hless⟩ := ack_ok k hk hn.2 a b a b h
        exact round_mine hk hn hl hi rfl h20 h1 hf hc hK (fun hh => ⟨.inl h1, hless hh⟩) hq
      · by_cases h2 : l[i].act = 2
        · obtain ⟨f, b', t', w', p', told, hc, hf, hK, hless⟩ := ack_ok k hk hn.2 a b l[i].peer l[i].seq h
          exact round_ack hk hn hl hi rfl h20 h2 hf hc hK (fun hh => ⟨.inr h2, hless hh⟩) hq
        · by_cases h3 : l[i].act = 3
          · obtain ⟨f, a', b', w', p', told, hc, hf, hK⟩ := learn_ok k hk hn.2 a b l[i].peer h
            exact round_learn hk hn hl hi rfl h20 h3 hf hc hK (fun hh => absurd hh (by omega)) hq
          · obtain ⟨w', p', told, hc, hK⟩ := ticks_ok k hk hn.2 a b h
            exact round_tick hk hn hl hi rfl h20 ⟨h0, h1, h2, h3⟩ (.inr rfl) hc hK (fun hh => absurd hh (by omega)) hq

theorem rounds_ok3 {k : Nat} {n : Int} {l : List Stp} (hk : 400 ≤ k) (hn : 0 ≤ n ∧ n ≤ 255) (hl : l.length ≤ 60) : ∀ (r i m : Nat) (q a b : Int) (t : List ByteArray) (w p : Int) (ex : List (List D)) (v8 v9 v10 v11 v12 v21 v31 v36 v49 v61 v73 v94 v131 v136 v148 : D), i + r = l.length → r < m → Kept3 n t w p q →
    ∃ q' i' a' b' t' w' p', loopF (codeF (callA k) tiA polA 3 0 k body6) (roundStart 1 (polA.live 3 6)) m (S3 n l q i a b t w p ex v8 v9 v10 v11 v12 v21 v31 v36 v49 v61 v73 v94 v131 v136 v148) = some (.exit 0, S3 n l q' i' a' b' t' w' p' [] .undef .undef .undef .undef .undef (.bool false) .undef .undef .undef .undef .undef .undef .undef .undef .undef)
  | 0, i, m, q, a, b, t, w, p, ex, v8, v9, v10, v11, v12, v21, v31, v36, v49, v61, v73, v94, v131, v136, v148, h, hm, hK => by
    obtain ⟨m, rfl⟩ : ∃ x, m = x + 1 := ⟨m - 1, by omega⟩
    have hi : ¬ i < l.length := by omega
    rw [loopF_step]
    refine ⟨q, i, a, b, t, w, p, ?_⟩
    simp (config := { maxSteps := 10000000 }) [body6, subC, bodyC, Try.f3, S3, List.range_succ, hi]
  | r + 1, i, m, q, a, b, t, w, p, ex, v8, v9, v10, v11, v12, v21, v31, v36, v49, v61, v73, v94, v131, v136, v148, h, hm, hK => by
    obtain ⟨m, rfl⟩ : ∃ x, m = x + 1 := ⟨m - 1, by omega⟩
    obtain ⟨q', a', b', t', w', p', ex', x8, x9, x10, x11, x12, x21, x31, x36, x49, x61, x73, x94, x131, x136, x148, h1, h2⟩ := round_ok3 (k := k) (l := l) (i := i) (a := a) (b := b) (ex := ex) (v8 := v8) (v9 := v9) (v10 := v10) (v11 := v11) (v12 := v12) (v21 := v21) (v31 := v31) (v36 := v36) (v49 := v49) (v61 := v61) (v73 := v73) (v94 := v94) (v131 := v131) (v136 := v136) (v148 := v148) hk hn hl (by omega) hK
    rw [loopF_step, h1, nextL_normal]
    exact rounds_ok3 hk hn hl r (i + 1) m q' a' b' t' w' p' ex' _ _ _ _ _ _ _ _ _ _ _ _ _ _ _ (by omega) (by omega) h2

theorem a3 (k : Nat) (hk : 500 ≤ k) (n : Int) (hn : 0 ≤ n ∧ n ≤ 255) (l : List Stp) : callA k 3 [.int .u8 n, .sl 0 4 (stps l)] [] = some (.bool true, [], [], false) := by
  obtain ⟨k, rfl⟩ : ∃ j, k = j + 1 := ⟨k - 1, by omega⟩
  have h1 := a13 k (by omega)
  have h2 := a12 k (by omega)
  simp only [outD] at h1
  rw [callA_eq Try.func3 rfl (by decide) (by kernel_rfl)]
  by_cases hl : 60 < (l.length : Int)
  · simp [Try.f3, List.range_succ, hl, h2]
  · obtain ⟨q', i', a', b', t', w', p', h3⟩ := rounds_ok3 (k := k) (l := l) (by omega) hn (by omega) l.length 0 k 0 1 1 [] 1 0 [] .undef .undef .undef .undef .undef .undef .undef .undef .undef .undef .undef .undef .undef .undef .undef (by omega) (by omega)
      ⟨by simp, by simp; omega, by omega, by omega, fun _ => rfl, fun h => absurd rfl h⟩
    rw [show strs [] = [] from rfl] at h1
    simp only [body6, subC, bodyC, Try.f3, Option.getD_some, S3] at h3
    rw [show strs [] = [] from rfl] at h3
    simp at h3
    simp (config := { maxSteps := 10000000 }) [Try.f3, List.range_succ, hl, h1, h2, codeF_loop, h3]

end Go.PI
