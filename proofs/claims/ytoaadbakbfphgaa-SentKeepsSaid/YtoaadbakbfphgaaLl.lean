/- SentKeeps: a round. -/
import Derived.Test.YtoaadbakbfphgaaLj
import Derived.Test.YtoaadbakbfphgaaLk
namespace Go.PI
open Go Go.Proofs
set_option maxRecDepth 20000
set_option linter.unusedSimpArgs false
set_option linter.unusedVariables false
set_option maxHeartbeats 40000000

noncomputable def body6 : Code := subC [1, 1, 1, 1, 0, 1, 2, 2] (bodyC Try.f3)

theorem getElem_stps (l : List Stp) (i : Nat) (h : i < (stps l).length) : (stps l)[i] = [.int .i64 (l[i]'(by simpa using h)).act, .int .i64 (l[i]'(by simpa using h)).peer, .int .i64 (l[i]'(by simpa using h)).seq, .str (l[i]'(by simpa using h)).text] := by simp [stps]

/-- What a round comes to. -/
def RoundOk (k : Nat) (n : Int) (l : List Stp) (q : Int) (i : Nat) (a b : Int) (t : List ByteArray) (w p : Int) (ex : List (List D)) (v8 v9 v10 v11 v12 v21 v31 v36 v49 v61 v73 v94 v131 v136 v148 : D) : Prop :=
  ∃ q' a' b' t' w' p' ex' x8 x9 x10 x11 x12 x21 x31 x36 x49 x61 x73 x94 x131 x136 x148, codeF (callA k) tiA polA 3 0 k body6 (roundStart 1 (polA.live 3 6) (S3 n l q i a b t w p ex v8 v9 v10 v11 v12 v21 v31 v36 v49 v61 v73 v94 v131 v136 v148)) = some (.normal, S3 n l q' (i + 1 : Nat) a' b' t' w' p' ex' x8 x9 x10 x11 x12 x21 x31 x36 x49 x61 x73 x94 x131 x136 x148) ∧ Kept3 n t' w' p' q'

variable {k : Nat} {n : Int} {l : List Stp} {q : Int} {i : Nat} {a b : Int} {t : List ByteArray} {w p : Int} {ex : List (List D)} {v8 v9 v10 v11 v12 v21 v31 v36 v49 v61 v73 v94 v131 v136 v148 : D} {s : Stp}

theorem round_skip (hl : l.length ≤ 60) (hi : i < l.length) (hs : l[i] = s) (h20 : 20 < (s.text.size : Int)) (h : Kept3 n t w p q) : RoundOk k n l q i a b t w p ex v8 v9 v10 v11 v12 v21 v31 v36 v49 v61 v73 v94 v131 v136 v148 := by
  have hel : ∀ h : i < (stps l).length, (stps l)[i] = [.int .i64 s.act, .int .i64 s.peer, .int .i64 s.seq, .str s.text] := fun h => by rw [getElem_stps]; simp [hs]
  have hw : IntKind.i64.wrap ((i : Int) + 1) = (i : Int) + 1 := IntWalk.i64_in _ (by omega)
  refine ⟨q, a, b, t, w, p, [[.int .i64 s.act, .int .i64 s.peer, .int .i64 s.seq, .str s.text]], .ptr 1 0, .undef, .undef, .undef, .undef, .bool true, .bool true, .undef, .undef, .undef, .undef, .undef, .undef, .undef, .undef, ?_, h⟩
  simp (config := { maxSteps := 10000000 }) [body6, subC, bodyC, Try.f3, S3, List.range_succ, hi, hel, h20, hw]

theorem round_put (hk : 400 ≤ k) (hn : 0 ≤ n ∧ n ≤ 255) (hl : l.length ≤ 60) (hi : i < l.length) (hs : l[i] = s) (h20 : ¬ 20 < (s.text.size : Int)) (ha : s.act = 0) {f : Nat} {a' b' w' p' : Int} {t' : List ByteArray} {told : Bool} {e : Int} (hf : f = 1 ∨ f = 2)
    (hc : callA k 14 [outD 0 a b t w p, .int .i64 n, .str s.text] [] = some (.tup [outD f a' b' t' w' p', .bool told, .int .i64 e], [], [], false)) (hK : Kept3 n t' w' p' (quiet told t' (q))) (hless : t'.length < t.length → (s.act = 1 ∨ s.act = 2) ∧ t' = t.drop 1) (hq : 0 ≤ q ∧ q ≤ 7) : RoundOk k n l q i a b t w p ex v8 v9 v10 v11 v12 v21 v31 v36 v49 v61 v73 v94 v131 v136 v148 := by
  have hel : ∀ h : i < (stps l).length, (stps l)[i] = [.int .i64 s.act, .int .i64 s.peer, .int .i64 s.seq, .str s.text] := fun h => by rw [getElem_stps]; simp [hs]
  have hw : IntKind.i64.wrap ((i : Int) + 1) = (i : Int) + 1 := IntWalk.i64_in _ (by omega)
  have hwq : IntKind.i64.wrap (q + 1) = q + 1 := IntWalk.i64_in _ (by omega)
  have hwn : IntKind.i64.wrap n = n := IntWalk.i64_in _ (by omega)
  have e0 : (s.act == 0) = true := by simp [ha]

  have hB := partB k n hn l (q) i a' b' f (by omega) t' w' p' s t told (.bool true) (.undef) (.undef) (.undef) hK.nodup hK.len hk (by have := hK.q7; unfold quiet at this; omega) hless
  refine ⟨quiet told t' (q), a', b', t', w', p', [[.int .i64 s.act, .int .i64 s.peer, .int .i64 s.seq, .str s.text]], .ptr 1 0, .sl 0 1 (strs t), .bool told, .bool (decide (t'.length < t.length)), .int .i64 t'.length, .bool true, .bool false, .bool true, .undef, .undef, .undef, .bool (told || decide (t' = [])), .bool false, .bool false, .undef, ?_, hK⟩
  simp only [outD] at hc
  unfold quiet
  generalize (if told = true ∨ t' = [] then (0 : Int) else q) = qq at hB ⊢
  generalize (D.bool (told || decide (t' = []))) = d94 at hB ⊢
  generalize (D.bool (decide (t'.length < t.length))) = d11 at hB ⊢
  simp only [rest21, subC, bodyC, Try.f3, Option.getD_some, S21, S27] at hB
  rcases hf with rfl | rfl
  all_goals simp (config := { maxSteps := 10000000 }) [body6, subC, bodyC, Try.f3, S3, List.range_succ, hi, hel, h20, hw, hwq, hwn, hc, ↓hB, e0]

theorem round_mine (hk : 400 ≤ k) (hn : 0 ≤ n ∧ n ≤ 255) (hl : l.length ≤ 60) (hi : i < l.length) (hs : l[i] = s) (h20 : ¬ 20 < (s.text.size : Int)) (ha : s.act = 1) {f : Nat} {a' b' w' p' : Int} {t' : List ByteArray} {told : Bool} (hf : f = 0 ∨ f = 2)
    (hc : callA k 15 [outD 0 a b t w p, .int .i64 a, .int .i64 b] [] = some (.tup [outD f a' b' t' w' p', .bool told], [], [], false)) (hK : Kept3 n t' w' p' (quiet told t' (q))) (hless : t'.length < t.length → (s.act = 1 ∨ s.act = 2) ∧ t' = t.drop 1) (hq : 0 ≤ q ∧ q ≤ 7) : RoundOk k n l q i a b t w p ex v8 v9 v10 v11 v12 v21 v31 v36 v49 v61 v73 v94 v131 v136 v148 := by
  have hel : ∀ h : i < (stps l).length, (stps l)[i] = [.int .i64 s.act, .int .i64 s.peer, .int .i64 s.seq, .str s.text] := fun h => by rw [getElem_stps]; simp [hs]
  have hw : IntKind.i64.wrap ((i : Int) + 1) = (i : Int) + 1 := IntWalk.i64_in _ (by omega)
  have hwq : IntKind.i64.wrap (q + 1) = q + 1 := IntWalk.i64_in _ (by omega)
  have hwn : IntKind.i64.wrap n = n := IntWalk.i64_in _ (by omega)
  have e0 : (s.act == 0) = false := by simp; omega
  have e1 : (s.act == 1) = true := by simp [ha]

  have hB := partB k n hn l (q) i a' b' f (by omega) t' w' p' s t told (.bool false) (.bool true) (.undef) (.undef) hK.nodup hK.len hk (by have := hK.q7; unfold quiet at this; omega) hless
  refine ⟨quiet told t' (q), a', b', t', w', p', [[.int .i64 s.act, .int .i64 s.peer, .int .i64 s.seq, .str s.text]], .ptr 1 0, .sl 0 1 (strs t), .bool told, .bool (decide (t'.length < t.length)), .int .i64 t'.length, .bool true, .bool false, .bool false, .bool true, .undef, .undef, .bool (told || decide (t' = [])), .bool false, .bool false, .undef, ?_, hK⟩
  simp only [outD] at hc
  unfold quiet
  generalize (if told = true ∨ t' = [] then (0 : Int) else q) = qq at hB ⊢
  generalize (D.bool (told || decide (t' = []))) = d94 at hB ⊢
  generalize (D.bool (decide (t'.length < t.length))) = d11 at hB ⊢
  simp only [rest21, subC, bodyC, Try.f3, Option.getD_some, S21, S27] at hB
  rcases hf with rfl | rfl
  all_goals simp (config := { maxSteps := 10000000 }) [body6, subC, bodyC, Try.f3, S3, List.range_succ, hi, hel, h20, hw, hwq, hwn, hc, ↓hB, e0, e1]

theorem round_ack (hk : 400 ≤ k) (hn : 0 ≤ n ∧ n ≤ 255) (hl : l.length ≤ 60) (hi : i < l.length) (hs : l[i] = s) (h20 : ¬ 20 < (s.text.size : Int)) (ha : s.act = 2) {f : Nat} {a' b' w' p' : Int} {t' : List ByteArray} {told : Bool} (hf : f = 0 ∨ f = 2)
    (hc : callA k 15 [outD 0 a b t w p, .int .i64 s.peer, .int .i64 s.seq] [] = some (.tup [outD f a' b' t' w' p', .bool told], [], [], false)) (hK : Kept3 n t' w' p' (quiet told t' (q))) (hless : t'.length < t.length → (s.act = 1 ∨ s.act = 2) ∧ t' = t.drop 1) (hq : 0 ≤ q ∧ q ≤ 7) : RoundOk k n l q i a b t w p ex v8 v9 v10 v11 v12 v21 v31 v36 v49 v61 v73 v94 v131 v136 v148 := by
  have hel : ∀ h : i < (stps l).length, (stps l)[i] = [.int .i64 s.act, .int .i64 s.peer, .int .i64 s.seq, .str s.text] := fun h => by rw [getElem_stps]; simp [hs]
  have hw : IntKind.i64.wrap ((i : Int) + 1) = (i : Int) + 1 := IntWalk.i64_in _ (by omega)
  have hwq : IntKind.i64.wrap (q + 1) = q + 1 := IntWalk.i64_in _ (by omega)
  have hwn : IntKind.i64.wrap n = n := IntWalk.i64_in _ (by omega)
  have e0 : (s.act == 0) = false := by simp; omega
  have e1 : (s.act == 1) = false := by simp; omega
  have e2 : (s.act == 2) = true := by simp [ha]

  have hB := partB k n hn l (q) i a' b' f (by omega) t' w' p' s t told (.bool false) (.bool false) (.bool true) (.undef) hK.nodup hK.len hk (by have := hK.q7; unfold quiet at this; omega) hless
  refine ⟨quiet told t' (q), a', b', t', w', p', [[.int .i64 s.act, .int .i64 s.peer, .int .i64 s.seq, .str s.text]], .ptr 1 0, .sl 0 1 (strs t), .bool told, .bool (decide (t'.length < t.length)), .int .i64 t'.length, .bool true, .bool false, .bool false, .bool false, .bool true, .undef, .bool (told || decide (t' = [])), .bool false, .bool false, .undef, ?_, hK⟩
  simp only [outD] at hc
  unfold quiet
  generalize (if told = true ∨ t' = [] then (0 : Int) else q) = qq at hB ⊢
  generalize (D.bool (told || decide (t' = []))) = d94 at hB ⊢
  generalize (D.bool (decide (t'.length < t.length))) = d11 at hB ⊢
  simp only [rest21, subC, bodyC, Try.f3, Option.getD_some, S21, S27] at hB
  rcases hf with rfl | rfl
  all_goals simp (config := { maxSteps := 10000000 }) [body6, subC, bodyC, Try.f3, S3, List.range_succ, hi, hel, h20, hw, hwq, hwn, hc, ↓hB, e0, e1, e2]

theorem round_learn (hk : 400 ≤ k) (hn : 0 ≤ n ∧ n ≤ 255) (hl : l.length ≤ 60) (hi : i < l.length) (hs : l[i] = s) (h20 : ¬ 20 < (s.text.size : Int)) (ha : s.act = 3) {f : Nat} {a' b' w' p' : Int} {t' : List ByteArray} {told : Bool} (hf : f = 0 ∨ f = 2)
    (hc : callA k 16 [outD 0 a b t w p, .int .i64 s.peer] [] = some (.tup [outD f a' b' t' w' p', .bool told], [], [], false)) (hK : Kept3 n t' w' p' (quiet told t' (q))) (hless : t'.length < t.length → (s.act = 1 ∨ s.act = 2) ∧ t' = t.drop 1) (hq : 0 ≤ q ∧ q ≤ 7) : RoundOk k n l q i a b t w p ex v8 v9 v10 v11 v12 v21 v31 v36 v49 v61 v73 v94 v131 v136 v148 := by
  have hel : ∀ h : i < (stps l).length, (stps l)[i] = [.int .i64 s.act, .int .i64 s.peer, .int .i64 s.seq, .str s.text] := fun h => by rw [getElem_stps]; simp [hs]
  have hw : IntKind.i64.wrap ((i : Int) + 1) = (i : Int) + 1 := IntWalk.i64_in _ (by omega)
  have hwq : IntKind.i64.wrap (q + 1) = q + 1 := IntWalk.i64_in _ (by omega)
  have hwn : IntKind.i64.wrap n = n := IntWalk.i64_in _ (by omega)
  have e0 : (s.act == 0) = false := by simp; omega
  have e1 : (s.act == 1) = false := by simp; omega
  have e2 : (s.act == 2) = false := by simp; omega
  have e3 : (s.act == 3) = true := by simp [ha]

  have hB := partB k n hn l (q) i a' b' f (by omega) t' w' p' s t told (.bool false) (.bool false) (.bool false) (.bool true) hK.nodup hK.len hk (by have := hK.q7; unfold quiet at this; omega) hless
  refine ⟨quiet told t' (q), a', b', t', w', p', [[.int .i64 s.act, .int .i64 s.peer, .int .i64 s.seq, .str s.text]], .ptr 1 0, .sl 0 1 (strs t), .bool told, .bool (decide (t'.length < t.length)), .int .i64 t'.length, .bool true, .bool false, .bool false, .bool false, .bool false, .bool true, .bool (told || decide (t' = [])), .bool false, .bool false, .undef, ?_, hK⟩
  simp only [outD] at hc
  unfold quiet
  generalize (if told = true ∨ t' = [] then (0 : Int) else q) = qq at hB ⊢
  generalize (D.bool (told || decide (t' = []))) = d94 at hB ⊢
  generalize (D.bool (decide (t'.length < t.length))) = d11 at hB ⊢
  simp only [rest21, subC, bodyC, Try.f3, Option.getD_some, S21, S27] at hB
  rcases hf with rfl | rfl
  all_goals simp (config := { maxSteps := 10000000 }) [body6, subC, bodyC, Try.f3, S3, List.range_succ, hi, hel, h20, hw, hwq, hwn, hc, ↓hB, e0, e1, e2, e3]

theorem round_tick (hk : 400 ≤ k) (hn : 0 ≤ n ∧ n ≤ 255) (hl : l.length ≤ 60) (hi : i < l.length) (hs : l[i] = s) (h20 : ¬ 20 < (s.text.size : Int)) (ha : s.act ≠ 0 ∧ s.act ≠ 1 ∧ s.act ≠ 2 ∧ s.act ≠ 3) {f : Nat} {a' b' w' p' : Int} {t' : List ByteArray} {told : Bool} (hf : f = 0 ∨ f = 2)
    (hc : callA k 17 [outD 0 a b t w p] [] = some (.tup [outD f a' b' t' w' p', .bool told], [], [], false)) (hK : Kept3 n t' w' p' (quiet told t' (q + 1))) (hless : t'.length < t.length → (s.act = 1 ∨ s.act = 2) ∧ t' = t.drop 1) (hq : 0 ≤ q ∧ q ≤ 7) : RoundOk k n l q i a b t w p ex v8 v9 v10 v11 v12 v21 v31 v36 v49 v61 v73 v94 v131 v136 v148 := by
  have hel : ∀ h : i < (stps l).length, (stps l)[i] = [.int .i64 s.act, .int .i64 s.peer, .int .i64 s.seq, .str s.text] := fun h => by rw [getElem_stps]; simp [hs]
  have hw : IntKind.i64.wrap ((i : Int) + 1) = (i : Int) + 1 := IntWalk.i64_in _ (by omega)
  have hwq : IntKind.i64.wrap (q + 1) = q + 1 := IntWalk.i64_in _ (by omega)
  have hwn : IntKind.i64.wrap n = n := IntWalk.i64_in _ (by omega)
  have e0 : (s.act == 0) = false := by simp; omega
  have e1 : (s.act == 1) = false := by simp; omega
  have e2 : (s.act == 2) = false := by simp; omega
  have e3 : (s.act == 3) = false := by simp; omega

  have hB := partB k n hn l (q + 1) i a' b' f (by omega) t' w' p' s t told (.bool false) (.bool false) (.bool false) (.bool false) hK.nodup hK.len hk (by have := hK.q7; unfold quiet at this; omega) hless
  refine ⟨quiet told t' (q + 1), a', b', t', w', p', [[.int .i64 s.act, .int .i64 s.peer, .int .i64 s.seq, .str s.text]], .ptr 1 0, .sl 0 1 (strs t), .bool told, .bool (decide (t'.length < t.length)), .int .i64 t'.length, .bool true, .bool false, .bool false, .bool false, .bool false, .bool false, .bool (told || decide (t' = [])), .bool false, .bool false, .undef, ?_, hK⟩
  simp only [outD] at hc
  unfold quiet
  generalize (if told = true ∨ t' = [] then (0 : Int) else q + 1) = qq at hB ⊢
  generalize (D.bool (told || decide (t' = []))) = d94 at hB ⊢
  generalize (D.bool (decide (t'.length < t.length))) = d11 at hB ⊢
  simp only [rest21, subC, bodyC, Try.f3, Option.getD_some, S21, S27] at hB
  rcases hf with rfl | rfl
  all_goals simp (config := { maxSteps := 10000000 }) [body6, subC, bodyC, Try.f3, S3, List.range_succ, hi, hel, h20, hw, hwq, hwn, hc, ↓hB, e0, e1, e2, e3]

end Go.PI
