/- sent.Put. -/
import Derived.Test.YtoaadbakbfphgaaLf
namespace Go.PI
open Go Go.Proofs
set_option maxRecDepth 20000
set_option linter.unusedSimpArgs false
set_option maxHeartbeats 4000000

theorem a128 (k : Nat) (l : List ByteArray) (x : ByteArray) (b0 b1 : List D) (h : l.length ≤ 1000000) (hk : l.length + 3 ≤ k) : callA k 128 [.sl 0 1 (strs l), .fn (.func 68) [] [.ptr 2 0]] [b0, b1, [.str x]] = some (.int .i64 (placeI l x), [b0, b1, [.str x]], [], false) := by
  obtain ⟨k, rfl⟩ : ∃ j, k = j + 2 := ⟨k - 2, by omega⟩
  rw [callA_eq Try.func128 rfl (by decide) (by kernel_rfl)]
  simp [Try.f128, List.range_succ]
  rw [codeF_loop]
  generalize hb : codeF (callA (k + 1)) tiA polA 128 3 (k + 1) _ = body
  have key : ∀ (r : List ByteArray) (i j : Nat) (x5 x9 x16 : D), l.drop i = r → r.length < j → x5.low 3 = true →
      ∃ e y4 y5 y8 y9 y16, loopF body (roundStart 3 (polA.live 128 2)) j { tm := [.sl 0 1 (strs l), .fn (.func 68) [] [.ptr 2 0], .undef, .undef, .int .i64 0, x5, .undef, .int .i64 l.length, .int .i64 i, x9, .undef, .undef, .undef, .undef, .undef, .undef, x16, .undef, .undef], bx := [b0, b1, [.str x]], ln := [], dirty := [], up := false } =
          some (e, { tm := [.sl 0 1 (strs l), .fn (.func 68) [] [.ptr 2 0], .undef, .undef, y4, y5, .undef, .int .i64 l.length, y8, y9, .undef, .undef, .undef, .undef, .undef, .undef, y16, .undef, .undef], bx := [b0, b1, [.str x]], ln := [], dirty := [], up := false }) ∧
        ((e = .exit 0 ∧ r.findIdx? (likeB · x) = none) ∨ (∃ m, e = .ret ∧ y4 = .int .i64 (i + m : Nat) ∧ r.findIdx? (likeB · x) = some m)) := by
    intro r
    induction r with
    | nil =>
      intro i j x5 x9 x16 hd hj hx5
      obtain ⟨j, rfl⟩ : ∃ m, j = m + 1 := ⟨j - 1, by omega⟩
      have hi : l.length ≤ i := List.drop_eq_nil_iff.mp hd
      have hi2 : ¬ i < l.length := by omega
      rw [loopF_step, ← hb]
      refine ⟨.exit 0, .int .i64 0, .undef, .int .i64 i, .bool false, .undef, ?_, .inl ⟨rfl, rfl⟩⟩
      simp [List.range_succ, hi2]
    | cons a r ih =>
      intro i j x5 x9 x16 hd hj hx5
      obtain ⟨j, rfl⟩ : ∃ m, j = m + 1 := ⟨j - 1, by omega⟩
      obtain ⟨hi, hg, hd2⟩ := drop_cons hd
      have hw : IntKind.i64.wrap ((i : Int) + 1) = (i : Int) + 1 := IntWalk.i64_in _ (by omega)
      have hc := a68 (k + 1) (by omega) b0 b1 a x
      rw [loopF_step]
      by_cases hx : likeB a x = true
      · rw [hx] at hc
        refine ⟨.ret, .int .i64 i, .int .i64 i, .int .i64 i, .bool true, .bool true, ?_, .inr ⟨0, rfl, rfl, by simp [List.findIdx?_cons, hx]⟩⟩
        rw [← hb]
        simp [List.range_succ, hi, hg, hc]
      · have hx1 : likeB a x = false := by simpa using hx
        rw [hx1] at hc
        have step : body (roundStart 3 (polA.live 128 2) { tm := [.sl 0 1 (strs l), .fn (.func 68) [] [.ptr 2 0], .undef, .undef, .int .i64 0, x5, .undef, .int .i64 l.length, .int .i64 i, x9, .undef, .undef, .undef, .undef, .undef, .undef, x16, .undef, .undef], bx := [b0, b1, [.str x]], ln := [], dirty := [], up := false }) =
          some (.normal, { tm := [.sl 0 1 (strs l), .fn (.func 68) [] [.ptr 2 0], .undef, .undef, .int .i64 0, .int .i64 i, .undef, .int .i64 l.length, .int .i64 (i + 1 : Nat), .bool true, .undef, .undef, .undef, .undef, .undef, .undef, .bool false, .undef, .undef], bx := [b0, b1, [.str x]], ln := [], dirty := [], up := false }) := by
          rw [← hb]
          simp [List.range_succ, hi, hg, hc, hw]
        rw [step, nextL_normal]
        obtain ⟨e, y4, y5, y8, y9, y16, h1, h2⟩ := ih (i + 1) j (.int .i64 i) (.bool true) (.bool false) hd2 (by simp at hj; omega) rfl
        refine ⟨e, y4, y5, y8, y9, y16, h1, ?_⟩
        rcases h2 with ⟨rfl, h2⟩ | ⟨m, rfl, rfl, h2⟩
        · exact .inl ⟨rfl, by simp [List.findIdx?_cons, hx1, h2]⟩
        · exact .inr ⟨m + 1, rfl, by rw [show i + 1 + m = i + (m + 1) by omega], by simp [List.findIdx?_cons, hx1, h2]⟩
  obtain ⟨e, y4, y5, y8, y9, y16, h1, h2⟩ := key l 0 (k + 1) .undef .undef .undef rfl (by omega) rfl
  simp at h1
  unfold placeI
  rcases h2 with ⟨rfl, h2⟩ | ⟨m, rfl, rfl, h2⟩
  · simp [h1, h2, List.range_succ]
  · simp [h1, h2, List.range_succ]

theorem a67 (k : Nat) (l : List ByteArray) (x : ByteArray) (b0 b1 : List D) (h : l.length ≤ 1000000) (hk : l.length + 4 ≤ k) : callA k 67 [.sl 0 1 (strs l), .fn (.func 68) [] [.ptr 2 0]] [b0, b1, [.str x]] = some (.bool (decide (placeI l x ≥ 0)), [b0, b1, [.str x]], [], false) := by
  obtain ⟨k, rfl⟩ : ∃ j, k = j + 1 := ⟨k - 1, by omega⟩
  have hc := a128 k l x b0 b1 h (by omega)
  rw [callA_eq Try.func67 rfl (by decide) (by kernel_rfl)]
  simp [Try.f67, List.range_succ, hc]

theorem a14 (k : Nat) (a b c d n : Int) (l : List ByteArray) (x : ByteArray) (h : l.length ≤ 999999) (hk : l.length + 6 ≤ k) :
    callA k 14 [outD 0 a b l c d, .int .i64 n, .str x] [] =
      some (if likeB x ⟨#[]⟩ then .tup [outD 2 a b l c d, .bool false, .int .i64 1]
        else if placeI l x ≥ 0 then .tup [outD 1 a b l c d, .bool false, .int .i64 0]
        else if (l.length : Int) ≥ n then .tup [outD 1 a b l c d, .bool false, .int .i64 7]
        else if l = [] then .tup [outD 1 a b [x] 1 1, .bool true, .int .i64 0]
        else .tup [outD 1 a b (l ++ [x]) c d, .bool false, .int .i64 0], [], [], false) := by
  obtain ⟨k, rfl⟩ : ∃ j, k = j + 6 := ⟨k - 6, by omega⟩
  have h1 := a66 (k + 5) (by omega) a b c d l (by omega)
  have h2 := fun b0 b1 => a67 (k + 5) l x b0 b1 (by omega) (by omega)
  have h3 := a69 (k + 5) (by omega) c d
  simp only [outD, paceD] at h1 h3 ⊢
  rw [callA_eq Try.func14 rfl (by decide) (by kernel_rfl)]
  by_cases e1 : likeB x ⟨#[]⟩ = true
  · have e2 : (x.toList == (⟨#[]⟩ : ByteArray).toList) = true := e1
    simp [Try.f14, List.range_succ, h1, e1, e2]
  · have e1' : likeB x ⟨#[]⟩ = false := by simpa using e1
    have e2 : (x.toList == (⟨#[]⟩ : ByteArray).toList) = false := e1'
    by_cases e3 : placeI l x ≥ 0
    · have e3' : 0 ≤ placeI l x := e3
      simp [Try.f14, List.range_succ, h1, h2, e1', e2, e3']
    · have e3' : ¬ 0 ≤ placeI l x := e3
      by_cases e4 : (l.length : Int) ≥ n
      · have e4' : n ≤ (l.length : Int) := e4
        simp [Try.f14, List.range_succ, h1, h2, e1', e2, e3', e4']
      · have e4' : ¬ n ≤ (l.length : Int) := e4
        have r1 : (l.length + 1) * 16 ≤ room := by unfold room; omega
        have r2 : strs l ++ [[D.str x]] = strs (l ++ [x]) := by simp [strs]
        cases l with
        | nil =>
          rw [show strs [] = [] from rfl] at h1 h2 ⊢
          have e4' : ¬ n ≤ 0 := e4'
          simp [Try.f14, List.range_succ, h1, h2, h3, e1', e2, e3', e4', room, strs]
        | cons t l =>
          have e5 : (1 : Int) < (l.length : Int) + 1 + 1 := by omega
          have e4' : ¬ n ≤ (l.length : Int) + 1 := e4'
          simp at r1
          simp [Try.f14, List.range_succ, h1, h2, e1', e2, e3', e4', r1, r2, e5]

end Go.PI
