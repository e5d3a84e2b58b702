/- The reference's Same. -/
import Derived.Test.YtoaadbakbfphgaaLe
namespace Go.PI
open Go Go.Proofs
set_option maxRecDepth 20000
set_option linter.unusedSimpArgs false
set_option maxHeartbeats 4000000

def sameB (l m : List ByteArray) : Bool := l.length == m.length && (l.zip m).all fun p => likeB p.1 p.2

theorem a18 (k : Nat) (l m : List ByteArray) (h : l.length ≤ 1000000) (hk : l.length + 2 ≤ k) : callA k 18 [.sl 0 1 (strs l), .sl 0 1 (strs m)] [] = some (.bool (sameB l m), [], [], false) := by
  obtain ⟨k, rfl⟩ : ∃ j, k = j + 1 := ⟨k - 1, by omega⟩
  rw [callA_eq Try.func18 rfl (by decide) (by kernel_rfl)]
  by_cases hl : l.length = m.length
  · have hl2 : (l.length : Int) = (m.length : Int) := by omega
    have hl3 : ((l.length : Int) != (m.length : Int)) = false := by simp [hl2]
    simp [Try.f18, List.range_succ, hl, hl2, hl3]
    rw [codeF_loop]
    generalize hb : codeF (callA k) tiA polA 18 0 k _ = body
    have key : ∀ (r q : List ByteArray) (i j : Nat) (x14 x25 : D), l.drop i = r → m.drop i = q → r.length < j →
        ∃ e y4 y5 y14 y25, loopF body (roundStart 0 (polA.live 18 4)) j { tm := [.sl 0 1 (strs l), .sl 0 1 (strs m), .undef, .undef, .bool false, .int .i64 i, .undef, .undef, .undef, .undef, .bool false, .undef, .undef, .undef, x14, .undef, .undef, .undef, .undef, .undef, .undef, .undef, .undef, .undef, .undef, x25], bx := [], ln := [], dirty := [], up := false } =
          some (e, { tm := [.sl 0 1 (strs l), .sl 0 1 (strs m), .undef, .undef, y4, y5, .undef, .undef, .undef, .undef, .bool false, .undef, .undef, .undef, y14, .undef, .undef, .undef, .undef, .undef, .undef, .undef, .undef, .undef, .undef, y25], bx := [], ln := [], dirty := [], up := false }) ∧
          ((e = .exit 0 ∧ (r.zip q).all (fun p => likeB p.1 p.2) = true) ∨ (e = .ret ∧ y4 = .bool false ∧ (r.zip q).all (fun p => likeB p.1 p.2) = false)) := by
      intro r
      induction r with
      | nil =>
        intro q i j x14 x25 hd hd2 hj
        obtain ⟨j, rfl⟩ : ∃ m, j = m + 1 := ⟨j - 1, by omega⟩
        have hi : l.length ≤ i := List.drop_eq_nil_iff.mp hd
        have hi2 : ¬ i < m.length := by omega
        rw [loopF_step, ← hb]
        refine ⟨.exit 0, .bool false, .int .i64 i, .bool false, .undef, ?_, .inl ⟨rfl, rfl⟩⟩
        simp [List.range_succ, hl, hi2]
      | cons a r ih =>
        intro q i j x14 x25 hd hd2 hj
        obtain ⟨j, rfl⟩ : ∃ m, j = m + 1 := ⟨j - 1, by omega⟩
        obtain ⟨hi, hg, hd3⟩ := drop_cons hd
        cases q with
        | nil =>
          have := List.drop_eq_nil_iff.mp hd2
          omega
        | cons b q =>
          obtain ⟨hi2, hg2, hd4⟩ := drop_cons hd2
          have hw : IntKind.i64.wrap ((i : Int) + 1) = (i : Int) + 1 := IntWalk.i64_in _ (by omega)
          rw [loopF_step]
          by_cases hx : likeB a b = true
          · have hx2 : (a.toList == b.toList) = true := hx
            have step : body (roundStart 0 (polA.live 18 4) { tm := [.sl 0 1 (strs l), .sl 0 1 (strs m), .undef, .undef, .bool false, .int .i64 i, .undef, .undef, .undef, .undef, .bool false, .undef, .undef, .undef, x14, .undef, .undef, .undef, .undef, .undef, .undef, .undef, .undef, .undef, .undef, x25], bx := [], ln := [], dirty := [], up := false }) =
              some (.normal, { tm := [.sl 0 1 (strs l), .sl 0 1 (strs m), .undef, .undef, .bool false, .int .i64 (i + 1 : Nat), .undef, .undef, .undef, .undef, .bool false, .undef, .undef, .undef, .bool true, .undef, .undef, .undef, .undef, .undef, .undef, .undef, .undef, .undef, .undef, .bool false], bx := [], ln := [], dirty := [], up := false }) := by
              rw [← hb]
              simp [List.range_succ, hl, hi, hi2, hg, hg2, hx2, hw]
            rw [step, nextL_normal]
            obtain ⟨e, y4, y5, y14, y25, h1, h2⟩ := ih q (i + 1) j (.bool true) (.bool false) hd3 hd4 (by simp at hj; omega)
            refine ⟨e, y4, y5, y14, y25, h1, ?_⟩
            simpa [hx] using h2
          · have hx1 : likeB a b = false := by simpa using hx
            have hx2 : (a.toList == b.toList) = false := hx1
            refine ⟨.ret, .bool false, .int .i64 i, .bool true, .bool true, ?_, .inr ⟨rfl, rfl, by simp [hx1]⟩⟩
            rw [← hb]
            simp [List.range_succ, hl, hi, hi2, hg, hg2, hx2]
    obtain ⟨e, y4, y5, y14, y25, h1, h2⟩ := key l m 0 k .undef .undef rfl rfl (by omega)
    simp at h1
    have hs : sameB l m = (l.zip m).all fun p => likeB p.1 p.2 := by simp [sameB, hl]
    rcases h2 with ⟨rfl, h2⟩ | ⟨rfl, rfl, h2⟩
    · rw [hs, h2]
      simp [h1, List.range_succ]
    · rw [hs, h2]
      simp [h1, List.range_succ]
  · have hl2 : ¬ (l.length : Int) = (m.length : Int) := by omega
    have hl3 : ((l.length : Int) != (m.length : Int)) = true := by simp [hl2]
    simp [Try.f18, List.range_succ, hl3, sameB, hl]

end Go.PI
