/- Looking a string up: the reference's Place. -/
import Derived.Test.YtoaadbakbfphgaaLd
namespace Go.PI
open Go Go.Proofs
set_option maxRecDepth 20000
set_option linter.unusedSimpArgs false
set_option maxHeartbeats 4000000

def placeI (l : List ByteArray) (x : ByteArray) : Int :=
  match l.findIdx? (likeB · x) with
  | some i => i
  | none => -1

theorem drop_cons {l r : List ByteArray} {a : ByteArray} {i : Nat} (h : l.drop i = a :: r) : i < l.length ∧ (∀ h : i < (strs l).length, (strs l)[i] = [.str a]) ∧ l.drop (i + 1) = r := by
  have hi : i < l.length := by
    rcases Nat.lt_or_ge i l.length with hi | hi
    · exact hi
    · rw [List.drop_of_length_le hi] at h; cases h
  rw [List.drop_eq_getElem_cons hi] at h
  simp only [List.cons.injEq] at h
  exact ⟨hi, fun _ => by simp [strs, h.1], h.2⟩

theorem a19 (k : Nat) (l : List ByteArray) (x : ByteArray) (h : l.length ≤ 1000000) (hk : l.length + 2 ≤ k) : callA k 19 [.sl 0 1 (strs l), .str x] [] = some (.int .i64 (placeI l x), [], [], false) := by
  obtain ⟨k, rfl⟩ : ∃ j, k = j + 1 := ⟨k - 1, by omega⟩
  rw [callA_eq Try.func19 rfl (by decide) (by kernel_rfl)]
  simp [Try.f19, List.range_succ]
  rw [codeF_loop]
  generalize hb : codeF (callA k) tiA polA 19 0 k _ = body
  have key : ∀ (r : List ByteArray) (i j : Nat) (x9 x17 : D), l.drop i = r → r.length < j →
      (∃ m y9 y17, r.findIdx? (likeB · x) = some m ∧ loopF body (roundStart 0 (polA.live 19 2)) j { tm := [.sl 0 1 (strs l), .str x, .undef, .undef, .int .i64 0, .int .i64 i, .undef, .undef, .undef, x9, .undef, .undef, .undef, .undef, .undef, .undef, .undef, x17, .undef], bx := [], ln := [], dirty := [], up := false } =
        some (.ret, { tm := [.sl 0 1 (strs l), .str x, .undef, .undef, .int .i64 (i + m : Nat), .int .i64 (i + m : Nat), .undef, .undef, .undef, y9, .undef, .undef, .undef, .undef, .undef, .undef, .undef, y17, .undef], bx := [], ln := [], dirty := [], up := false })) ∨
      (∃ y5 y9 y17, r.findIdx? (likeB · x) = none ∧ loopF body (roundStart 0 (polA.live 19 2)) j { tm := [.sl 0 1 (strs l), .str x, .undef, .undef, .int .i64 0, .int .i64 i, .undef, .undef, .undef, x9, .undef, .undef, .undef, .undef, .undef, .undef, .undef, x17, .undef], bx := [], ln := [], dirty := [], up := false } =
        some (.exit 0, { tm := [.sl 0 1 (strs l), .str x, .undef, .undef, .int .i64 0, y5, .undef, .undef, .undef, y9, .undef, .undef, .undef, .undef, .undef, .undef, .undef, y17, .undef], bx := [], ln := [], dirty := [], up := false })) := by
    intro r
    induction r with
    | nil =>
      intro i j x9 x17 hd hj
      right
      obtain ⟨j, rfl⟩ : ∃ m, j = m + 1 := ⟨j - 1, by omega⟩
      have hi : l.length ≤ i := List.drop_eq_nil_iff.mp hd
      have hi2 : ¬ i < l.length := by omega
      rw [loopF_step, ← hb]
      refine ⟨.int .i64 i, .bool false, .undef, rfl, ?_⟩
      simp [List.range_succ, hi2]
    | cons a r ih =>
      intro i j x9 x17 hd hj
      obtain ⟨j, rfl⟩ : ∃ m, j = m + 1 := ⟨j - 1, by omega⟩
      obtain ⟨hi, hg, hd2⟩ := drop_cons hd
      have hw : IntKind.i64.wrap ((i : Int) + 1) = (i : Int) + 1 := IntWalk.i64_in _ (by omega)
      rw [loopF_step]
      by_cases hx : likeB a x = true
      · left
        have hx2 : (a.toList == x.toList) = true := hx
        refine ⟨0, .bool true, .bool true, by simp [List.findIdx?_cons, hx], ?_⟩
        rw [← hb]
        simp [List.range_succ, hi, hg, hx2]
      · have hx2 : (a.toList == x.toList) = false := by simpa [likeB] using hx
        have hf : (a :: r).findIdx? (likeB · x) = (r.findIdx? (likeB · x)).map (· + 1) := by simp [List.findIdx?_cons, hx]
        have step : body (roundStart 0 (polA.live 19 2) { tm := [.sl 0 1 (strs l), .str x, .undef, .undef, .int .i64 0, .int .i64 i, .undef, .undef, .undef, x9, .undef, .undef, .undef, .undef, .undef, .undef, .undef, x17, .undef], bx := [], ln := [], dirty := [], up := false }) =
          some (.normal, { tm := [.sl 0 1 (strs l), .str x, .undef, .undef, .int .i64 0, .int .i64 (i + 1 : Nat), .undef, .undef, .undef, .bool true, .undef, .undef, .undef, .undef, .undef, .undef, .undef, .bool false, .undef], bx := [], ln := [], dirty := [], up := false }) := by
          rw [← hb]
          simp [List.range_succ, hi, hg, hx2, hw]
        rw [step, nextL_normal, hf]
        rcases ih (i + 1) j (.bool true) (.bool false) hd2 (by simp at hj; omega) with ⟨m, y9, y17, h1, h2⟩ | ⟨y5, y9, y17, h1, h2⟩
        · left
          refine ⟨m + 1, y9, y17, by rw [h1]; rfl, ?_⟩
          rw [h2, show i + 1 + m = i + (m + 1) by omega]
        · right
          exact ⟨y5, y9, y17, by rw [h1]; rfl, h2⟩
  have hk2 := key l 0 k .undef .undef rfl (by omega)
  unfold placeI
  rcases hk2 with ⟨m, y9, y17, h1, h2⟩ | ⟨y5, y9, y17, h1, h2⟩
  · simp at h2
    simp [h1, h2]
  · simp at h2
    simp [h1, h2, List.range_succ]

end Go.PI
