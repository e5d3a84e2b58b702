/- The page's example of layer 24. -/
import Derived.Test.YtoaadbakbfphgaaLg
namespace Go.PI
open Go Go.Proofs
set_option maxRecDepth 20000
set_option linter.unusedSimpArgs false
set_option maxHeartbeats 4000000

theorem a12 (k : Nat) (hk : 20 ≤ k) : callA k 12 [] [] = some (.bool true, [], [], false) := by
  obtain ⟨k, rfl⟩ : ∃ j, k = j + 20 := ⟨k - 20, by omega⟩
  have l1 : likeB ⟨#[97]⟩ ⟨#[]⟩ = false := by kernel_rfl
  have l2 : likeB ⟨#[98]⟩ ⟨#[]⟩ = false := by kernel_rfl
  have l3 : likeB ⟨#[97]⟩ ⟨#[98]⟩ = false := by kernel_rfl
  have l4 : likeB ⟨#[97]⟩ ⟨#[97]⟩ = true := by kernel_rfl
  have l5 : ((⟨#[98]⟩ : ByteArray).toList == (⟨#[98]⟩ : ByteArray).toList) = true := by kernel_rfl
  have h1 := a13 (k + 19) (by omega)
  have h2 := a14 (k + 19) 1 1 1 0 5 [] ⟨#[97]⟩ (by simp) (by simp)
  have h3 := a14 (k + 19) 1 1 1 1 5 [⟨#[97]⟩] ⟨#[98]⟩ (by simp) (by simp)
  have h4 := a14 (k + 19) 1 1 1 1 5 [⟨#[97]⟩, ⟨#[98]⟩] ⟨#[97]⟩ (by simp) (by simp)
  have h5 := a15 (k + 19) (by omega) 1 1 1 1 1 1 [⟨#[97]⟩, ⟨#[98]⟩] (by simp)
  have h6 := a64 (k + 19) (by omega) 1 2 1 1 [⟨#[98]⟩]
  have w : IntKind.i64.wrap 2 = 2 := by kernel_rfl
  simp [outD, l1, l2, l3, l4, placeI, List.findIdx?_cons, w] at h1 h2 h3 h4 h5 h6
  rw [callA_eq Try.func12 rfl (by decide) (by kernel_rfl)]
  simp [Try.f12, List.range_succ, h1, h2, h3, h4, h5, h6, l5]

end Go.PI
