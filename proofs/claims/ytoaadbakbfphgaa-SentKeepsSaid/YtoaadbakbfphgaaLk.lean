/- SentKeeps: what an outbox keeps to (no program in sight). -/
import Derived.Test.YtoaadbakbfphgaaLi
namespace Go.PI
open Go Go.Proofs

/-- What holds ahead of each round. -/
structure Kept3 (n : Int) (t : List ByteArray) (w p q : Int) : Prop where
  nodup : t.Nodup
  len : (t.length : Int) ≤ n
  q0 : 0 ≤ q
  q7 : q ≤ 7
  none : t = [] → q = 0
  some : t ≠ [] → (w = 1 ∨ w = 2 ∨ w = 4 ∨ w = 8) ∧ 1 ≤ p ∧ p ≤ w ∧ q + p ≤ w

theorem place_neg {t : List ByteArray} {x : ByteArray} (h : ¬ placeI t x ≥ 0) : x ∉ t := by
  intro hx
  unfold placeI at h
  cases hf : t.findIdx? (likeB · x) with
  | none =>
    have := List.findIdx?_eq_none_iff.mp hf x hx
    rw [likeB_iff.mpr rfl] at this
    cases this
  | some i =>
    rw [hf] at h
    simp only at h
    omega

theorem tick_ok {w p : Int} (h : (w = 1 ∨ w = 2 ∨ w = 4 ∨ w = 8) ∧ 1 ≤ p ∧ p ≤ w) :
    (1 < p ∧ tickP w p = (w, p - 1, false)) ∨ ∃ w', (w' = 1 ∨ w' = 2 ∨ w' = 4 ∨ w' = 8) ∧ tickP w p = (w', w', true) := by
  obtain ⟨hw, h1, h2⟩ := h
  have hb : (bitsOf .and .i64 w (IntKind.i64.wrap (w - 1)) == 0) = true := by
    rcases hw with rfl | rfl | rfl | rfl <;> kernel_rfl
  have hok : paceOk w p = true := by
    have a1 : ¬ w < 1 := by omega
    have a2 : ¬ w > 8 := by omega
    have a3 : ¬ p < 0 := by omega
    have a4 : ¬ p > w := by omega
    simp [paceOk, a1, a2, a3, a4, hb]
  have hf : fineP w p = (w, p) := by simp [fineP, hok]
  have wp : IntKind.i64.wrap (p - 1) = p - 1 := IntWalk.i64_in _ (by omega)
  have ww : IntKind.i64.wrap (2 * w) = 2 * w := IntWalk.i64_in _ (by omega)
  unfold tickP
  rw [hf]
  unfold tickF
  simp only [wp, ww]
  rw [if_neg (by omega)]
  by_cases hp : 0 < p - 1
  · left
    rw [if_pos hp]
    exact ⟨by omega, rfl⟩
  · right
    rw [if_neg hp]
    split
    · exact ⟨8, by simp, rfl⟩
    · exact ⟨2 * w, by omega, rfl⟩

/-- How many ticks without a word there are behind a call. -/
def quiet (told : Bool) (t : List ByteArray) (q : Int) : Int := if told = true ∨ t = [] then 0 else q

theorem put_ok (k : Nat) (hk : 400 ≤ k) {n : Int} (hn : n ≤ 255) (a b : Int) {t : List ByteArray} {w p q : Int} (h : Kept3 n t w p q) (x : ByteArray) :
    ∃ f t' w' p' told e, callA k 14 [outD 0 a b t w p, .int .i64 n, .str x] [] = some (.tup [outD f a b t' w' p', .bool told, .int .i64 e], [], [], false) ∧ (f = 1 ∨ f = 2) ∧ Kept3 n t' w' p' (quiet told t' q) ∧ ¬ t'.length < t.length := by
  have hlen := h.len
  have hc := a14 k a b w p n t x (by omega) (by omega)
  have same : Kept3 n t w p (quiet false t q) := by
    have : quiet false t q = q := by
      unfold quiet
      split
      · rename_i ht
        simp at ht
        exact (h.none ht).symm
      · rfl
    rw [this]; exact h
  split at hc
  · exact ⟨2, t, w, p, false, 1, hc, .inr rfl, same, by omega⟩
  · split at hc
    · exact ⟨1, t, w, p, false, 0, hc, .inl rfl, same, by omega⟩
    · rename_i hpl
      split at hc
      · exact ⟨1, t, w, p, false, 7, hc, .inl rfl, same, by omega⟩
      · rename_i hnl
        have hx := place_neg hpl
        split at hc
        · rename_i ht0
          subst ht0
          refine ⟨1, [x], 1, 1, true, 0, hc, .inl rfl, ⟨by simp, by simp at hnl ⊢; omega, by simp [quiet], by simp [quiet], by simp, fun _ => by simp [quiet]⟩, by simp⟩
        · rename_i ht0
          have hq : quiet false (t ++ [x]) q = q := by simp [quiet]
          refine ⟨1, t ++ [x], w, p, false, 0, hc, .inl rfl, ⟨?_, by simp; omega, by rw [hq]; exact h.q0, by rw [hq]; exact h.q7, by simp, fun _ => by rw [hq]; exact h.some ht0⟩, by simp⟩
          rw [List.nodup_append]
          exact ⟨h.nodup, by simp, fun y hy z hz e => hx (by simp at hz; rw [← hz, ← e]; exact hy)⟩

theorem ack_ok (k : Nat) (hk : 400 ≤ k) {n : Int} (hn : n ≤ 255) (a b c d : Int) {t : List ByteArray} {w p q : Int} (h : Kept3 n t w p q) :
    ∃ f b' t' w' p' told, callA k 15 [outD 0 a b t w p, .int .i64 c, .int .i64 d] [] = some (.tup [outD f a b' t' w' p', .bool told], [], [], false) ∧ (f = 0 ∨ f = 2) ∧ Kept3 n t' w' p' (quiet told t' q) ∧ (t'.length < t.length → t' = t.drop 1) := by
  have hlen := h.len
  have hc := a15 k (by omega) a b w p c d t (by omega)
  by_cases hno : t = [] ∨ c ≠ a ∨ d ≠ b
  · have hb : (!(decide (t = []) || decide (c ≠ a) || decide (d ≠ b)) && !t.tail.isEmpty) = false := by
      rcases hno with h | h | h <;> simp [h]
    rw [if_pos hno, hb] at hc
    have : quiet false t q = q := by
      unfold quiet
      split
      · rename_i ht
        simp at ht
        exact (h.none ht).symm
      · rfl
    exact ⟨2, b, t, w, p, false, hc, .inr rfl, by rw [this]; exact h, by omega⟩
  · simp only [not_or, Decidable.not_not] at hno
    obtain ⟨h0, rfl, rfl⟩ := hno
    rw [if_neg (by simp [h0])] at hc
    have hnd : t.tail.Nodup := h.nodup.sublist (List.tail_sublist t)
    have htl : t.tail.length + 1 = t.length := by cases t <;> simp at h0 ⊢
    by_cases ht : t.tail = []
    · rw [if_pos ht] at hc
      simp only [ht, List.isEmpty_nil, Bool.not_true, Bool.and_false] at hc
      exact ⟨0, _, [], 1, 0, false, hc, .inl rfl, ⟨by simp, by simp; omega, by simp [quiet], by simp [quiet], fun _ => by simp [quiet], fun h => absurd rfl h⟩, fun _ => by rw [List.drop_one]; exact ht.symm⟩
    · rw [if_neg ht] at hc
      have he : t.tail.isEmpty = false := by simpa using ht
      simp only [h0, he] at hc
      simp at hc
      refine ⟨0, _, t.tail, 1, 1, true, hc, .inl rfl, ⟨hnd, by omega, by simp [quiet], by simp [quiet], fun e => absurd e ht, fun _ => by simp [quiet]⟩, fun _ => by simp⟩

theorem learn_ok (k : Nat) (hk : 400 ≤ k) {n : Int} (hn : n ≤ 255) (a b c : Int) {t : List ByteArray} {w p q : Int} (h : Kept3 n t w p q) :
    ∃ f a' b' w' p' told, callA k 16 [outD 0 a b t w p, .int .i64 c] [] = some (.tup [outD f a' b' t w' p', .bool told], [], [], false) ∧ (f = 0 ∨ f = 2) ∧ Kept3 n t w' p' (quiet told t q) := by
  have hlen := h.len
  have hc := a16 k (by omega) a b w p c t (by omega)
  have same : quiet false t q = q := by
    unfold quiet
    split
    · rename_i ht
      simp at ht
      exact (h.none ht).symm
    · rfl
  by_cases hle : c ≤ a
  · rw [if_pos hle] at hc
    simp only [hle, decide_true, Bool.not_true, Bool.false_and] at hc
    exact ⟨2, a, b, w, p, false, hc, .inr rfl, by rw [same]; exact h⟩
  · rw [if_neg hle] at hc
    simp only [hle, decide_false, Bool.not_false, Bool.true_and] at hc
    by_cases ht : t = []
    · subst ht
      rw [if_pos rfl] at hc
      simp only [List.isEmpty_nil, Bool.not_true] at hc
      exact ⟨0, c, 1, w, p, false, hc, .inl rfl, by rw [same]; exact h⟩
    · rw [if_neg ht] at hc
      have he : t.isEmpty = false := by simpa using ht
      simp only [he, Bool.not_false] at hc
      exact ⟨0, c, 1, 1, 1, true, hc, .inl rfl, ⟨h.nodup, h.len, by simp [quiet], by simp [quiet], fun e => absurd e ht, fun _ => by simp [quiet]⟩⟩

theorem ticks_ok (k : Nat) (hk : 400 ≤ k) {n : Int} (hn : n ≤ 255) (a b : Int) {t : List ByteArray} {w p q : Int} (h : Kept3 n t w p q) :
    ∃ w' p' told, callA k 17 [outD 0 a b t w p] [] = some (.tup [outD 2 a b t w' p', .bool told], [], [], false) ∧ Kept3 n t w' p' (quiet told t (q + 1)) := by
  have hlen := h.len
  have hc := a17 k (by omega) a b w p t (by omega)
  by_cases ht : t = []
  · subst ht
    rw [if_pos rfl] at hc
    simp only [List.isEmpty_nil, Bool.not_true, Bool.false_and] at hc
    exact ⟨w, p, false, hc, ⟨by simp, h.len, by simp [quiet], by simp [quiet], fun _ => by simp [quiet], fun e => absurd rfl e⟩⟩
  · rw [if_neg ht] at hc
    have he : t.isEmpty = false := by simpa using ht
    simp only [he, Bool.not_false, Bool.true_and] at hc
    obtain ⟨hw, h1, h2, h3⟩ := h.some ht
    have hq0 := h.q0
    rcases tick_ok ⟨hw, h1, h2⟩ with ⟨hp, hT⟩ | ⟨w', hw', hT⟩
    · rw [hT] at hc
      have hq : quiet false t (q + 1) = q + 1 := by simp [quiet, ht]
      exact ⟨w, p - 1, false, hc, ⟨h.nodup, h.len, by rw [hq]; omega, by rw [hq]; omega, fun e => absurd e ht, fun _ => by rw [hq]; exact ⟨hw, by omega, by omega, by omega⟩⟩⟩
    · rw [hT] at hc
      exact ⟨w', w', true, hc, ⟨h.nodup, h.len, by simp [quiet], by simp [quiet], fun e => absurd e ht, fun _ => by simp only [quiet, true_or, if_true]; exact ⟨hw', by omega, by omega, by omega⟩⟩⟩

end Go.PI
