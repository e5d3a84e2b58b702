import Derived.Test.YtoaadbakbfphgaaWz
section
/- The functions of packages pace, sent, seen and pack, in plain words. -/
namespace Go.PI
open Go Go.Proofs
set_option linter.unusedSimpArgs false
set_option linter.unusedVariables false

abbrev Txt := List ByteArray
abbrev OutT := Int × Int × Txt × Int × Int
abbrev InT := Int × Int × Int
abbrev EndT := Int × Int × Int × OutT × InT
abbrev PktT := Int × Int × Int × Int × Int × Int × ByteArray

def noB : ByteArray := ⟨#[]⟩

/-- Few enough for an append. -/
def Few (l : Txt) : Prop := l.length ≤ 1000000

theorem few_fits {l : Txt} (h : Few l) : (0 + l.length) * 16 ≤ room := by
  unfold room
  unfold Few at h
  omega

theorem l65 : q65 fnL () = some (1, 0) := u65 rfl
theorem l70 {l : Txt} (h : Few l) : q70 fnL l = some l := u70 (by
  have := few_fits h
  have h2 : l.length * 16 ≤ room := by simpa using this
  cases l with
  | nil => simp [g70, std, bothT]
  | cons a l => simp [g70] at h2 ⊢; simp [h2])
theorem l66 {o : OutT} (h : Few o.2.2.1) : q66 fnL o = some o := u66 (by simp [g66, l70 h])
theorem l69 (p : Int × Int) : q69 fnL p = some (1, 1) := u69 (by simp [g69, l65])
theorem l71 (p : Int × Int) : q71 fnL p = some (1, 0) := u71 (by
  obtain ⟨a, b⟩ := p
  simp only [g71, l65, optK_some_eq]
  by_cases ha : a = 1
  · by_cases hb : b = 0 <;> simp [ha, hb]
  · simp [ha])

def sendsF (o : OutT) : OutT × Bool := if o.2.2.1 = [] then (o, false) else ((o.1, o.2.1, o.2.2.1, 1, 1), true)

theorem l72 (o : OutT) : q72 fnL o = some (sendsF o) := u72 (by
  obtain ⟨a, b, l, c, d⟩ := o
  cases l with
  | nil => simp [g72, sendsF]
  | cons t l =>
    have h : ¬ ((l.length : Int) + 1 = 0) := by omega
    simp [g72, sendsF, l69, h])

def ackF (o : OutT) (peer seq : Int) : OutT × Bool :=
  if o.2.2.1 = [] ∨ peer ≠ o.1 ∨ seq ≠ o.2.1 then (o, false) else sendsF (o.1, IntKind.i64.wrap (o.2.1 + 1), o.2.2.1.tail, 1, 0)

theorem l15 {o : OutT} (h : Few o.2.2.1) (peer seq : Int) : q15 fnL (o, peer, seq) = some (ackF o peer seq) := u15 (by
  obtain ⟨a, b, l, c, d⟩ := o
  simp only [g15, l66 h, optK_some_eq]
  cases l with
  | nil => simp [ackF]
  | cons t l =>
    have h0 : ¬ ((l.length : Int) + 1 = 0) := by omega
    have hf : Few l := by unfold Few at h ⊢; simp at h; omega
    have hb : (1 : Int) ≤ (l.length : Int) + 1 := by omega
    by_cases h1 : peer = a
    · by_cases h2 : seq = b
      · subst h1 h2
        simp [ackF, h0, hb, l70 hf, l71, l72]
      · simp [ackF, h0, h1, h2]
    · simp [ackF, h0, h1])

def learnO' (o : OutT) (p : Int) : OutT × Bool := if p ≤ o.1 then (o, false) else sendsF (p, 1, o.2.2)

theorem l16 {o : OutT} (h : Few o.2.2.1) (p : Int) : q16 fnL (o, p) = some (learnO' o p) := u16 (by
  simp only [g16, l66 h, optK_some_eq, l72, s_le, cond_dec, learnO']
  split <;> rfl)

def paceB (p : Int × Int) : Bool := decide (1 ≤ p.1) && decide (p.1 ≤ 8) && decide (0 ≤ p.2) && decide (p.2 ≤ p.1) && decide (bitsOf .and .i64 p.1 (IntKind.i64.wrap (p.1 - 1)) = 0)

theorem l170 (p : Int × Int) : q170 fnL p = some (paceB p) := u170 (by
  obtain ⟨a, b⟩ := p
  simp only [g170, s_lt, s_eq, s_bits, s_wrap, s_sub, cond_dec, paceB]
  by_cases h1 : a < 1
  · simp [h1, show ¬ 1 ≤ a by omega]
  · by_cases h2 : 8 < a
    · simp [h1, h2, show ¬ a ≤ 8 by omega]
    · by_cases h3 : b < 0
      · simp [h1, h2, h3, show ¬ 0 ≤ b by omega]
      · by_cases h4 : a < b
        · simp [h1, h2, h3, h4, show ¬ b ≤ a by omega]
        · simp [h1, h2, h3, h4, show 1 ≤ a by omega, show a ≤ 8 by omega, show 0 ≤ b by omega, show b ≤ a by omega])

def fineF (p : Int × Int) : Int × Int := if paceB p then p else (1, 0)

theorem l129 (p : Int × Int) : q129 fnL p = some (fineF p) := u129 (by
  simp only [g129, l170, optK_some_eq, l65, s_not, fineF]
  cases paceB p <;> rfl)

def ptick (p : Int × Int) : (Int × Int) × Bool :=
  let p := fineF p
  if p.2 = 0 then (p, false)
  else if 0 < IntKind.i64.wrap (p.2 - 1) then ((p.1, IntKind.i64.wrap (p.2 - 1)), false)
  else (((if 8 < IntKind.i64.wrap (2 * p.1) then 8 else IntKind.i64.wrap (2 * p.1)), (if 8 < IntKind.i64.wrap (2 * p.1) then 8 else IntKind.i64.wrap (2 * p.1))), true)

theorem l73 (p : Int × Int) : q73 fnL p = some (ptick p) := u73 (by
  simp only [g73, l129, optK_some_eq, s_eq, s_lt, s_wrap, s_sub, s_mul, s_min, cond_dec, ptick]
  split
  · rfl
  · split <;> rfl)

def tickO (o : OutT) : OutT × Bool := if o.2.2.1 = [] then (o, false) else ((o.1, o.2.1, o.2.2.1, (ptick o.2.2.2).1), (ptick o.2.2.2).2)

theorem l17 {o : OutT} (h : Few o.2.2.1) : q17 fnL o = some (tickO o) := u17 (by
  obtain ⟨a, b, l, c⟩ := o
  simp only [g17, l66 h, optK_some_eq, l73]
  cases l with
  | nil => simp [tickO]
  | cons t l =>
    have h0 : ¬ ((l.length : Int) + 1 = 0) := by omega
    simp [tickO, h0])

def firstF (l : Txt) : ByteArray := l.headD noB

theorem l64 (o : OutT) : q64 fnL o = some (firstF o.2.2.1) := u64 (by
  obtain ⟨a, b, l, c⟩ := o
  cases l with
  | nil => simp [g64, firstF, noB]
  | cons t l =>
    have h0 : ¬ ((l.length : Int) + 1 = 0) := by omega
    have h1 : (0 : Int) < (l.length : Int) + 1 := by omega
    simp [g64, firstF, h0, h1])

/-- Rounds over indices: up to n. -/
theorem upto {σ β : Type} {f : σ → Option (σ ⊕ β)} (st : Nat → σ) (n : Nat) (h : ∀ i, i < n → f (st i) = some (.inl (st (i + 1)))) : loopL f (st 0) = loopL f (st n) := by
  induction n with
  | zero => rfl
  | succ n ih => rw [ih fun i hi => h i (by omega), loop_step (h n (by omega))]

/-- .. or till one stops. -/
theorem till {σ β : Type} {f : σ → Option (σ ⊕ β)} (st : Nat → σ) (n : Nat) {b : β} (h : ∀ i, i < n → f (st i) = some (.inl (st (i + 1)))) (hb : f (st n) = some (.inr b)) : loopL f (st 0) = some b := by
  rw [upto st n h]
  exact loop_stop hb

theorem wrap_small {n : Int} (h : 0 ≤ n) (h2 : n < 9223372036854775808) : IntKind.i64.wrap n = n := by
  rw [IntKind.wrap_i64]; omega

end Go.PI
end
section
/- Outboxes and ends: the program's functions and the document's, both in plain words. -/
namespace Go.PI
open Go Go.Proofs
set_option linter.unusedSimpArgs false
set_option linter.unusedVariables false

/-- Where a text is first. -/
def findN (l : Txt) (t : ByteArray) : Nat := l.findIdx fun s => decide (s = t)
def placeF (l : Txt) (t : ByteArray) : Int := if findN l t < l.length then (findN l t : Int) else -1

theorem find_lt {l : Txt} {t : ByteArray} {i : Nat} (h : i < findN l t) : i < l.length ∧ l.getD i noB ≠ t := by
  have hl : i < l.length := Nat.lt_of_lt_of_le h List.findIdx_le_length
  refine ⟨hl, ?_⟩
  have := List.not_of_lt_findIdx h
  simp only [List.getD_eq_getElem?_getD, List.getElem?_eq_getElem hl, Option.getD_some]
  simpa using this

theorem find_at {l : Txt} {t : ByteArray} (h : findN l t < l.length) : l.getD (findN l t) noB = t := by
  have := List.findIdx_getElem (w := h)
  unfold findN at h ⊢
  simp only [List.getD_eq_getElem?_getD, List.getElem?_eq_getElem h, Option.getD_some]
  simpa using this

theorem find_le (l : Txt) (t : ByteArray) : findN l t ≤ l.length := List.findIdx_le_length

theorem wrap_succ {i : Nat} (h : i < 9223372036854775807) : IntKind.i64.wrap ((i : Int) + 1) = ((i + 1 : Nat) : Int) := by
  rw [wrap_small (by omega) (by omega)]
  rfl

theorem place_nn (l : Txt) (t : ByteArray) : (0 ≤ placeF l t) ↔ t ∈ l := by
  unfold placeF
  constructor
  · intro h
    split at h
    · rename_i hl
      have := find_at hl
      rw [← this, List.getD_eq_getElem?_getD, List.getElem?_eq_getElem hl]
      exact List.getElem_mem hl
    · omega
  · intro h
    have : findN l t < l.length := List.findIdx_lt_length_of_exists ⟨t, h, by simp⟩
    rw [if_pos this]
    omega

theorem l68 (s : ByteArray) (a : Unit) (o1 o2 : OutT) (t : ByteArray) : q68 fnL (s, a, o1, o2, t) = some (decide (s = t), o1, o2, t) := u68 (by simp [g68])

theorem l128 {l : Txt} (hl : Few l) (o1 o2 : OutT) (t : ByteArray) : q128 fnL (l, ((), ()), o1, o2, t) = some (placeF l t, o1, o2, t) := u128 (by
  simp only [g128, s_loop]
  refine till (fun i : Nat => (l, ((), ()), (l.length : Int), (i : Int), o1, o2, t)) (findN l t) (fun i hi => ?_) ?_
  · obtain ⟨h1, h2⟩ := find_lt hi
    have h3 : (i : Int) < (l.length : Int) := by omega
    have h2' : ¬ (l[i]?.getD noB) = t := by simpa [List.getD_eq_getElem?_getD] using h2
    have hf : i < 9223372036854775807 := by unfold Few at hl; omega
    simp [h1, l68, wrap_succ hf, h2', noB] at h2' ⊢
    simp [h2']
  · by_cases h : findN l t < l.length
    · have h2 := find_at h
      have h3 : l[findN l t]?.getD noB = t := by simpa [List.getD_eq_getElem?_getD] using h2
      simp [h, l68, placeF, noB] at h3 ⊢
      simp [h3]
    · have h3 : ¬ ((findN l t : Nat) : Int) < (l.length : Int) := by omega
      simp [h, placeF])

theorem l67 {l : Txt} (hl : Few l) (o1 o2 : OutT) (t : ByteArray) : q67 fnL (l, ((), ()), o1, o2, t) = some (decide (0 ≤ placeF l t), o1, o2, t) := u67 (by
  simp [g67, l128 hl])

theorem l19 {l : Txt} (hl : Few l) (t : ByteArray) : q19 fnL (l, t) = some (placeF l t) := u19 (by
  simp only [g19, s_loop]
  refine till (fun i : Nat => (l, t, (i : Int))) (findN l t) (fun i hi => ?_) ?_
  · obtain ⟨h1, h2⟩ := find_lt hi
    have h2' : ¬ (l[i]?.getD noB) = t := by simpa [List.getD_eq_getElem?_getD] using h2
    have hf : i < 9223372036854775807 := by unfold Few at hl; omega
    simp [h1, wrap_succ hf, noB] at h2' ⊢
    simp [h2']
  · by_cases h : findN l t < l.length
    · have h2 := find_at h
      have h3 : l[findN l t]?.getD noB = t := by simpa [List.getD_eq_getElem?_getD] using h2
      simp [h, placeF, noB] at h3 ⊢
      simp [h3]
    · simp [h, placeF])

/-- Put. -/
def putO (o : OutT) (n : Int) (t : ByteArray) : OutT × Bool × Int :=
  if t = noB then (o, false, 1)
  else if 0 ≤ placeF o.2.2.1 t then (o, false, 0)
  else if n ≤ o.2.2.1.length then (o, false, 7)
  else if o.2.2.1 = [] then ((o.1, o.2.1, [t], 1, 1), true, 0)
  else ((o.1, o.2.1, o.2.2.1 ++ [t], o.2.2.2), false, 0)

theorem l14 {o : OutT} (hl : o.2.2.1.length ≤ 900000) (n : Int) (t : ByteArray) : q14 fnL (o, n, t) = some (putO o n t) := u14 (by
  obtain ⟨a, b, l, c, d⟩ := o
  have hf : Few l := by unfold Few; simp at hl; omega
  have hr : (l.length + 1) * 16 ≤ room := by unfold room; simp at hl; omega
  simp only [g14, l66 (o := (a, b, l, c, d)) hf, optK_some_eq, s_eqS]
  by_cases h1 : t = noB
  · simp [h1, putO, noB]
  · by_cases h2 : 0 ≤ placeF l t
    · simp [noB] at h1
      simp [h1, h2, putO, noB, l67 hf]
    · by_cases h3 : n ≤ l.length
      · simp [noB] at h1
        simp [h1, h2, h3, putO, noB, l67 hf]
      · simp [noB] at h1
        cases l with
        | nil =>
          have h3' : ¬ n ≤ 0 := by simpa using h3
          have h2' : ¬ 0 ≤ placeF [] t := h2
          have hr1 : 16 ≤ room := by unfold room; omega
          simp [h1, h2', h3', putO, noB, l67 hf, l69, hr1]
        | cons x l =>
          simp at hr
          have h5 : (1 : Int) < (l.length : Int) + 1 + 1 := by omega
          have h3' : ¬ n ≤ (l.length : Int) + 1 := by simpa using h3
          simp [h1, h2, h3', putO, noB, l67 hf, hr, h5])

end Go.PI
end
section
/- Ends: what is put, ticks, and the document's answers to both. -/
namespace Go.PI
open Go Go.Proofs
set_option linter.unusedSimpArgs false
set_option linter.unusedVariables false

theorem l83 {o : OutT} (hl : o.2.2.1.length ≤ 900000) (n : Int) (t : ByteArray) : q83 fnL (o, n, t) = some (putO o n t) := u83 (by
  obtain ⟨a, b, l, c, d⟩ := o
  have hf : Few l := by unfold Few; simp at hl; omega
  have hr : (l.length + 1) * 16 ≤ room := by unfold room; simp at hl; omega
  have hr2 : l.length * 16 ≤ room := by omega
  simp only [g83, s_eqS]
  by_cases h1 : t = noB
  · simp [h1, putO, noB]
  · by_cases h2 : 0 ≤ placeF l t
    · simp [noB] at h1
      simp [h1, h2, putO, noB, l19 hf]
    · by_cases h3 : n ≤ l.length
      · simp [noB] at h1
        simp [h1, h2, h3, putO, noB, l19 hf]
      · simp [noB] at h1
        cases l with
        | nil =>
          have h3' : ¬ n ≤ 0 := by simpa using h3
          have h2' : ¬ 0 ≤ placeF [] t := h2
          have hr1 : 16 ≤ room := by unfold room; omega
          simp [h1, h2', h3', putO, noB, l19 hf, hr1]
        | cons x l =>
          simp at hr hr2
          have h5 : ¬ ((l.length : Int) + 1 + 1 = 1) := by omega
          have h3' : ¬ n ≤ (l.length : Int) + 1 := by simpa using h3
          simp [h1, h2, h3', putO, noB, l19 hf, hr, hr2, h5])

def dataF (e : EndT) (send : Bool) : List PktT := if send then [(1, e.1, e.2.1, e.2.2.1, e.2.2.2.1.1, e.2.2.2.1.2.1, firstF e.2.2.2.1.2.2.1)] else []

theorem l77 (e : EndT) (send : Bool) : q77 fnL (e, send) = some (dataF e send) := u77 (by
  cases send <;> simp [g77, dataF, l64])

theorem l84 (e : EndT) (send : Bool) (h : send = true → e.2.2.2.1.2.2.1 ≠ []) : q84 fnL (e, send) = some (dataF e send) := u84 (by
  obtain ⟨a, b, c, ⟨p, s, l, w⟩, i⟩ := e
  cases send with
  | false => simp [g84, dataF]
  | true =>
    have := h rfl
    cases l with
    | nil => exact (this rfl).elim
    | cons t l =>
      have h1 : (0 : Int) < (l.length : Int) + 1 := by omega
      simp [g84, dataF, firstF, h1])

def withO (e : EndT) (o : OutT) : EndT := (e.1, e.2.1, e.2.2.1, o, e.2.2.2.2)

def putE (e : EndT) (n : Int) (t : ByteArray) : EndT × List PktT × Int :=
  if 32 < (t.size : Int) then (e, [], 1)
  else (withO e (putO e.2.2.2.1 n t).1, dataF (withO e (putO e.2.2.2.1 n t).1) (putO e.2.2.2.1 n t).2.1, (putO e.2.2.2.1 n t).2.2)

theorem putO_send (o : OutT) (n : Int) (t : ByteArray) (h : (putO o n t).2.1 = true) : (putO o n t).1.2.2.1 ≠ [] := by
  unfold putO at h ⊢
  split at h <;> rename_i h1
  · cases h
  · rw [if_neg h1]
    split at h <;> rename_i h2
    · cases h
    · rw [if_neg h2]
      split at h <;> rename_i h3
      · cases h
      · rw [if_neg h3]
        split <;> simp

theorem l26 {e : EndT} (hl : e.2.2.2.1.2.2.1.length ≤ 900000) (n : Int) (t : ByteArray) : q26 fnL (e, n, t) = some (putE e n t) := u26 (by
  obtain ⟨a, b, c, o, i⟩ := e
  simp only [g26, s_size, s_lt]
  by_cases h : 32 < (t.size : Int)
  · simp [h, putE]
  · simp [h, putE, l14 (o := o) hl, l77, withO])

theorem l31 {e : EndT} (hl : e.2.2.2.1.2.2.1.length ≤ 900000) (n : Int) (t : ByteArray) : q31 fnL (e, n, t) = some (putE e n t) := u31 (by
  obtain ⟨a, b, c, o, i⟩ := e
  simp only [g31, s_size, s_lt]
  by_cases h : 32 < (t.size : Int)
  · simp [h, putE]
  · have := l84 (a, b, c, (putO o n t).1, i) (putO o n t).2.1 (putO_send o n t)
    simp [h, putE, l83 (o := o) hl, this, withO])

theorem pace_cases {p : Int × Int} (h : paceB p = true) : (p.1 = 1 ∨ p.1 = 2 ∨ p.1 = 4 ∨ p.1 = 8) ∧ 0 ≤ p.2 ∧ p.2 ≤ p.1 := by
  obtain ⟨a, b⟩ := p
  simp only [paceB, Bool.and_eq_true, decide_eq_true_eq] at h
  obtain ⟨⟨⟨⟨h1, h2⟩, h3⟩, h4⟩, h5⟩ := h
  refine ⟨?_, h3, h4⟩
  have : a = 1 ∨ a = 2 ∨ a = 3 ∨ a = 4 ∨ a = 5 ∨ a = 6 ∨ a = 7 ∨ a = 8 := by omega
  rcases this with rfl | rfl | rfl | rfl | rfl | rfl | rfl | rfl
  · simp
  · simp
  · exact absurd h5 (by decide)
  · simp
  · exact absurd h5 (by decide)
  · exact absurd h5 (by decide)
  · exact absurd h5 (by decide)
  · simp

theorem pace_of {p : Int × Int} (h : (p.1 = 1 ∨ p.1 = 2 ∨ p.1 = 4 ∨ p.1 = 8) ∧ 0 ≤ p.2 ∧ p.2 ≤ p.1) : paceB p = true := by
  obtain ⟨a, b⟩ := p
  obtain ⟨h1, h2, h3⟩ := h
  simp only at h1 h2 h3
  have h5 : bitsOf .and .i64 a (IntKind.i64.wrap (a - 1)) = 0 := by
    rcases h1 with rfl | rfl | rfl | rfl <;> decide
  simp only [paceB, Bool.and_eq_true, decide_eq_true_eq]
  exact ⟨⟨⟨⟨by omega, by omega⟩, h2⟩, h3⟩, h5⟩

theorem l171 (p : Int × Int) : q171 fnL p = some (paceB p) := u171 (by
  obtain ⟨a, b⟩ := p
  have e : paceB (a, b) = (decide (a = 1 ∨ a = 2 ∨ a = 4 ∨ a = 8) && decide (0 ≤ b) && decide (b ≤ a)) := by
    rw [Bool.eq_iff_iff]
    constructor
    · intro h
      obtain ⟨h1, h2, h3⟩ := pace_cases h
      simp only [Bool.and_eq_true, decide_eq_true_eq]
      exact ⟨⟨h1, h2⟩, h3⟩
    · intro h
      simp only [Bool.and_eq_true, decide_eq_true_eq] at h
      exact pace_of ⟨h.1.1, h.1.2, h.2⟩
  rw [e]
  simp only [g171, s_eq, s_le, cond_dec]
  by_cases h1 : a = 1
  · by_cases h2 : 0 ≤ b <;> simp [h1, h2]
  · by_cases h3 : a = 2
    · by_cases h2 : 0 ≤ b <;> simp [h1, h2, h3]
    · by_cases h4 : a = 4
      · by_cases h2 : 0 ≤ b <;> simp [h1, h2, h3, h4]
      · by_cases h5 : a = 8
        · by_cases h2 : 0 ≤ b <;> simp [h1, h2, h3, h4, h5]
        · simp [h1, h3, h4, h5])

theorem l139 (p : Int × Int) : q139 fnL p = some (ptick p) := u139 (by
  simp only [g139, l171, optK_some_eq, s_not]
  cases h : paceB p with
  | false => simp [ptick, fineF, h]
  | true =>
    obtain ⟨a, b⟩ := p
    obtain ⟨h1, h2, h3⟩ := pace_cases h
    simp only at h1 h2 h3
    simp only [ptick, fineF, h, if_true]
    by_cases hb : b = 0
    · simp [hb]
    · by_cases hb1 : 1 < b
      · have e1 : IntKind.i64.wrap (b - 1) = b - 1 := wrap_small (by omega) (by omega)
        have e2 : 0 < b - 1 := by omega
        simp [hb, hb1, e1, e2]
      · have e0 : b = 1 := by omega
        subst e0
        rcases h1 with rfl | rfl | rfl | rfl <;> decide)

theorem l86 (o : OutT) : q86 fnL o = some (tickO o) := u86 (by
  obtain ⟨a, b, l, c⟩ := o
  cases l with
  | nil => simp [g86, tickO]
  | cons t l =>
    have h0 : ¬ ((l.length : Int) + 1 = 0) := by omega
    simp [g86, tickO, h0, l139])

def tickE (e : EndT) : EndT × List PktT := (withO e (tickO e.2.2.2.1).1, dataF (withO e (tickO e.2.2.2.1).1) (tickO e.2.2.2.1).2)

theorem tickO_send (o : OutT) (h : (tickO o).2 = true) : (tickO o).1.2.2.1 ≠ [] := by
  unfold tickO at h ⊢
  split at h <;> rename_i h1
  · cases h
  · rw [if_neg h1]; exact h1

theorem l28 {e : EndT} (hl : Few e.2.2.2.1.2.2.1) : q28 fnL e = some (tickE e) := u28 (by
  obtain ⟨a, b, c, o, i⟩ := e
  simp [g28, l17 (o := o) hl, l77, tickE, withO])

theorem l34 (e : EndT) : q34 fnL e = some (tickE e) := u34 (by
  obtain ⟨a, b, c, o, i⟩ := e
  have := l84 (a, b, c, (tickO o).1, i) (tickO o).2 (tickO_send o)
  simp [g34, l86, this, tickE, withO])

end Go.PI
end
section
/- Packets. -/
namespace Go.PI
open Go Go.Proofs
set_option linter.unusedSimpArgs false
set_option linter.unusedVariables false

theorem size_zero {b : ByteArray} : b.size = 0 ↔ b = noB := by
  constructor
  · intro h
    apply WideShapes.bytes_inj
    have : b.data.toList.length = 0 := by
      rw [Array.length_toList]
      exact h
    rw [List.length_eq_zero_iff.mp this]
    rfl
  · rintro rfl; rfl

def nodeP (n : Int) : Bool := decide (0 ≤ n ∧ n < 72)
def numP (n : Int) : Bool := decide (1 ≤ n ∧ n ≤ 72057594037927935)

theorem l131 (n : Int) : q131 fnL n = some (nodeP n) := u131 (by
  by_cases h : 0 ≤ n <;> simp [g131, nodeP, h])
theorem l133 (n : Int) : q133 fnL n = some (decide (n = 1 ∨ n = 4)) := u133 (by
  by_cases h : n = 1 <;> simp [g133, h])
theorem l135 (n : Int) : q135 fnL n = some (decide (1 ≤ n ∧ n ≤ 3)) := u135 (by
  by_cases h : 1 ≤ n <;> simp [g135, h])
theorem l136 (n : Int) : q136 fnL n = some (decide (n = 1 ∨ n = 2)) := u136 (by
  by_cases h : n = 1 <;> simp [g136, h])
theorem l134 (b : Bool) (n : Int) : q134 fnL (b, n) = some (!b || numP n) := u134 (by
  cases b
  · simp [g134]
  · by_cases h : 1 ≤ n <;> simp [g134, numP, h])

def onlyP (p : PktT) : PktT := (p.1, p.2.1, p.2.2.1, p.2.2.2.1, if 1 ≤ p.1 ∧ p.1 ≤ 3 then p.2.2.2.2.1 else 0, if p.1 = 1 ∨ p.1 = 2 then p.2.2.2.2.2.1 else 0, if p.1 = 1 ∨ p.1 = 4 then p.2.2.2.2.2.2 else noB)

theorem l132 (p : PktT) : q132 fnL p = some (onlyP p) := u132 (by
  obtain ⟨k, f, t, i, e, s, b⟩ := p
  simp only [g132, l135, l136, l133, optK_some_eq, s_not, onlyP]
  by_cases h1 : k = 1
  · subst h1; simp [noB]
  by_cases h2 : k = 2
  · subst h2; simp [noB]
  by_cases h3 : k = 3
  · subst h3; simp [noB]
  by_cases h4 : k = 4
  · subst h4; simp [noB]
  have h5 : ¬ (1 ≤ k ∧ k ≤ 3) := by omega
  simp [noB, h1, h2, h3, h4, h5])

/-- Is a packet as it may be? -/
def OkP (p : PktT) : Prop :=
  (1 ≤ p.1 ∧ p.1 ≤ 4) ∧ nodeP p.2.1 = true ∧ nodeP p.2.2.1 = true ∧ p.2.1 ≠ p.2.2.1 ∧ numP p.2.2.2.1 = true ∧
    (if p.1 ≤ 3 then numP p.2.2.2.2.1 = true else p.2.2.2.2.1 = 0) ∧ (if p.1 ≤ 2 then numP p.2.2.2.2.2.1 = true else p.2.2.2.2.2.1 = 0) ∧
    (if p.1 = 1 ∨ p.1 = 4 then p.2.2.2.2.2.2 ≠ noB ∧ (p.2.2.2.2.2.2.size : Int) ≤ 32 else p.2.2.2.2.2.2 = noB)

instance (p : PktT) : Decidable (OkP p) := by unfold OkP; infer_instance

theorem l78 (p : PktT) : q78 fnL p = some (decide (OkP p)) := u78 (by
  obtain ⟨k, f, t, i, e, s, b⟩ := p
  simp only [g78, l131, l132, l133, l134, l135, l136, s_lt, s_eq, s_not, s_and, s_eqB, s_eqS, s_le, s_size, cond_dec, optK_some_eq]
  by_cases h1 : k < 1
  · simp [h1, OkP, show ¬ 1 ≤ k by omega]
  by_cases h2 : 4 < k
  · simp [h1, h2, OkP, show ¬ k ≤ 4 by omega]
  have hk : k = 1 ∨ k = 2 ∨ k = 3 ∨ k = 4 := by omega
  cases h3 : nodeP f with
  | false => simp [h1, h2, h3, OkP]
  | true =>
  cases h4 : nodeP t with
  | false => simp [h1, h2, h3, h4, OkP]
  | true =>
  by_cases h5 : f = t
  · simp [h1, h2, h3, h4, h5, OkP]
  have n0 : numP 0 = false := by decide
  rcases hk with rfl | rfl | rfl | rfl
  · by_cases hb : b = noB
    · subst hb
      simp [h3, h4, h5, OkP, onlyP, noB]
    · have hb' : ¬ b = ⟨#[]⟩ := hb
      cases hi : numP i <;> cases he : numP e <;> cases hs : numP s <;> simp [h3, h4, h5, OkP, onlyP, hb, hb', hi, he, hs]
  · by_cases hb : b = noB
    · subst hb
      have hz : ((noB.size : Nat) : Int) ≤ 32 := by decide
      cases hi : numP i <;> cases he : numP e <;> cases hs : numP s <;> simp [h3, h4, h5, OkP, onlyP, hi, he, hs, hz]
    · simp [h3, h4, h5, OkP, onlyP, hb]
  · by_cases hb : b = noB
    · subst hb
      have hz : ((noB.size : Nat) : Int) ≤ 32 := by decide
      by_cases hs : s = 0
      · subst hs
        cases hi : numP i <;> cases he : numP e <;> simp [h3, h4, h5, OkP, onlyP, hi, he, hz]
      · simp [h3, h4, h5, OkP, onlyP, hs]
    · simp [h3, h4, h5, OkP, onlyP, hb]
  · by_cases hb : b = noB
    · subst hb
      simp [h3, h4, h5, OkP, onlyP, noB]
    · have hb' : ¬ b = ⟨#[]⟩ := hb
      by_cases he : e = 0
      · by_cases hs : s = 0
        · subst he hs
          cases hi : numP i <;> simp [h3, h4, h5, OkP, onlyP, hb, hb', hi]
        · simp [h3, h4, h5, OkP, onlyP, hs, hb]
      · simp [h3, h4, h5, OkP, onlyP, he, hb])

/-- The gate. -/
def inL (i : InT) (p : Int) : InT := if i.2.1 < p then (i.1, p, 0) else i

theorem l137 (i : InT) (p : Int) : q137 fnL (i, p) = some (inL i p) := u137 (by
  simp only [g137, s_lt, cond_dec, inL]
  split <;> rfl)

def takeI (i : InT) (inc me seq : Int) : InT × Int :=
  if inc < i.2.1 then (i, 0)
  else
    let i := inL i inc
    if me < i.1 then (i, 3)
    else if i.1 < me then (i, 0)
    else if 1 ≤ seq ∧ seq ≤ i.2.2 then (i, 2)
    else if IntKind.i64.wrap (seq - 1) ≠ i.2.2 ∨ (seq < 1 ∧ 0 ≤ i.2.2) then (i, 0)
    else ((i.1, i.2.1, seq), 1)

theorem l80 (i : InT) (inc me seq : Int) : q80 fnL (i, inc, me, seq) = some (takeI i inc me seq) := u80 (by
  simp only [g80, l137, s_lt, s_le, s_eq, s_not, s_wrap, s_sub, optK_some_eq]
  unfold takeI
  by_cases h1 : inc < i.2.1
  · simp [h1]
  · generalize inL i inc = j
    by_cases h2 : me < j.1
    · simp [h1, h2]
    · by_cases h3 : j.1 < me
      · simp [h1, h2, h3]
      · by_cases h4 : 1 ≤ seq
        · by_cases h5 : seq ≤ j.2.2
          · simp [h1, h2, h3, h4, h5]
          · by_cases h6 : IntKind.i64.wrap (seq - 1) = j.2.2
            · simp [h1, h2, h3, h4, h5, h6, show ¬ seq < 1 by omega]
            · simp [h1, h2, h3, h4, h5, h6]
        · by_cases h6 : IntKind.i64.wrap (seq - 1) = j.2.2
          · by_cases h7 : 0 ≤ j.2.2 <;> simp [h1, h2, h3, h4, h6, h7, show seq < 1 by omega]
          · simp [h1, h2, h3, h4, h6])

def backP (e : EndT) (kind : Int) (p : PktT) (seq : Int) : PktT := (kind, e.1, e.2.1, e.2.2.1, p.2.2.2.1, seq, noB)

theorem l81 (e : EndT) (kind : Int) (p : PktT) (seq : Int) : q81 fnL (e, kind, p, seq) = some (backP e kind p seq) := u81 rfl

def learnE (e : EndT) (inc : Int) : EndT × List PktT :=
  ((e.1, e.2.1, e.2.2.1, (learnO' e.2.2.2.1 inc).1, inL e.2.2.2.2 inc), dataF (withO e (learnO' e.2.2.2.1 inc).1) (learnO' e.2.2.2.1 inc).2)

theorem l79 {e : EndT} (hl : Few e.2.2.2.1.2.2.1) (inc : Int) : q79 fnL (e, inc) = some (learnE e inc) := u79 (by
  obtain ⟨a, b, c, o, i⟩ := e
  simp [g79, l16 (o := o) hl, l137, l77, learnE, withO, dataF])

end Go.PI
end
section
/- The document's answer: packets, gates, outboxes. -/
namespace Go.PI
open Go Go.Proofs
set_option linter.unusedSimpArgs false
set_option linter.unusedVariables false

def optN (b : Bool) (n : Int) : Bool := if b then numP n else decide (n = 0)

theorem l126 (b : Bool) (n : Int) : q126 fnL (b, n) = some (optN b n) := u126 (by
  cases b
  · simp [g126, optN]
  · by_cases h : 0 < n
    · simp [g126, optN, numP, h, show 1 ≤ n by omega]
    · simp [g126, optN, numP, h, show ¬ 1 ≤ n by omega])

theorem size_pos (b : ByteArray) : 0 < (b.size : Int) ↔ b ≠ noB := by
  have h := @size_zero b
  constructor
  · intro h1 h2
    have := h.mpr h2
    omega
  · intro h1
    have : ¬ b.size = 0 := fun h2 => h1 (h.mp h2)
    omega

theorem l62 (p : PktT) : q62 fnL p = some (decide (OkP p)) := u62 (by
  obtain ⟨k, f, t, i, e, s, b⟩ := p
  simp only [g62, l126, s_lt, s_eq, s_not, s_and, s_le, s_size, s_beq, cond_dec, optK_some_eq]
  by_cases h1 : k < 1
  · simp [h1, OkP, show ¬ 1 ≤ k by omega]
  by_cases h2 : 4 < k
  · simp [h1, h2, OkP, show ¬ k ≤ 4 by omega]
  have hk : k = 1 ∨ k = 2 ∨ k = 3 ∨ k = 4 := by omega
  by_cases h3 : f < 0
  · simp [h1, h2, h3, OkP, nodeP, show ¬ 0 ≤ f by omega]
  by_cases h4 : 71 < f
  · simp [h1, h2, h3, h4, OkP, nodeP, show ¬ f < 72 by omega]
  have h34 : nodeP f = true := by simp only [nodeP, decide_eq_true_eq]; omega
  by_cases h5 : t < 0
  · simp [h1, h2, h3, h4, h5, OkP, nodeP, show ¬ 0 ≤ t by omega]
  by_cases h6 : 71 < t
  · simp [h1, h2, h3, h4, h5, h6, OkP, nodeP, show ¬ t < 72 by omega]
  have h56 : nodeP t = true := by simp only [nodeP, decide_eq_true_eq]; omega
  by_cases h7 : f = t
  · simp [h1, h2, h3, h4, h5, h6, h7, OkP]
  have hs : (32 < (b.size : Int)) ↔ ¬ ((b.size : Int) ≤ 32) := by omega
  have hb0 := size_pos b
  have n0 : numP 0 = false := by decide
  by_cases hb : b = noB
  · subst hb
    have hz : ¬ (0 < (noB.size : Int)) := by decide
    have hz2 : noB.size = 0 := rfl
    have hz3 : noB = ByteArray.empty := rfl
    rcases hk with rfl | rfl | rfl | rfl <;> cases hi : numP i <;> cases he : numP e <;> cases hs : numP s <;> by_cases e0 : e = 0 <;> by_cases s0 : s = 0 <;>
      simp [n0, h3, h4, h5, h6, h7, h34, h56, OkP, optN, hi, he, hs, e0, s0, hz, hz2, ← hz3]
  · have hz1 : 0 < (b.size : Int) := hb0.mpr hb
    have hz : 0 < b.size := by omega
    by_cases h8 : (b.size : Int) ≤ 32
    · have h9 : ¬ (32 < (b.size : Int)) := by omega
      rcases hk with rfl | rfl | rfl | rfl <;> cases hi : numP i <;> cases he : numP e <;> cases hs : numP s <;> by_cases e0 : e = 0 <;> by_cases s0 : s = 0 <;>
        simp [n0, e0, s0, h3, h4, h5, h6, h7, h34, h56, OkP, optN, hi, he, hs, hz, hb, h8, h9]
    · have h9 : (32 < (b.size : Int)) := by omega
      rcases hk with rfl | rfl | rfl | rfl <;> cases hi : numP i <;> cases he : numP e <;> cases hs : numP s <;> by_cases e0 : e = 0 <;> by_cases s0 : s = 0 <;>
        simp [n0, e0, s0, h3, h4, h5, h6, h7, h34, h56, OkP, optN, hi, he, hs, hz, hb, h8, h9])

theorem l141 (o : OutT) (p : Int) : q141 fnL (o, p) = some (learnO' o p) := u141 (by
  obtain ⟨a, b, l, c, d⟩ := o
  simp only [g141, s_le, cond_dec, learnO']
  by_cases h : p ≤ a
  · simp [h]
  · cases l with
    | nil => simp [h, sendsF]
    | cons t l =>
      have h0 : ¬ ((l.length : Int) + 1 = 0) := by omega
      simp [h, sendsF, h0])

theorem l142 (i : InT) (p : Int) : q142 fnL (i, p) = some (inL i p) := u142 (by
  simp only [g142, s_lt, cond_dec, inL]
  split <;> rfl)

theorem sendsF_send (o : OutT) (h : (sendsF o).2 = true) : (sendsF o).1.2.2.1 ≠ [] := by
  unfold sendsF at h ⊢
  split at h <;> rename_i h1
  · cases h
  · rw [if_neg h1]; exact h1

theorem learnO_send (o : OutT) (p : Int) (h : (learnO' o p).2 = true) : (learnO' o p).1.2.2.1 ≠ [] := by
  unfold learnO' at h ⊢
  split at h <;> rename_i h1
  · cases h
  · rw [if_neg h1]; exact sendsF_send _ h

theorem ackF_send (o : OutT) (p s : Int) (h : (ackF o p s).2 = true) : (ackF o p s).1.2.2.1 ≠ [] := by
  unfold ackF at h ⊢
  split at h <;> rename_i h1
  · cases h
  · rw [if_neg h1]; exact sendsF_send _ h

theorem l88 (e : EndT) (inc : Int) : q88 fnL (e, inc) = some (learnE e inc) := u88 (by
  obtain ⟨a, b, c, o, i⟩ := e
  have := l84 (a, b, c, (learnO' o inc).1, inL i inc) (learnO' o inc).2 (learnO_send o inc)
  simp [g88, l141, l142, this, learnE, withO, dataF])

theorem l89 (o : OutT) (peer seq : Int) : q89 fnL (o, peer, seq) = some (ackF o peer seq) := u89 (by
  obtain ⟨a, b, l, c, d⟩ := o
  cases l with
  | nil => simp [g89, ackF]
  | cons t l =>
    have h0 : ¬ ((l.length : Int) + 1 = 0) := by omega
    have hb : (1 : Int) ≤ (l.length : Int) + 1 := by omega
    by_cases h1 : peer = a
    · by_cases h2 : seq = b
      · subst h1 h2
        cases l with
        | nil => simp [g89, ackF, sendsF]
        | cons u l =>
          have h3 : ¬ ((l.length : Int) + 1 = 0) := by omega
          have h4 : ¬ ((l.length : Int) + 1 + 1 = 0) := by omega
          have h5 : (1 : Int) ≤ (l.length : Int) + 1 + 1 := by omega
          simp [g89, ackF, sendsF, h3, h4, h5]
      · simp [g89, ackF, h0, h1, h2]
    · simp [g89, ackF, h0, h1])

theorem l90 {i : InT} (hl : 0 ≤ i.2.2 ∧ i.2.2 < 9223372036854775808) (inc me : Int) {seq : Int} (hs : -9223372036854775808 ≤ seq ∧ seq < 9223372036854775808) :
    q90 fnL (i, inc, me, seq) = some (takeI i inc me seq) := u90 (by
  have hj : 0 ≤ (inL i inc).2.2 ∧ (inL i inc).2.2 < 9223372036854775808 := by
    unfold inL
    split
    · simp
    · exact hl
  simp only [g90, l142, s_lt, s_le, s_eq, s_not, s_wrap, s_add, cond_dec, optK_some_eq]
  unfold takeI
  by_cases h1 : inc < i.2.1
  · simp [h1]
  · generalize inL i inc = j at hj ⊢
    obtain ⟨ja, jb, jc⟩ := j
    simp only at hj
    by_cases h2 : me < ja
    · simp [h1, h2]
    · by_cases h3 : ja < me
      · simp [h1, h2, h3]
      · by_cases h4 : jc < 9223372036854775807
        · have e1 : IntKind.i64.wrap (jc + 1) = jc + 1 := wrap_small (by omega) (by omega)
          by_cases h5 : seq = jc + 1
          · have e2 : IntKind.i64.wrap (seq - 1) = jc := by rw [wrap_small (by omega) (by omega)]; omega
            have e3 : IntKind.i64.wrap seq = seq := wrap_small (by omega) (by omega)
            simp [h1, h2, h3, h4, e1, ← h5, e2, e3, show ¬ seq ≤ jc by omega, show ¬ seq < 1 by omega]
          · by_cases h6 : 1 ≤ seq
            · have e2 : IntKind.i64.wrap (seq - 1) = seq - 1 := wrap_small (by omega) (by omega)
              by_cases h7 : seq ≤ jc
              · simp [h1, h2, h3, h4, e1, h5, h6, h7]
              · simp [h1, h2, h3, h4, e1, h5, h6, h7, e2, show ¬ seq - 1 = jc by omega]
            · simp [h1, h2, h3, h4, e1, h5, h6, show seq < 1 by omega, hj.1]
        · by_cases h6 : 1 ≤ seq
          · simp [h1, h2, h3, h4, h6, show seq ≤ jc by omega]
          · simp [h1, h2, h3, h4, h6, show seq < 1 by omega, hj.1])

end Go.PI
end
section
/- A packet comes: the program's Take and the document's. -/
namespace Go.PI
open Go Go.Proofs
set_option linter.unusedSimpArgs false
set_option linter.unusedVariables false

def withI (e : EndT) (i : InT) : EndT := (e.1, e.2.1, e.2.2.1, e.2.2.2.1, i)

def freshE (x : EndT × List PktT) (p : PktT) : EndT × ByteArray × Bool × List PktT :=
  let w := takeI x.1.2.2.2.2 p.2.2.2.1 p.2.2.2.2.1 p.2.2.2.2.2.1
  let y := withI x.1 w.1
  if w.2 = 1 then (y, p.2.2.2.2.2.2, true, x.2 ++ [backP y 2 p p.2.2.2.2.2.1])
  else if w.2 = 2 then (y, noB, false, x.2 ++ [backP y 2 p p.2.2.2.2.2.1])
  else if w.2 = 3 then (y, noB, false, x.2 ++ [backP y 3 p 0])
  else (y, noB, false, x.2)

def ackE (x : EndT × List PktT) (p : PktT) : EndT × ByteArray × Bool × List PktT :=
  let w := ackF x.1.2.2.2.1 p.2.2.2.1 p.2.2.2.2.2.1
  (withO x.1 w.1, noB, false, x.2 ++ dataF (withO x.1 w.1) w.2)

def takeE (e : EndT) (p : PktT) : EndT × ByteArray × Bool × List PktT :=
  if ¬ OkP p ∨ p.2.1 ≠ e.2.1 ∨ p.2.2.1 ≠ e.1 ∨ p.2.2.2.1 < e.2.2.2.2.2.1 then (e, noB, false, [])
  else if p.1 = 1 then freshE (learnE e p.2.2.2.1) p
  else if p.1 = 2 then if p.2.2.2.2.1 = e.2.2.1 then ackE (learnE e p.2.2.2.1) p else (e, noB, false, [])
  else if p.1 = 3 then if p.2.2.2.2.1 ≤ e.2.2.1 then ((learnE e p.2.2.2.1).1, noB, false, (learnE e p.2.2.2.1).2) else (e, noB, false, [])
  else (e, p.2.2.2.2.2.2, true, [])

theorem sends_list (o : OutT) : (sendsF o).1.2.2.1 = o.2.2.1 := by unfold sendsF; split <;> rfl
theorem learnO_list (o : OutT) (p : Int) : (learnO' o p).1.2.2.1 = o.2.2.1 := by
  unfold learnO'
  split
  · rfl
  · rw [sends_list]

theorem learnE_list (e : EndT) (p : Int) : (learnE e p).1.2.2.2.1.2.2.1 = e.2.2.2.1.2.2.1 := learnO_list _ _
theorem dataF_len (e : EndT) (b : Bool) : (dataF e b).length ≤ 1 := by cases b <;> simp [dataF]
theorem learnE_len (e : EndT) (p : Int) : (learnE e p).2.length ≤ 1 := dataF_len _ _

theorem takeI_range (i : InT) (a b c : Int) : 0 ≤ (takeI i a b c).2 ∧ (takeI i a b c).2 ≤ 3 := by
  unfold takeI
  split
  · simp
  · dsimp only
    repeat' split
    all_goals simp

theorem room_two {l m : List PktT} (h : l.length ≤ 1) (h2 : m.length ≤ 1) : (l.length + m.length) * 64 ≤ room := by unfold room; omega

theorem l27 {e : EndT} (hl : Few e.2.2.2.1.2.2.1) (p : PktT) : q27 fnL (e, p) = some (takeE e p) := u27 (by
  obtain ⟨k, f, t, i, q, s, b⟩ := p
  by_cases h0 : OkP (k, f, t, i, q, s, b)
  case neg => simp [g27, l78, h0, takeE, noB]
  by_cases h1 : f = e.2.1
  case neg => simp [g27, l78, h0, h1, takeE, noB]
  by_cases h2 : t = e.1
  case neg => simp [g27, l78, h0, h1, h2, takeE, noB]
  by_cases h3 : i < e.2.2.2.2.2.1
  · simp [g27, l78, h0, h1, h2, h3, takeE, noB]
  have hx : Few (learnE e i).1.2.2.2.1.2.2.1 := by rw [learnE_list]; exact hl
  have hn := learnE_len e i
  have hL := l79 hl i
  subst h1 h2
  by_cases k1 : k = 1
  · subst k1
    have e1 : takeE e (1, e.2.1, e.1, i, q, s, b) = freshE (learnE e i) (1, e.2.1, e.1, i, q, s, b) := by simp [takeE, h0, h3]
    rw [e1]
    generalize learnE e i = x at hx hn hL ⊢
    have hT := l80 x.1.2.2.2.2 i q s
    have r1 : ∀ m : PktT, (x.2.length + 1) * 64 ≤ room := fun m => room_two (m := [m]) hn (by simp)
    have r2 := r1 (0, 0, 0, 0, 0, 0, noB)
    unfold freshE
    generalize takeI x.1.2.2.2.2 i q s = w at hT ⊢
    by_cases w1 : w.2 = 1
    · simp [g27, l78, h0, h3, hL, hT, w1, l81, r2, withI, noB]
    · by_cases w2 : w.2 = 2
      · simp [g27, l78, h0, h3, hL, hT, w1, w2, l81, r2, withI, noB]
      · by_cases w3 : w.2 = 3
        · simp [g27, l78, h0, h3, hL, hT, w1, w2, w3, l81, r2, withI, noB]
        · simp [g27, l78, h0, h3, hL, hT, w1, w2, w3, l81, r2, withI, noB]
  · by_cases k2 : k = 2
    · subst k2
      by_cases hq : q = e.2.2.1
      case neg => simp [g27, l78, h0, h3, takeE, hq, noB]
      subst hq
      have e1 : takeE e (2, e.2.1, e.1, i, e.2.2.1, s, b) = ackE (learnE e i) (2, e.2.1, e.1, i, e.2.2.1, s, b) := by simp [takeE, h0, h3]
      rw [e1]
      generalize learnE e i = x at hx hn hL ⊢
      have hA := l15 hx i s
      unfold ackE
      generalize ackF x.1.2.2.2.1 i s = w at hA ⊢
      have hD := l77 (withO x.1 w.1) w.2
      unfold withO at hD ⊢
      have hm := dataF_len (x.1.1, x.1.2.1, x.1.2.2.1, w.1, x.1.2.2.2.2) w.2
      have r2 := room_two hn hm
      simp [g27, l78, h0, h3, hL, hA, hD, r2, noB]
    · by_cases k3 : k = 3
      · subst k3
        by_cases hq : q ≤ e.2.2.1
        · simp [g27, l78, h0, h3, takeE, hq, hL, noB]
        · simp [g27, l78, h0, h3, takeE, hq, noB]
      · simp [g27, l78, h0, h3, takeE, k1, k2, k3, noB])

theorem l37 {e : EndT} (hl : Few e.2.2.2.1.2.2.1) (hi : 0 ≤ e.2.2.2.2.2.2 ∧ e.2.2.2.2.2.2 < 9223372036854775808) (p : PktT) (hs : -9223372036854775808 ≤ p.2.2.2.2.2.1 ∧ p.2.2.2.2.2.1 < 9223372036854775808) :
    q37 fnL (e, p) = some (takeE e p) := u37 (by
  obtain ⟨k, f, t, i, q, s, b⟩ := p
  by_cases h0 : OkP (k, f, t, i, q, s, b)
  case neg => simp [g37, l62, h0, takeE, noB]
  by_cases h1 : f = e.2.1
  case neg => simp [g37, l62, h0, h1, takeE, noB]
  by_cases h2 : t = e.1
  case neg => simp [g37, l62, h0, h1, h2, takeE, noB]
  by_cases h3 : i < e.2.2.2.2.2.1
  · simp [g37, l62, h0, h1, h2, h3, takeE, noB]
  have hj : 0 ≤ (learnE e i).1.2.2.2.2.2.2 ∧ (learnE e i).1.2.2.2.2.2.2 < 9223372036854775808 := by
    show 0 ≤ (inL e.2.2.2.2 i).2.2 ∧ (inL e.2.2.2.2 i).2.2 < 9223372036854775808
    unfold inL
    split
    · simp
    · exact hi
  have hn := learnE_len e i
  have hL := l88 e i
  subst h1 h2
  have hk : k = 1 ∨ k = 2 ∨ k = 3 ∨ k = 4 := by have := h0.1; simp only at this; omega
  rcases hk with rfl | rfl | rfl | rfl
  · have ef : (learnE e i).1.1 = e.1 ∧ (learnE e i).1.2.1 = e.2.1 ∧ (learnE e i).1.2.2.1 = e.2.2.1 := ⟨rfl, rfl, rfl⟩
    have e1 : takeE e (1, e.2.1, e.1, i, q, s, b) = freshE (learnE e i) (1, e.2.1, e.1, i, q, s, b) := by simp [takeE, h0, h3]
    rw [e1]
    generalize learnE e i = x at hj hn hL ef ⊢
    have hT := l90 hj i q hs
    have r1 : ∀ m : PktT, (x.2.length + 1) * 64 ≤ room := fun m => room_two (m := [m]) hn (by simp)
    have r2 := r1 (0, 0, 0, 0, 0, 0, noB)
    have hw := takeI_range x.1.2.2.2.2 i q s
    unfold freshE
    simp only at hT
    generalize takeI x.1.2.2.2.2 i q s = w at hT hw ⊢
    obtain ⟨wi, wn⟩ := w
    have hw4 : wn = 1 ∨ wn = 2 ∨ wn = 3 ∨ wn = 0 := by simp only at hw; omega
    rcases hw4 with rfl | rfl | rfl | rfl
    · simp [g37, l62, h0, h3, hL, hT, r2, withI, noB, backP, ef]
    · simp [g37, l62, h0, h3, hL, hT, r2, withI, noB, backP, ef]
    · simp [g37, l62, h0, h3, hL, hT, r2, withI, noB, backP, ef]
    · simp [g37, l62, h0, h3, hL, hT, r2, withI, noB, backP, ef]
  · by_cases hq : q = e.2.2.1
    case neg => simp [g37, l62, h0, h3, takeE, hq, noB]
    subst hq
    have e1 : takeE e (2, e.2.1, e.1, i, e.2.2.1, s, b) = ackE (learnE e i) (2, e.2.1, e.1, i, e.2.2.1, s, b) := by simp [takeE, h0, h3]
    rw [e1]
    generalize learnE e i = x at hj hn hL ⊢
    have hA := l89 x.1.2.2.2.1 i s
    have hS := ackF_send x.1.2.2.2.1 i s
    unfold ackE
    generalize ackF x.1.2.2.2.1 i s = w at hA hS ⊢
    have hD := l84 (withO x.1 w.1) w.2 hS
    unfold withO at hD ⊢
    have hm := dataF_len (x.1.1, x.1.2.1, x.1.2.2.1, w.1, x.1.2.2.2.2) w.2
    have r2 := room_two hn hm
    simp [g37, l62, h0, h3, hL, hA, hD, r2, noB]
  · by_cases hq : q ≤ e.2.2.1
    · simp [g37, l62, h0, h3, takeE, hq, hL, noB, show ¬ e.2.2.1 < q by omega]
    · simp [g37, l62, h0, h3, takeE, hq, noB, show e.2.2.1 < q by omega]
  · simp [g37, l62, h0, h3, takeE, noB])

end Go.PI
end
section
/- Comparisons; the example. -/
namespace Go.PI
open Go Go.Proofs
set_option linter.unusedSimpArgs false
set_option linter.unusedVariables false

set_option synthInstance.maxSize 10000 in
set_option synthInstance.maxHeartbeats 400000 in
instance decPkt : DecidableEq PktT := by unfold PktT; infer_instance
set_option synthInstance.maxSize 10000 in
set_option synthInstance.maxHeartbeats 400000 in
instance decEnd : DecidableEq EndT := by unfold EndT OutT InT Txt; infer_instance

/-- A loop over indices goes to the end, or stops at one. -/
theorem scan {σ β : Type} {f : σ → Option (σ ⊕ β)} (st : Nat → σ) (n : Nat) (P : Nat → Bool) (out : Nat → β) (e : β)
    (hs : ∀ i, i < n → f (st i) = some (if P i then .inl (st (i + 1)) else .inr (out i))) (he : f (st n) = some (.inr e)) :
    ((∀ i, i < n → P i = true) ∧ loopL f (st 0) = some e) ∨ ∃ i, i < n ∧ P i = false ∧ loopL f (st 0) = some (out i) := by
  have key : ∀ m, m ≤ n → ((∀ i, i < m → P i = true) ∧ loopL f (st 0) = loopL f (st m)) ∨ ∃ i, i < m ∧ P i = false ∧ loopL f (st 0) = some (out i) := by
    intro m
    induction m with
    | zero => exact fun _ => .inl ⟨fun i hi => absurd hi (by omega), rfl⟩
    | succ m ih =>
      intro hm
      rcases ih (by omega) with ⟨h1, h2⟩ | ⟨i, h1, h2, h3⟩
      · have h3 := hs m (by omega)
        cases h4 : P m with
        | true =>
          rw [h4, if_pos rfl] at h3
          refine .inl ⟨fun i hi => ?_, by rw [h2, loop_step h3]⟩
          by_cases h5 : i = m
          · rw [h5]; exact h4
          · exact h1 i (by omega)
        | false =>
          rw [h4] at h3
          exact .inr ⟨m, by omega, h4, by rw [h2]; exact loop_stop h3⟩
      · exact .inr ⟨i, by omega, h2, h3⟩
  rcases key n (Nat.le_refl n) with ⟨h1, h2⟩ | h
  · exact .inl ⟨h1, by rw [h2]; exact loop_stop he⟩
  · exact .inr h

/-- Two lists are compared: where they first differ, or the end. -/
theorem first_loop {σ α β : Type} [DecidableEq α] {f : σ → Option (σ ⊕ β)} (st : Nat → σ) {a b : List α} (h : a.length = b.length) (out : Nat → β) (e : β)
    (hs : ∀ i (h1 : i < a.length) (h2 : i < b.length), f (st i) = some (if a[i] = b[i] then .inl (st (i + 1)) else .inr (out i))) (he : f (st a.length) = some (.inr e)) :
    (a = b ∧ loopL f (st 0) = some e) ∨ (a ≠ b ∧ ∃ i, i < a.length ∧ loopL f (st 0) = some (out i)) := by
  rcases scan st a.length (fun i => decide (a[i]? = b[i]?)) out e (fun i hi => by
    rw [hs i hi (by omega)]
    have e1 : a[i]? = some a[i] := List.getElem?_eq_getElem hi
    have e2 : b[i]? = some b[i] := List.getElem?_eq_getElem (by omega)
    simp only [e1, e2, Option.some.injEq, decide_eq_true_eq]) he with ⟨h1, h2⟩ | ⟨i, h1, h2, h3⟩
  · refine .inl ⟨List.ext_getElem? fun i => ?_, h2⟩
    by_cases hi : i < a.length
    · exact of_decide_eq_true (h1 i hi)
    · rw [List.getElem?_eq_none (by omega), List.getElem?_eq_none (by omega)]
  · exact .inr ⟨fun hab => of_decide_eq_false h2 (by rw [hab]), i, h1, h3⟩

theorem same_loop {σ α : Type} [DecidableEq α] {f : σ → Option (σ ⊕ Bool)} (st : Nat → σ) {a b : List α} (h : a.length = b.length)
    (hs : ∀ i (h1 : i < a.length) (h2 : i < b.length), f (st i) = some (if a[i] = b[i] then .inl (st (i + 1)) else .inr false)) (he : f (st a.length) = some (.inr true)) :
    loopL f (st 0) = some (decide (a = b)) := by
  rcases first_loop st h (fun _ => false) true hs he with ⟨h1, h2⟩ | ⟨h1, i, _, h2⟩
  · rw [h2, decide_eq_true h1]
  · rw [h2, decide_eq_false h1]

theorem l18 {a b : Txt} (hf : Few a) : q18 fnL (a, b) = some (decide (a = b)) := u18 (by
  by_cases hl : a.length = b.length
  · have hz : std.not (std.eq (std.len a) (std.len b)) = false := by simp [hl]
    simp only [g18, hz, cond_false, s_loop]
    refine same_loop (fun i : Nat => (a, b, (i : Int))) hl (fun i h1 h2 => ?_) ?_
    · have hi : i < 9223372036854775807 := by unfold Few at hf; omega
      by_cases hx : a[i] = b[i] <;> simp [h1, h2, hx, wrap_succ hi]
    · simp
  · have hn : a ≠ b := fun h => hl (by rw [h])
    have hz : std.not (std.eq (std.len a) (std.len b)) = true := by simp; omega
    simp only [g18, hz, cond_true]
    simp [hn])

theorem l138 {a b : OutT} (hf : Few a.2.2.1) : q138 fnL (a, b) = some (decide (a = b)) := u138 (by
  obtain ⟨a1, a2, a3, a4, a5⟩ := a
  obtain ⟨b1, b2, b3, b4, b5⟩ := b
  by_cases h1 : a1 = b1
  · by_cases h2 : a2 = b2
    · by_cases h4 : a4 = b4
      · by_cases h5 : a5 = b5
        · simp [g138, h1, h2, h4, h5, l18 (a := a3) hf]
        · simp [g138, h1, h2, h4, h5]
      · simp [g138, h1, h2, h4]
    · simp [g138, h1, h2]
  · simp [g138, h1])

theorem l85 {a b : OutT} (hf : Few a.2.2.1) : q85 fnL (a, b) = some (decide (a = b)) := u85 (by simp [g85, l138 (a := a) hf])

theorem l32 {a b : EndT} (hf : Few a.2.2.2.1.2.2.1) : q32 fnL (a, b) = some (decide (a = b)) := u32 (by
  obtain ⟨a1, a2, a3, a4, a5, a6, a7⟩ := a
  obtain ⟨b1, b2, b3, b4, b5, b6, b7⟩ := b
  by_cases h1 : a1 = b1
  · by_cases h2 : a2 = b2
    · by_cases h3 : a3 = b3
      · by_cases h4 : a4 = b4
        · subst h4
          simp [g32, h1, h2, h3, l85 (a := a4) (b := a4) hf]
        · simp [g32, h1, h2, h3, l85 (a := a4) hf, h4]
      · simp [g32, h1, h2, h3]
    · simp [g32, h1, h2]
  · simp [g32, h1])

theorem l36 (p : PktT) : q36 fnL p = some p := u36 rfl

theorem l33 {a b : List PktT} (hf : a.length ≤ 1000000) : q33 fnL (a, b) = some (decide (a = b)) := u33 (by
  by_cases hl : a.length = b.length
  · have hz : std.not (std.eq (std.len a) (std.len b)) = false := by simp [hl]
    simp only [g33, hz, cond_false, s_loop]
    refine same_loop (fun i : Nat => (a, b, (i : Int))) hl (fun i h1 h2 => ?_) ?_
    · have hi : i < 9223372036854775807 := by omega
      by_cases hx : a[i] = b[i]
      · simp [h1, h2, hx, wrap_succ hi, l36]
      · have hx' := hx
        rw [Prod.ext_iff, Prod.ext_iff, Prod.ext_iff, Prod.ext_iff, Prod.ext_iff, Prod.ext_iff] at hx'
        simp [h1, h2, l36]
        simp [hx]
        rw [Bool.cond_eq_ite, if_pos]
        simp only [Bool.or_eq_true, Bool.not_eq_true', decide_eq_false_iff_not]
        simpa only [Classical.not_and_iff_not_or_not] using hx'
    · simp
  · have hn : a ≠ b := fun h => hl (by rw [h])
    have hz : std.not (std.eq (std.len a) (std.len b)) = true := by simp; omega
    simp only [g33, hz, cond_true]
    simp [hn])

theorem l173 {a b : Txt} {i : Nat} (h1 : i < a.length) (h2 : i < b.length) : q173 fnL ((i : Int), (), (), a, b) = some (!decide (a[i] = b[i]), a, b) := u173 (by
  by_cases hx : a[i] = b[i] <;> simp [g173, h1, h2, hx])

theorem l172 {a b : Txt} (hf : Few a) (hl : a.length = b.length) : ∃ n : Int, q172 fnL ((a.length : Int), ((), (), ()), a, b) = some (n, a, b) ∧ (n < 0 ↔ a = b) := by
  have key := first_loop (σ := Int × (Unit × Unit × Unit) × Int × Txt × Txt) (β := Int × Txt × Txt) (fun i : Nat => ((a.length : Int), ((), (), ()), (i : Int), a, b)) hl (fun i => ((i : Int), a, b)) (-1, a, b)
    (f := fun x1 => bif std.lt x1.2.2.1 x1.1 then optK (α := Bool × Txt × Txt) (q173 fnL (x1.2.2.1, (), (), x1.2.2.2)) (fun (x2 : Bool × Txt × Txt) => bif x2.1 then some (.inr (x1.2.2.1, x2.2)) else some (.inl (x1.1, ((), (), ()), std.wrap .i64 (std.add x1.2.2.1 1), x2.2))) else some (.inr ((-1), x1.2.2.2)))
    (fun i h1 h2 => by
      have hi : i < 9223372036854775807 := by unfold Few at hf; omega
      have := l173 h1 h2
      by_cases hx : a[i] = b[i] <;> simp [hx] at this <;> simp [h1, this, hx, wrap_succ hi])
    (by simp)
  rcases key with ⟨h1, h2⟩ | ⟨h1, i, _, h2⟩
  · exact ⟨-1, u172 (by simp only [g172, s_loop]; exact h2), by simp [h1]⟩
  · exact ⟨i, u172 (by simp only [g172, s_loop]; exact h2), by simp [h1]⟩

theorem l140 {a b : Txt} (hf : Few a) : q140 fnL (a, b) = some (decide (a = b)) := u140 (by
  by_cases hl : a.length = b.length
  · obtain ⟨n, h1, h2⟩ := l172 hf hl
    have hz : std.eq (std.len a) (std.len b) = true := by simp [hl]
    simp only [g140, hz, cond_true]
    simp only [s_len, h1, optK_some_eq, s_lt, h2]
  · have hn : a ≠ b := fun h => hl (by rw [h])
    have hz : std.eq (std.len a) (std.len b) = false := by simp; omega
    simp only [g140, hz, cond_false]
    simp [hn])

theorem l87 {a b : OutT} (hf : Few a.2.2.1) : q87 fnL (a, b) = some (decide (a = b)) := u87 (by
  obtain ⟨a1, a2, a3, a4, a5⟩ := a
  obtain ⟨b1, b2, b3, b4, b5⟩ := b
  by_cases h1 : a1 = b1
  · by_cases h2 : a2 = b2
    · by_cases h4 : a4 = b4
      · by_cases h5 : a5 = b5
        · simp [g87, h1, h2, h4, h5, l140 (a := a3) hf]
        · simp [g87, h1, h2, h4, h5]
      · simp [g87, h1, h2, h4]
    · simp [g87, h1, h2]
  · simp [g87, h1])

theorem l35 {a b : EndT} (hf : Few a.2.2.2.1.2.2.1) : q35 fnL (a, b) = some (decide (a = b)) := u35 (by
  obtain ⟨a1, a2, a3, a4, a5, a6, a7⟩ := a
  obtain ⟨b1, b2, b3, b4, b5, b6, b7⟩ := b
  by_cases h1 : a1 = b1
  · by_cases h2 : a2 = b2
    · by_cases h3 : a3 = b3
      · by_cases h5 : a5 = b5
        · by_cases h6 : a6 = b6
          · by_cases h7 : a7 = b7
            · simp [g35, h1, h2, h3, h5, h6, h7, l87 (a := a4) hf]
            · simp [g35, h1, h2, h3, h5, h6, h7]
          · simp [g35, h1, h2, h3, h5, h6]
        · simp [g35, h1, h2, h3, h5]
      · simp [g35, h1, h2, h3]
    · simp [g35, h1, h2]
  · simp [g35, h1])

theorem l82 {o : OutT} (hf : Few o.2.2.1) : q82 fnL o = some o := u82 (by
  obtain ⟨a, b, l, c⟩ := o
  have := few_fits hf
  have h2 : l.length * 16 ≤ room := by simpa using this
  simp [g82, h2])

theorem l30 {e : EndT} (hf : Few e.2.2.2.1.2.2.1) : q30 fnL e = some e := u30 (by simp [g30, l82 hf])

theorem l13 : q13 fnL () = some (1, 1, [], 1, 0) := u13 (by simp [g13, l65])
theorem l76 (n : Int) : q76 fnL n = some (n, 1, 0) := u76 rfl
theorem l91 : q91 fnL () = some (1, 1, [], 1, 0) := u91 rfl
def newE (f t i : Int) : EndT := (f, t, i, (1, 1, [], 1, 0), (i, 1, 0))
theorem l25 (f t i : Int) : q25 fnL (f, t, i) = some (newE f t i) := u25 (by simp [g25, l13, l76, newE])
theorem l38 (f t i : Int) : q38 fnL (f, t, i) = some (newE f t i) := u38 (by simp [g38, l91, newE])

theorem l29 {l : Txt} (hl : l.length < 9223372036854775808) (n m : Int) : ∃ b, q29 fnL (l, n, m) = some b ∧ (b = false → (l.length : Int) ≤ n) := by
  have key := scan (σ := Txt × Int × Int × Int) (β := Bool) (fun i : Nat => (l, n, m, (i : Int))) l.length (fun i => decide (((l.getD i noB).size : Int) ≤ m)) (fun _ => true) (decide (n < (l.length : Int)))
    (f := fun x1 => bif std.lt x1.2.2.2 (std.len x1.1) then bif std.inb x1.1 x1.2.2.2 then bif std.lt x1.2.2.1 (std.size (std.nth ⟨#[]⟩ x1.1 (std.nat x1.2.2.2))) then some (.inr true) else some (.inl (x1.1, x1.2.1, x1.2.2.1, std.wrap .i64 (std.add x1.2.2.2 1))) else none else some (.inr (std.lt x1.2.1 (std.len x1.1))))
    (fun i hi => by
      have hi' : i < 9223372036854775807 := by omega
      by_cases hx : ((l[i].size : Nat) : Int) ≤ m
      · simp [hi, hx, wrap_succ hi', show ¬ m < (l[i].size : Int) by omega]
      · simp [hi, hx, show m < (l[i].size : Int) by omega])
    (by simp)
  rcases key with ⟨h1, h2⟩ | ⟨i, h1, h2, h3⟩
  · exact ⟨_, u29 (by simp only [g29, s_loop]; exact h2), fun h => by have := of_decide_eq_false h; omega⟩
  · exact ⟨_, u29 (by simp only [g29, s_loop]; exact h3), fun h => by cases h⟩

end Go.PI
end
section
/- LinkDoes, in plain words. -/
namespace Go.PI
open Go Go.Proofs
set_option linter.unusedSimpArgs false
set_option linter.unusedVariables false

def aB : ByteArray := ⟨#[97]⟩
theorem few_nil : Few [] := by unfold Few; simp

theorem ex1 : putE (newE 0 8 1) 4 aB = ((0, 8, 1, (1, 1, [aB], 1, 1), (1, 1, 0)), [(1, 0, 8, 1, 1, 1, aB)], 0) := by rfl
theorem ex2 : takeE (newE 8 0 1) (1, 0, 8, 1, 1, 1, aB) = ((8, 0, 1, (1, 1, [], 1, 0), (1, 1, 1)), aB, true, [(2, 8, 0, 1, 1, 1, noB)]) := by rfl
theorem ex3 : takeE (0, 8, 1, (1, 1, [aB], 1, 1), (1, 1, 0)) (2, 8, 0, 1, 1, 1, noB) = ((0, 8, 1, (1, 2, [], 1, 0), (1, 1, 0)), noB, false, []) := by rfl

theorem l22 : q22 fnL () = some true := u22 (by
  have h1 := l25 0 8 1
  have h2 := l25 8 0 1
  have h3 := l26 (e := newE 0 8 1) (by simp [newE]) 4 aB
  rw [ex1] at h3
  have h4 := l27 (e := newE 8 0 1) few_nil (1, 0, 8, 1, 1, 1, aB)
  rw [ex2] at h4
  have h5 := l27 (e := (0, 8, 1, (1, 1, [aB], 1, 1), (1, 1, 0))) (by unfold Few; simp) (2, 8, 0, 1, 1, 1, noB)
  rw [ex3] at h5
  unfold aB at h3 h4 h5
  unfold noB at h4 h5
  simp [g22, h1, h2, h3, h4, h5])

theorem putO_len (o : OutT) (n : Int) (t : ByteArray) : (putO o n t).1.2.2.1.length ≤ o.2.2.1.length + 1 := by
  unfold putO
  repeat' split
  all_goals simp

theorem putE_len (e : EndT) (n : Int) (t : ByteArray) : (putE e n t).1.2.2.2.1.2.2.1.length ≤ e.2.2.2.1.2.2.1.length + 1 := by
  unfold putE
  split
  · simp
  · exact putO_len _ _ _

theorem putE_few (e : EndT) (n : Int) (t : ByteArray) : (putE e n t).2.1.length ≤ 1000000 := by
  unfold putE
  split
  · simp
  · exact Nat.le_trans (dataF_len _ _) (by omega)

theorem tickO_list (o : OutT) : (tickO o).1.2.2.1 = o.2.2.1 := by unfold tickO; split <;> rfl

theorem tickE_few (e : EndT) : (tickE e).2.length ≤ 1000000 := Nat.le_trans (dataF_len _ _) (by omega)

theorem ackF_list (o : OutT) (p s : Int) : (ackF o p s).1.2.2.1.length ≤ o.2.2.1.length := by
  unfold ackF
  split
  · simp
  · rw [sends_list]; simp

theorem takeE_few {e : EndT} (h : Few e.2.2.2.1.2.2.1) (p : PktT) : Few (takeE e p).1.2.2.2.1.2.2.1 ∧ (takeE e p).2.2.2.length ≤ 1000000 := by
  have hx : Few (learnE e p.2.2.2.1).1.2.2.2.1.2.2.1 := by rw [learnE_list]; exact h
  have hn := learnE_len e p.2.2.2.1
  unfold takeE
  generalize learnE e p.2.2.2.1 = x at hx hn ⊢
  split
  · exact ⟨h, by simp⟩
  · split
    · unfold freshE
      dsimp only
      repeat' split
      all_goals exact ⟨hx, by simp <;> omega⟩
    · split
      · split
        · unfold ackE
          dsimp only
          refine ⟨?_, ?_⟩
          · have := ackF_list x.1.2.2.2.1 p.2.2.2.1 p.2.2.2.2.2.1
            unfold Few at hx ⊢
            exact Nat.le_trans this hx
          · have := dataF_len (withO x.1 (ackF x.1.2.2.2.1 p.2.2.2.1 p.2.2.2.2.2.1).1) (ackF x.1.2.2.2.1 p.2.2.2.1 p.2.2.2.2.2.1).2
            rw [List.length_append]
            omega
        · exact ⟨h, by simp⟩
      · split
        · split
          · exact ⟨hx, show x.2.length ≤ 1000000 by omega⟩
          · exact ⟨h, by simp⟩
        · exact ⟨h, by simp⟩

theorem scan_true {σ : Type} {f : σ → Option (σ ⊕ Bool)} (st : Nat → σ) (n : Nat) (P : Nat → Bool)
    (hs : ∀ i, i < n → f (st i) = some (if P i then .inl (st (i + 1)) else .inr true)) (he : f (st n) = some (.inr true)) : loopL f (st 0) = some true := by
  rcases scan st n P (fun _ => true) true hs he with ⟨_, h⟩ | ⟨i, _, _, h⟩
  · exact h
  · exact h

theorem l7 {e : EndT} {p : PktT} {t : ByteArray} (hl : e.2.2.2.1.2.2.1.length < 9223372036854775808) (hi : e.2.2.2.2.2.2 < 9223372036854775808)
    (hs : -9223372036854775808 ≤ p.2.2.2.2.2.1 ∧ p.2.2.2.2.2.1 < 9223372036854775808) : q7 fnL (e, p, t) = some true := u7 (by
  obtain ⟨b, hb, hb2⟩ := l29 hl 30 100
  simp only [g7, hb, l22, optK_some_eq]
  cases b with
  | true => rfl
  | false =>
  have h30 := hb2 rfl
  have hf : Few e.2.2.2.1.2.2.1 := by unfold Few; omega
  have h9 : e.2.2.2.1.2.2.1.length ≤ 900000 := by omega
  simp only [cond_false]
  cases std.lt 100 (std.size t)
  case true => rfl
  cases std.lt 1000 (std.size p.2.2.2.2.2.2)
  case true => rfl
  cases std.eq e.2.2.2.1.2.1 9223372036854775807
  case true => rfl
  rw [s_lt]
  by_cases hz : e.2.2.2.2.2.2 < 0
  · simp [hz]
  rw [decide_eq_false hz]
  have f1 := l30 hf
  have f2 : ∀ n, q26 fnL (e, n, t) = some (putE e n t) := fun n => l26 h9 n t
  have f3 : ∀ n, q31 fnL (e, n, t) = some (putE e n t) := fun n => l31 h9 n t
  have f4 : ∀ n, q32 fnL ((putE e n t).1, (putE e n t).1) = some true := fun n => by
    rw [l32 (a := (putE e n t).1) (by have := putE_len e n t; unfold Few; omega)]; simp
  have f5 : ∀ n, q33 fnL ((putE e n t).2.1, (putE e n t).2.1) = some true := fun n => by
    rw [l33 (putE_few e n t)]; simp
  have f6 := l28 hf
  have f7 := l34 e
  have ht : Few (tickE e).1.2.2.2.1.2.2.1 := by
    show Few (tickO e.2.2.2.1).1.2.2.1
    rw [tickO_list]; exact hf
  have f8 : q32 fnL ((tickE e).1, (tickE e).1) = some true := by rw [l32 (a := (tickE e).1) ht]; simp
  have f9 : q33 fnL ((tickE e).2, (tickE e).2) = some true := by rw [l33 (tickE_few e)]; simp
  have f10 : q35 fnL (e, e) = some true := by rw [l35 hf]; simp
  have f11 : q35 fnL (e, (tickE e).1) = some (decide (e = (tickE e).1)) := l35 hf
  have f12 : q32 fnL (e, (tickE e).1) = some (decide (e = (tickE e).1)) := l32 hf
  have f13 := l36 p
  have f14 := l27 hf p
  have f15 := l37 hf ⟨by omega, hi⟩ p hs
  obtain ⟨k1, k2⟩ := takeE_few hf p
  have f16 : q32 fnL ((takeE e p).1, (takeE e p).1) = some true := by rw [l32 (a := (takeE e p).1) k1]; simp
  have f17 : q33 fnL ((takeE e p).2.2.2, (takeE e p).2.2.2) = some true := by rw [l33 k2]; simp
  have f18 : q32 fnL (e, e) = some true := by rw [l32 hf]; simp
  have f19 := l25 3 4 e.2.2.1
  have f20 := l38 3 4 e.2.2.1
  have f21 : q32 fnL (newE 3 4 e.2.2.1, newE 3 4 e.2.2.1) = some true := by rw [l32 (a := newE 3 4 e.2.2.1) few_nil]; simp
  simp only [cond_false, s_loop]
  refine scan_true (fun i : Nat => (t, (), (), (i : Int), e, p)) e.2.2.2.1.2.2.1.length (fun i => decide (e.2.2.2.1.2.2.1.getD i noB ≠ noB)) (fun i h1 => ?_) ?_
  · have hi : i < 9223372036854775807 := by omega
    by_cases hx : (e.2.2.2.1.2.2.1)[i] = noB
    · simp [h1, hx, l22]
      simp [noB]
    · have hx' := hx
      unfold noB at hx'
      simp [h1, hx, hx', wrap_succ hi]
  · simp [f1, f2, f3, f4, f5, f6, f7, f8, f9, f10, f11, f12, f13, f14, f15, f16, f17, f18, f19, f20, f21, l22])

end Go.PI
end
