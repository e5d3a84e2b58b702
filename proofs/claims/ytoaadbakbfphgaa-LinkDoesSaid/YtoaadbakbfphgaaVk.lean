/- What a table of functions comes to, however deep: equations without a depth. -/
import Derived.Test.YtoaadbakbfphgaaVj
namespace Go.PI
open Go

section
variable {α β σ : Type}

/-- From some depth on. -/
def Ev (f : Nat → Option α) (v : α) : Prop := ∃ K, ∀ k, K ≤ k → f k = some v

theorem Ev.unique {f : Nat → Option α} {v u : α} (h : Ev f v) (k : Ev f u) : v = u := by
  obtain ⟨a, ha⟩ := h
  obtain ⟨b, hb⟩ := k
  have h1 := ha (max a b) (Nat.le_max_left _ _)
  rw [hb (max a b) (Nat.le_max_right _ _)] at h1
  exact (Option.some.inj h1).symm

open Classical in
noncomputable def limO (f : Nat → Option α) : Option α := if h : ∃ v, Ev f v then some h.choose else none

theorem limO_some {f : Nat → Option α} {v : α} (h : Ev f v) : limO f = some v := by
  unfold limO
  have hx : ∃ v, Ev f v := ⟨v, h⟩
  rw [dif_pos hx]
  exact congrArg some (hx.choose_spec.unique h)

theorem limO_ev {f : Nat → Option α} {v : α} (h : limO f = some v) : Ev f v := by
  unfold limO at h
  split at h
  · rename_i hx
    have := hx.choose_spec
    rwa [Option.some.inj h] at this
  · cases h

/-- What is said of the limit holds from some depth on. -/
def Cont (x : Option α) (f : Nat → Option α) : Prop := ∀ v, x = some v → Ev f v

theorem cont_const (x : Option α) : Cont x fun _ => x := fun _ h => ⟨0, fun _ _ => h⟩

theorem cont_opt {x : Option α} {f : Nat → Option α} {g : α → Option β} {h : Nat → α → Option β} (a : Cont x f) (b : ∀ u, Cont (g u) fun n => h n u) : Cont (optK x g) fun n => optK (f n) (h n) := by
  intro v hv
  cases x with
  | none => cases hv
  | some u =>
    obtain ⟨A, hA⟩ := a u rfl
    obtain ⟨B, hB⟩ := b u v hv
    refine ⟨max A B, fun k hk => ?_⟩
    simp only [hA k (by omega), optK]
    exact hB k (by omega)

theorem cont_cond (b : Bool) {x y : Option α} {f g : Nat → Option α} (h1 : Cont x f) (h2 : Cont y g) : Cont (bif b then x else y) fun n => bif b then f n else g n := by
  cases b
  · exact h2
  · exact h1

theorem cont_sum {γ δ : Type} (z : γ ⊕ δ) {x : γ → Option α} {y : δ → Option α} {f : Nat → γ → Option α} {g : Nat → δ → Option α} (h1 : ∀ u, Cont (x u) fun n => f n u) (h2 : ∀ u, Cont (y u) fun n => g n u) : Cont (sumK z x y) fun n => sumK z (f n) (g n) := by
  cases z with
  | inl u => exact h1 u
  | inr u => exact h2 u

theorem cont_both {x y : Option α} {f g : Nat → Option α} (h1 : Cont x f) (h2 : Cont y g) : Cont (std.both x y) fun n => std.both (f n) (g n) := by
  intro v hv
  have e : x = some v ∧ y = some v := by
    simp only [std, bothT] at hv
    split at hv
    · rename_i e
      exact ⟨hv, e ▸ hv⟩
    · cases hv
  obtain ⟨A, hA⟩ := h1 v e.1
  obtain ⟨B, hB⟩ := h2 v e.2
  refine ⟨max A B, fun k hk => ?_⟩
  simp only [hA k (by omega), hB k (by omega), std, bothT, if_true]

theorem loopT_mono {f : σ → Option (σ ⊕ β)} : ∀ (n m : Nat) (s : σ) (b : β), loopT n f s = some b → n ≤ m → loopT m f s = some b
  | 0, _, _, _, h, _ => by cases h
  | n + 1, 0, _, _, _, hm => by omega
  | n + 1, m + 1, s, b, h, hm => by
    simp only [loopT] at h ⊢
    split at h
    · rename_i s' e
      exact loopT_mono n m s' b h (by omega)
    · exact h
    · cases h

theorem loopL_some {f : σ → Option (σ ⊕ β)} {s : σ} {b : β} (h : ∃ n, loopT n f s = some b) : loopL f s = some b := by
  obtain ⟨n, hn⟩ := h
  unfold loopL
  have hx : ∃ b n, loopT n f s = some b := ⟨b, n, hn⟩
  rw [dif_pos hx]
  obtain ⟨m, hm⟩ := hx.choose_spec
  have h1 := loopT_mono n (max n m) s b hn (Nat.le_max_left _ _)
  have h2 := loopT_mono m (max n m) s _ hm (Nat.le_max_right _ _)
  rw [h1] at h2
  exact h2.symm

theorem loopL_run {f : σ → Option (σ ⊕ β)} {s : σ} {b : β} (h : loopL f s = some b) : ∃ n, loopT n f s = some b := by
  unfold loopL at h
  split at h
  · rename_i hx
    obtain ⟨n, hn⟩ := hx.choose_spec
    rw [Option.some.inj h] at hn
    exact ⟨n, hn⟩
  · cases h

/-- A round. -/
theorem loopL_eq (f : σ → Option (σ ⊕ β)) (s : σ) : loopL f s = match f s with
    | some (.inl s') => loopL f s'
    | some (.inr b) => some b
    | none => none := by
  cases e : f s with
  | none =>
    simp only
    cases h : loopL f s with
    | none => rfl
    | some b =>
      obtain ⟨n, hn⟩ := loopL_run h
      cases n with
      | zero => cases hn
      | succ n => simp [loopT, e] at hn
  | some z =>
    cases z with
    | inl s' =>
      simp only
      cases h : loopL f s' with
      | some b =>
        obtain ⟨n, hn⟩ := loopL_run h
        exact loopL_some ⟨n + 1, by simp only [loopT, e, hn]⟩
      | none =>
        cases h2 : loopL f s with
        | none => rfl
        | some b =>
          obtain ⟨n, hn⟩ := loopL_run h2
          cases n with
          | zero => cases hn
          | succ n =>
            simp only [loopT, e] at hn
            rw [loopL_some ⟨n, hn⟩] at h
            cases h
    | inr b => exact loopL_some ⟨1, by simp only [loopT, e]⟩

theorem loop_stop {f : σ → Option (σ ⊕ β)} {s : σ} {b : β} (h : f s = some (.inr b)) : loopL f s = some b := by
  rw [loopL_eq, h]

theorem loop_step {f : σ → Option (σ ⊕ β)} {s s' : σ} (h : f s = some (.inl s')) : loopL f s = loopL f s' := by
  rw [loopL_eq, h]

theorem cont_loop {x : σ → Option (σ ⊕ β)} {f : Nat → σ → Option (σ ⊕ β)} (h : ∀ u, Cont (x u) fun n => f n u) (k : Nat → Nat) (k0 : Nat) (s : σ) : Cont (std.loop k0 x s) fun n => std.loop (k n) (f n) s := by
  intro v hv
  simp only [std] at hv ⊢
  obtain ⟨n, hn⟩ := loopL_run hv
  clear hv
  induction n generalizing s with
  | zero => cases hn
  | succ n ih =>
    simp only [loopT] at hn
    split at hn
    · rename_i s' e
      obtain ⟨A, hA⟩ := h s _ e
      obtain ⟨B, hB⟩ := ih s' hn
      refine ⟨max A B, fun m hm => ?_⟩
      exact (loop_step (hA m (by omega))).trans (hB m (by omega))
    · rename_i b e
      cases hn
      obtain ⟨A, hA⟩ := h s _ e
      exact ⟨A, fun m hm => loop_stop (hA m hm)⟩
    · cases hn
end

/-- A table of functions, however deep. -/
noncomputable def lim {sig : Sigs} (tab : Nat → TyC sig) : TyC sig := fun j x => limO fun k => tab k j x

theorem cont_call {sig : Sigs} (tab : Nat → TyC sig) (j : Nat) (x : (sig j).inT.den) : Cont (lim tab j x) fun n => tab n j x := fun _ h => limO_ev h

theorem lim_of {sig : Sigs} {tab : Nat → TyC sig} {j : Nat} {x : (sig j).inT.den} {y : Option (sig j).outT.den} {f : Nat → Option (sig j).outT.den} (e : ∀ k, tab (k + 1) j x = f k) (c : Cont y f) {v : (sig j).outT.den} (h : y = some v) : lim tab j x = some v := by
  obtain ⟨K, hK⟩ := c v h
  exact limO_some ⟨K + 1, fun k hk => by
    obtain ⟨m, rfl⟩ : ∃ m, k = m + 1 := ⟨k - 1, by omega⟩
    exact (e m).trans (hK m (by omega))⟩

theorem lim_tab {sig : Sigs} {tab : Nat → TyC sig} {j : Nat} {x : (sig j).inT.den} {v : (sig j).outT.den} (h : lim tab j x = some v) : ∃ k, tab k j x = some v := by
  obtain ⟨K, hK⟩ := limO_ev h
  exact ⟨K, hK K (Nat.le_refl _)⟩

section
theorem s_wrap (k : IntKind) (n : Int) : std.wrap k n = k.wrap n := rfl
theorem s_add (a b : Int) : std.add a b = a + b := rfl
theorem s_sub (a b : Int) : std.sub a b = a - b := rfl
theorem s_mul (a b : Int) : std.mul a b = a * b := rfl
theorem s_quo (a b : Int) : std.quo a b = a.tdiv b := rfl
theorem s_rem (a b : Int) : std.rem a b = a.tmod b := rfl
theorem s_bits (op : BinOp) (k : IntKind) (a b : Int) : std.bits op k a b = bitsOf op k a b := rfl
theorem s_eq (a b : Int) : std.eq a b = decide (a = b) := by simp only [std]; rfl
theorem s_lt (a b : Int) : std.lt a b = decide (a < b) := rfl
theorem s_le (a b : Int) : std.le a b = decide (a ≤ b) := rfl
theorem s_min (a b : Int) : std.min a b = if b < a then b else a := rfl
theorem s_max (a b : Int) : std.max a b = if b > a then b else a := rfl
theorem s_not (a : Bool) : std.not a = !a := rfl
theorem s_and (a b : Bool) : std.and a b = (a && b) := rfl
theorem s_beq (a b : Bool) : std.beq a b = (a == b) := rfl
theorem s_eqB (a b : ByteArray) : std.eqB a b = decide (a = b) := by
  show (a == b) = decide (a = b)
  rw [beq_toListBytes, ByteArray.toList_eq, ByteArray.toList_eq]
  by_cases h : a = b
  · subst h
    simp
  · have e : a.data.toList ≠ b.data.toList := fun e => h (WideShapes.bytes_inj e)
    rw [decide_eq_false h]
    exact beq_eq_false_iff_ne.mpr e
theorem s_eqS (a b : ByteArray) : std.eqS a b = decide (a = b) := by
  rw [← s_eqB]
  exact (beq_toListBytes a b).symm
theorem s_fitS (a b : ByteArray) : std.fitS a b = decide (¬ ((a.size + b.size : Nat) : Int) > IntKind.i64.max) := rfl
theorem s_cat (a b : ByteArray) : std.cat a b = a ++ b := rfl
theorem s_size (a : ByteArray) : std.size a = (a.size : Int) := rfl
theorem s_bnd (l h n : Int) : std.bnd l h n = decide (0 ≤ l ∧ l ≤ h ∧ h ≤ n) := rfl
theorem s_nat (i : Int) : std.nat i = i.toNat := rfl
theorem s_len {α : Type} (l : List α) : std.len l = (l.length : Int) := rfl
theorem s_inb {α : Type} (l : List α) (i : Int) : std.inb l i = decide (0 ≤ i ∧ i < l.length) := rfl
theorem s_ltN {α : Type} (l : List α) (i : Nat) : std.ltN i l = decide (i < l.length) := rfl
theorem s_nth {α : Type} (d : α) (l : List α) (i : Nat) : std.nth d l i = l.getD i d := rfl
theorem s_setN {α : Type} (l : List α) (i : Nat) (x : α) : std.setN l i x = l.set i x := rfl
theorem s_app {α : Type} (l m : List α) : std.app l m = l ++ m := rfl
theorem s_fits {α : Type} (l m : List α) (b : Nat) : std.fits l m b = decide ((l.length + m.length) * b ≤ room) := rfl
theorem s_take {α : Type} (l : List α) (h : Int) : std.take l h = l.take h.toNat := rfl
theorem s_drop {α : Type} (l : List α) (h : Int) : std.drop l h = l.drop h.toNat := rfl
theorem s_emp {α : Type} (l : List α) : std.emp l = l.isEmpty := rfl
theorem s_loop {σ β : Type} (k : Nat) (f : σ → Option (σ ⊕ β)) (s : σ) : std.loop k f s = loopL f s := rfl
theorem s_both {β : Type} (x : Option β) : std.both x x = x := by simp [std, bothT]
theorem optK_some_eq {α β : Type} (a : α) (f : α → Option β) : optK (some a) f = f a := rfl
theorem sumK_inl {α β γ : Type} (a : α) (f : α → γ) (g : β → γ) : sumK (.inl a) f g = f a := rfl
theorem sumK_inr {α β γ : Type} (a : β) (f : α → γ) (g : β → γ) : sumK (.inr a) f g = g a := rfl
theorem cond_dec {α : Type} (p : Prop) [Decidable p] (x y : α) : (bif decide p then x else y) = if p then x else y := by
  by_cases h : p <;> simp [h]
end

attribute [simp] s_wrap s_add s_sub s_mul s_quo s_rem s_bits s_eq s_lt s_le s_min s_max s_not s_and s_beq s_eqS s_eqB s_fitS s_cat s_size s_bnd s_nat s_len s_inb s_ltN s_nth s_setN s_app s_fits s_take s_drop s_emp s_loop s_both optK_some_eq sumK_inl sumK_inr

end Go.PI
