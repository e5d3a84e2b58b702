/- Code. -/
import Derived.Test.YtoaadbakbfphgaaIx
import Derived.LoopN
namespace Go.PI
open Go

variable {P : Program} {base : Nat} {G : Gh} {w w' : World} {st : St} {tmps : Array Value} {T : Nat → TI} {C : CallT}

def exOf : Ex → Exit
  | .normal => .normal
  | .exit id => .exit id
  | .ret => .ret
  | .fork _ => .normal

/-- The ends that may be. -/
def outs : Ex → St → List (Exit × St)
  | .fork t, s => [(.ret, t), (.normal, s)]
  | e, s => [(exOf e, s)]

/-- What the code is shown to do. -/
def CodeOk (P : Program) (base : Nat) (c : Code) (F : St → Option (Ex × St)) : Prop :=
  ∀ {G : Gh} {w : World} {st : St} {tmps : Array Value} {e : Ex} {s : St}, Rel G w st tmps → st.ln = [] → base ≤ st.bx.length → LowInv base st → F st = some (e, s) → ∀ Q : Exit → Act → World → Prop,
    (∀ x, x ∈ outs e s → ∀ tmps1 w' G', Rel G' w' x.2 tmps1 → x.2.ln = [] → Far base G w st G' w' x.2 → st.bx.length ≤ x.2.bx.length → Q x.1 ⟨tmps1, []⟩ w') → c.wp P Q ⟨tmps, []⟩ w

theorem outs_one {e : Ex} {s : St} (h : ∀ t, e ≠ .fork t) {x : Exit × St} (hx : x ∈ outs e s) : x = (exOf e, s) := by
  cases e with
  | fork t => exact absurd rfl (h t)
  | _ => simpa [outs] using hx

theorem loop_ok {c : Code} {F : St → Option (Ex × St)} (hF : CodeOk P base c F) {n : Nat} (hn : base ≤ n) (cl : List Nat) : ∀ (k : Nat) {G : Gh} {w : World} {st : St} {tmps : Array Value} {e : Ex} {s : St}, Rel G w st tmps → st.ln = [] → n ≤ st.bx.length → LowInv base st →
    loopF F (roundStart n cl) k st = some (e, s) → ∀ Q : Exit → Act → World → Prop, (∀ tmps1 w' G', Rel G' w' s tmps1 → s.ln = [] → Far base G w st G' w' s → n ≤ s.bx.length → e ≠ .normal → (∀ t, e ≠ .fork t) → Q (exOf e) ⟨tmps1, []⟩ w') → Code.rounds P c Q k ⟨tmps, []⟩ w
  | 0, _, _, _, _, _, _, _, _, _, _, h, _, _ => by cases h
  | k + 1, G, w, st, tmps, e, s, r, hln, hlen, hlow, h, Q, hq => by
    simp only [loopF] at h
    obtain ⟨G1, r1, ln1, f1, hlen1⟩ := round_ok r hln hn hlen hlow cl
    show c.wp P (Exit.then (Code.rounds P c Q k) Q) ⟨tmps, []⟩ w
    split at h
    · rename_i s1 hs1
      refine hF r1 ln1 f1.len (f1.low base hlow) hs1 _ fun x hx tmps1 w2 G2 r2 ln2 f2 l2 => ?_
      obtain rfl := outs_one (by simp) hx
      have f12 := f1.trans f2
      exact loop_ok hF hn cl k r2 ln2 (Nat.le_trans hlen1 l2) (f12.low base hlow) h Q fun tmps3 w3 G3 r3 ln3 f3 l3 => hq tmps3 w3 G3 r3 ln3 (f12.trans f3) l3
    · cases h
    · rename_i hne hnf
      have hee : e ≠ .normal := by rintro rfl; exact hne s h
      have hef : ∀ t, e ≠ .fork t := by rintro t rfl; exact hnf t s h
      refine hF r1 ln1 f1.len (f1.low base hlow) h _ fun x hx tmps1 w2 G2 r2 ln2 f2 l2 => ?_
      obtain rfl := outs_one hef hx
      have := hq tmps1 w2 G2 r2 ln2 (f1.trans f2) (Nat.le_trans hlen1 l2) hee hef
      cases e with
      | normal => exact absurd rfl hee
      | exit id => exact this
      | ret => exact this
      | fork t => exact absurd rfl (hef t)

theorem outs_ret {s : St} {x : Exit × St} (hx : x ∈ outs .ret s) : x = (.ret, s) := outs_one (by simp) hx
theorem outs_normal {s : St} {x : Exit × St} (hx : x ∈ outs .normal s) : x = (.normal, s) := outs_one (by simp) hx

theorem joinF_some {s t : St} {r : Option (Ex × St)} {e : Ex} (h : joinF s r = some (e, t)) : (r = some (.ret, s) ∧ e = .ret ∧ t = s) ∨ (r = some (.normal, t) ∧ e = .fork s) := by
  unfold joinF at h
  split at h
  · split at h
    · rename_i ht
      subst ht
      cases h
      exact .inl ⟨rfl, rfl, rfl⟩
    · cases h
  · cases h
    exact .inr ⟨rfl, rfl⟩
  · cases h

theorem forkF_some {x y : Option (Ex × St)} {e : Ex} {s : St} (h : forkF x y = some (e, s)) :
    (x = some (e, s) ∧ y = some (e, s)) ∨ ∃ t, e = .fork t ∧ ((x = some (.ret, t) ∧ y = some (.normal, s)) ∨ (x = some (.normal, s) ∧ y = some (.ret, t))) := by
  unfold forkF at h
  split at h
  · cases h; exact .inr ⟨_, rfl, .inl ⟨rfl, rfl⟩⟩
  · cases h; exact .inr ⟨_, rfl, .inr ⟨rfl, rfl⟩⟩
  · split at h
    · rename_i hxy
      exact .inl ⟨h, hxy ▸ h⟩
    · cases h

theorem code_ok (tk : TOk P T) (hC : CallOk P C) (hm : P.follows .mixedOrders = true) (pol : Pol) (f k : Nat) : ∀ c : Code, openC pol f c = true → CodeOk P base c (codeF C T pol f base k c) := by
  intro c ho
  induction c with
  | skip =>
    intro G w st tmps e s r hln hb hlow h Q hq
    simp only [codeF, Option.some.injEq, Prod.mk.injEq] at h
    obtain ⟨rfl, rfl⟩ := h
    exact wp_skip (hq (.normal, _) (by simp [outs, exOf]) _ _ _ r hln (.refl hb) (Nat.le_refl _))
  | label l =>
    intro G w st tmps e s r hln hb hlow h Q hq
    simp only [codeF, Option.some.injEq, Prod.mk.injEq] at h
    obtain ⟨rfl, rfl⟩ := h
    exact wp_label (hq (.normal, _) (by simp [outs, exOf]) _ _ _ r hln (.refl hb) (Nat.le_refl _))
  | exit id =>
    intro G w st tmps e s r hln hb hlow h Q hq
    simp only [codeF, Option.some.injEq, Prod.mk.injEq] at h
    obtain ⟨rfl, rfl⟩ := h
    exact wp_exit (hq (.exit id, _) (by simp [outs, exOf]) _ _ _ r hln (.refl hb) (Nat.le_refl _))
  | ret =>
    intro G w st tmps e s r hln hb hlow h Q hq
    simp only [codeF, Option.some.injEq, Prod.mk.injEq] at h
    obtain ⟨rfl, rfl⟩ := h
    exact wp_ret (hq (.ret, _) (by simp [outs, exOf]) _ _ _ r hln (.refl hb) (Nat.le_refl _))
  | region id ops draw =>
    intro G w st tmps e s r hln hb hlow h Q hq
    simp only [codeF, Option.map_eq_some_iff, Prod.mk.injEq] at h
    obtain ⟨s', h1, rfl, rfl⟩ := h
    exact region_ok tk hC hm r hln hb (fun hd => by simpa [openC, hd] using ho) h1 Q fun tmps1 w' G' r1 ln1 q1 u1 g1 => hq (.normal, _) (by simp [outs, exOf]) _ _ _ r1 ln1 (.of q1 u1 g1 hb) g1.len
  | seq a b iha ihb =>
    simp only [openC, Bool.and_eq_true] at ho
    have iha : CodeOk P base a (codeF C T pol f base k a) := iha ho.1
    have ihb : CodeOk P base b (codeF C T pol f base k b) := ihb ho.2
    intro G w st tmps e s r hln hb hlow h Q hq
    simp only [codeF] at h
    refine wp_seq ?_
    split at h
    · rename_i s1 h1
      refine iha r hln hb hlow h1 _ fun x hx tmps1 w1 G1 r1 ln1 f1 l1 => ?_
      obtain rfl := outs_normal hx
      exact ihb r1 ln1 f1.len (f1.low base hlow) h Q fun y hy tmps2 w2 G2 r2 ln2 f2 l2 => hq y hy _ _ _ r2 ln2 (f1.trans f2) (Nat.le_trans l1 l2)
    · rename_i t s1 h1
      refine iha r hln hb hlow h1 _ fun x hx tmps1 w1 G1 r1 ln1 f1 l1 => ?_
      simp only [outs, List.mem_cons, List.not_mem_nil, or_false] at hx
      rcases hx with rfl | rfl
      · rcases joinF_some h with ⟨_, rfl, rfl⟩ | ⟨_, rfl⟩
        · exact hq (.ret, _) (by simp [outs, exOf]) _ _ _ r1 ln1 f1 l1
        · exact hq (.ret, t) (by simp [outs]) _ _ _ r1 ln1 f1 l1
      · rcases joinF_some h with ⟨h2, rfl, rfl⟩ | ⟨h2, rfl⟩
        · refine ihb r1 ln1 f1.len (f1.low base hlow) h2 Q fun y hy tmps2 w2 G2 r2 ln2 f2 l2 => ?_
          exact hq y hy _ _ _ r2 ln2 (f1.trans f2) (Nat.le_trans l1 l2)
        · refine ihb r1 ln1 f1.len (f1.low base hlow) h2 Q fun y hy tmps2 w2 G2 r2 ln2 f2 l2 => ?_
          obtain rfl := outs_normal hy
          exact hq (.normal, _) (by simp [outs]) _ _ _ r2 ln2 (f1.trans f2) (Nat.le_trans l1 l2)
    · rename_i hne hnf
      have hee : e ≠ .normal := by rintro rfl; exact hne s h
      have hef : ∀ t, e ≠ .fork t := by rintro t rfl; exact hnf t s h
      refine iha r hln hb hlow h _ fun x hx tmps1 w1 G1 r1 ln1 f1 l1 => ?_
      have := hq x hx _ _ _ r1 ln1 f1 l1
      obtain rfl := outs_one hef hx
      cases e with
      | normal => exact absurd rfl hee
      | exit id => exact this
      | ret => exact this
      | fork t => exact absurd rfl (hef t)
  | cond c a b iha ihb =>
    simp only [openC, Bool.and_eq_true] at ho
    have iha : CodeOk P base a (codeF C T pol f base k a) := iha ho.1
    have ihb : CodeOk P base b (codeF C T pol f base k b) := ihb ho.2
    intro G w st tmps e s r hln hb hlow h Q hq
    simp only [codeF] at h
    split at h
    · rename_i t ht
      have hv := see_bool r ht
      cases t with
      | true => exact wp_cond_true (by rw [eval_eq]; exact hv) (iha r hln hb hlow h Q hq)
      | false => exact wp_cond_false (by rw [eval_eq]; exact hv) (ihb r hln hb hlow h Q hq)
    · rename_i ht
      obtain ⟨t, hv⟩ := see_unk r ht
      rcases forkF_some h with ⟨h1, h2⟩ | ⟨u, rfl, ⟨h1, h2⟩ | ⟨h1, h2⟩⟩
      · cases t with
        | true => exact wp_cond_true (by rw [eval_eq]; exact hv) (iha r hln hb hlow h1 Q hq)
        | false => exact wp_cond_false (by rw [eval_eq]; exact hv) (ihb r hln hb hlow h2 Q hq)
      · cases t with
        | true => exact wp_cond_true (by rw [eval_eq]; exact hv) (iha r hln hb hlow h1 Q fun x hx => by obtain rfl := outs_ret hx; exact hq _ (by simp [outs]))
        | false => exact wp_cond_false (by rw [eval_eq]; exact hv) (ihb r hln hb hlow h2 Q fun x hx => by obtain rfl := outs_normal hx; exact hq _ (by simp [outs]))
      · cases t with
        | true => exact wp_cond_true (by rw [eval_eq]; exact hv) (iha r hln hb hlow h1 Q fun x hx => by obtain rfl := outs_normal hx; exact hq _ (by simp [outs]))
        | false => exact wp_cond_false (by rw [eval_eq]; exact hv) (ihb r hln hb hlow h2 Q fun x hx => by obtain rfl := outs_ret hx; exact hq _ (by simp [outs]))
    · cases h
  | block id c ih =>
    have ih : CodeOk P base c (codeF C T pol f base k c) := ih (by simpa only [openC] using ho)
    intro G w st tmps e s r hln hb hlow h Q hq
    simp only [codeF] at h
    refine wp_block ?_
    split at h
    · rename_i id' s1 h1
      refine ih r hln hb hlow h1 _ fun x hx tmps1 w1 G1 r1 ln1 f1 l1 => ?_
      obtain rfl : x = (.exit id', s1) := outs_one (by simp) hx
      show if id' = id then _ else _
      split at h
      · rename_i hid
        cases h
        rw [if_pos hid]
        exact hq (.normal, _) (by simp [outs, exOf]) _ _ _ r1 ln1 f1 l1
      · rename_i hid
        cases h
        rw [if_neg hid]
        exact hq (.exit id', _) (by simp [outs, exOf]) _ _ _ r1 ln1 f1 l1
    · rename_i hne
      refine ih r hln hb hlow h _ fun x hx tmps1 w1 G1 r1 ln1 f1 l1 => ?_
      have := hq x hx _ _ _ r1 ln1 f1 l1
      cases e with
      | normal => obtain rfl := outs_normal hx; exact this
      | exit id => exact absurd h (hne _ s)
      | ret => obtain rfl := outs_ret hx; exact this
      | fork t =>
        simp only [outs, List.mem_cons, List.not_mem_nil, or_false] at hx
        rcases hx with rfl | rfl <;> exact this
  | loop c ih =>
    have ih : CodeOk P base c (codeF C T pol f base k c) := ih (by simpa only [openC] using ho)
    intro G w st tmps e s r hln hb hlow h Q hq
    simp only [codeF] at h
    refine wp_loop_rounds k (loop_ok ih hb _ k r hln (Nat.le_refl _) hlow h Q fun tmps1 w1 G1 r1 ln1 f1 l1 _ hf => hq (exOf e, s) ?_ _ _ _ r1 ln1 f1 l1)
    cases e with
    | fork t => exact absurd rfl (hf t)
    | _ => simp [outs]
  | _ =>
    intro G w st tmps e s r hln hb hlow h Q hq
    simp only [codeF] at h
    cases h

end Go.PI
