/- Looking at operands; writing slots; what is borrowed is forgotten. -/
import Derived.Test.YtoaadbakbfphgaaIf
namespace Go.PI
open Go

theorem see_ok {G : Gh} {w : World} {st : St} {tmps : Array Value} (T : Nat → TI) (ty : Nat) {x : Operand} {d : D} (r : Rel G w st tmps) (h : st.see T ty x = d) (hu : d ≠ .undef) (ht : ∀ l, d ≠ .tup l) :
    (∃ l, d = .agg l ∧ Val G w tmps (fun j => .s ((tmpOf x).getD 0) 0 j) d (ev tmps x)) ∨ ((∀ l, d ≠ .agg l) ∧ (∀ p, d ≠ .bor p) ∧ ∃ κ, Leaf G w tmps κ d (ev tmps x)) := by
  cases x with
  | tmp t =>
    simp only [St.see, St.raw] at h
    rcases Nat.lt_or_ge t st.tm.length with hl | hl
    · have hl' : t < tmps.size := by rw [← r.len]; exact hl
      have hs := r.slot t hl hl'
      have eg : ev tmps (.tmp t) = tmps[t] := by simp [ev, Array.getD, hl']
      rw [St.get_lt hl] at h
      rw [eg]
      generalize st.tm[t] = c at *
      generalize tmps[t] = u at *
      rcases tup_or c with ⟨q, rfl⟩ | htu
      · subst h; exact absurd rfl (ht _)
      have hs := (slot_of htu).mp hs
      rcases agg_or c with ⟨q, rfl⟩ | ha
      · subst h; exact .inl ⟨q, rfl, hs⟩
      · have hlf := (val_of ha).mp hs
        by_cases hb : ∃ p, c = .bor p
        · obtain ⟨p, rfl⟩ := hb
          simp only at h
          split at h
          · rename_i f n l e
            subst h
            exact .inr ⟨by simp, by simp, p.key, r.at e hlf⟩
          · subst h; exact absurd rfl hu
        · have e : c = d := by
            cases c <;> first | exact h | exact absurd ⟨_, rfl⟩ hb
          subst e
          exact .inr ⟨ha, fun p e => hb ⟨p, e⟩, _, hlf⟩
    · have e : st.get t = .undef := by simp [St.get, List.getD, List.getElem?_eq_none hl]
      rw [e] at h; subst h; exact absurd rfl hu
  | const v =>
    simp only [St.see, St.raw] at h
    by_cases hc : constD T ty v = .undef
    · rw [hc] at h; subst h; exact absurd rfl hu
    · obtain ⟨o, ha⟩ := opd_const (G := G) (w := w) (tmps := tmps) T ty v hc
      have hb : ∀ p, constD T ty v ≠ .bor p := by
        intro p
        unfold constD
        split <;> try (simp; done)
        split <;> simp
      have e : constD T ty v = d := by
        generalize constD T ty v = c at *
        cases c <;> first | exact h | exact absurd rfl (hb _)
      rw [e] at ha hb o
      refine .inr ⟨ha, hb, ?_⟩
      by_cases hs : ∃ f n l, d = .sl f n l
      · obtain ⟨f, n, l, rfl⟩ := hs
        rcases o.const rfl f n l rfl with ⟨rfl, rfl, rfl⟩ | ⟨rfl, hro⟩
        · exact ⟨.r 0 0, .inl ⟨rfl, rfl⟩⟩
        · exact ⟨.r 0 0, hro⟩
      · exact ⟨_, o.leaf fun f n l e => hs ⟨f, n, l, e⟩⟩
  | func f =>
    simp only [St.see, St.raw] at h
    subst h
    exact .inr ⟨by simp, by simp, .r 0 0, Ro.fn _ [] [] #[] #[] rfl rfl (by simp) (by simp) (by simp)⟩
  | global g => simp only [St.see, St.raw] at h; subst h; exact absurd rfl hu

theorem clearAll_length (ln : List (Nat × Pl)) : ∀ tm : List D, (clearAll tm ln).length = tm.length := by
  induction ln with
  | nil => intro tm; rfl
  | cons a r ih => intro tm; simp [clearAll, ih]

theorem clearAll_get (ln : List (Nat × Pl)) : ∀ (tm : List D) (t : Nat) (h : t < (clearAll tm ln).length), (clearAll tm ln)[t] = .undef ∨ ((clearAll tm ln)[t] = tm[t]'(by rw [← clearAll_length ln tm]; exact h) ∧ ∀ p, (t, p) ∉ ln) := by
  induction ln with
  | nil => intro tm t h; exact .inr ⟨rfl, by simp⟩
  | cons a r ih =>
    obtain ⟨u, p⟩ := a
    intro tm t h
    simp only [clearAll] at h ⊢
    rcases ih (tm.set u .undef) t h with e | ⟨e, hn⟩
    · exact .inl e
    · by_cases ht : u = t
      · subst ht
        left
        rw [e]; simp
      · right
        refine ⟨by rw [e]; simp [List.getElem_set_ne ht], fun q hq => ?_⟩
        rcases List.mem_cons.mp hq with hq | hq
        · cases hq; exact ht rfl
        · exact hn q hq

theorem Slot.undef {G : Gh} {w : World} {tmps : Array Value} {κ : Nat → Nat → Key} {v : Value} : Slot G w tmps κ .undef v := trivial

/-- Slots that are cleared: what is left borrows what is left. -/
theorem Rel.cleared {G : Gh} {w : World} {st : St} {tmps : Array Value} (r : Rel G w st tmps) (tm : List D) (ln : List (Nat × Pl)) (hl : tm.length = st.tm.length)
    (h : ∀ t (h : t < tm.length) (h' : t < st.tm.length), tm[t] = .undef ∨ (tm[t] = st.tm[t] ∧ ∀ p, (t, p) ∈ st.ln → (t, p) ∈ ln)) : Rel G w { st with tm, ln } tmps := by
  refine ⟨by rw [← r.len]; exact hl, fun t ht ht' => ?_, fun t ht p hb => ?_, r.bx⟩
  · rcases h t ht (by rw [← hl]; exact ht) with e | ⟨e, _⟩
    · rw [e]; exact Slot.undef
    · rw [e]; exact r.slot t _ ht'
  · rcases h t ht (by rw [← hl]; exact ht) with e | ⟨e, k⟩
    · rw [e] at hb; exact hb.elim
    · rw [e] at hb
      exact k p (r.ln t _ p hb)

theorem forget_ok {G : Gh} {w : World} {st : St} {tmps : Array Value} (r : Rel G w st tmps) (c : Pl → Bool) :
    Rel G w (st.forget c) tmps ∧ (∀ t (h : t < (st.forget c).tm.length) p, (st.forget c).tm[t].sbors p → c p = false) := by
  unfold St.forget
  split
  · rename_i e
    refine ⟨r, fun t ht p hb => ?_⟩
    have := r.ln t ht p hb
    rw [e] at this
    cases this
  · have hr : Rel G w { st with tm := clearAll st.tm (st.ln.filter fun x => c x.2), ln := st.ln.filter fun x => !c x.2 } tmps := by
      refine r.cleared _ _ (clearAll_length _ _) fun t ht ht' => ?_
      rcases clearAll_get _ st.tm t ht with e | ⟨e, hn⟩
      · exact .inl e
      · refine .inr ⟨e, fun p hp => ?_⟩
        have := hn p
        simp only [List.mem_filter, not_and, Bool.not_eq_true] at this ⊢
        exact ⟨hp, by simp [this hp]⟩
    refine ⟨hr, fun t ht p hb => ?_⟩
    have := hr.ln t ht p hb
    simp only [List.mem_filter] at this
    simpa using this.2

theorem forget_grew (base : Nat) (st : St) (c : Pl → Bool) : Grew base st (st.forget c) := by
  unfold St.forget
  split
  · exact .refl _ _
  · exact ⟨fun _ h => h, fun _ _ _ => rfl, fun h => h, Nat.le_refl _, fun _ h => h, clearAll_length _ _⟩

theorem clearSlots_length (l : List Nat) : ∀ tm : List D, (clearSlots l tm).length = tm.length := by
  induction l with
  | nil => intro tm; rfl
  | cons a r ih => intro tm; simp [clearSlots, ih]

theorem clearSlots_get (l : List Nat) : ∀ (tm : List D) (t : Nat) (h : t < (clearSlots l tm).length), (clearSlots l tm)[t] = .undef ∨ (clearSlots l tm)[t] = tm[t]'(by rw [← clearSlots_length l tm]; exact h) := by
  induction l with
  | nil => intro tm t h; exact .inr rfl
  | cons a r ih =>
    intro tm t h
    simp only [clearSlots] at h ⊢
    rcases ih (tm.set a .undef) t h with e | e
    · exact .inl e
    · by_cases ht : a = t
      · subst ht; left; rw [e]; simp
      · right; rw [e]; simp [List.getElem_set_ne ht]

def landP (t : Nat) : Perm → Perm
  | .ex (.r i j) => .ex (.s t i j)
  | .tip m (.r i j) => .tip m (.s t i j)
  | q => q

/-- What is in flight lands in slot t. -/
def Gh.land (G : Gh) (t : Nat) : Gh := { G with pm := fun b => landP t (G.pm b) }

theorem step_land (G : Gh) (w : World) (t : Nat) : Step G w (G.land t) w := by
  refine ⟨⟨rfl, rfl, rfl, Nat.le_refl _, fun b _ e => ⟨by simp [Gh.land, e, landP], rfl⟩, fun b _ _ e => ⟨by simp [Gh.land, e, landP], rfl⟩, fun b m k _ e => ⟨.inl ?_, fun _ _ => rfl⟩, fun _ _ _ h => h⟩, fun _ _ h => h⟩
  cases k with
  | r i j => exact ⟨m, .s t i j, Nat.le_refl _, by simp [Gh.land, e, landP]⟩
  | s u i j => exact ⟨m, .s u i j, Nat.le_refl _, by simp [Gh.land, e, landP]⟩
  | b l j => exact ⟨m, .b l j, Nat.le_refl _, by simp [Gh.land, e, landP]⟩

theorem moves_land (G : Gh) (w : World) (t : Nat) (κ : Key) (h : ∀ i j, κ ≠ .r i j) : Moves G w (G.land t) w κ κ := by
  intro b _
  cases κ with
  | r i j => exact absurd rfl (h i j)
  | s u i j => exact ⟨fun e => ⟨by simp [Gh.land, e, landP], rfl⟩, fun m e => ⟨by simp [Gh.land, e, landP], rfl⟩⟩
  | b l j => exact ⟨fun e => ⟨by simp [Gh.land, e, landP], rfl⟩, fun m e => ⟨by simp [Gh.land, e, landP], rfl⟩⟩

theorem moves_landed (G : Gh) (w : World) (t i j : Nat) : Moves G w (G.land t) w (.r i j) (.s t i j) :=
  fun b _ => ⟨fun e => ⟨by simp [Gh.land, e, landP], rfl⟩, fun m e => ⟨by simp [Gh.land, e, landP], rfl⟩⟩

theorem placeV_set {G : Gh} {w : World} {tmps : Array Value} {t : Nat} {v : Value} {p : Pl} (h : p.inSlot t = false) : placeV G w (tmps.setIfInBounds t v) p = placeV G w tmps p := by
  cases p with
  | s u j =>
    have : t ≠ u := by
      intro e; subst e; simp [Pl.inSlot] at h
    simp [placeV, this]
  | b loc j => rfl

theorem boxes_land {G : Gh} {w : World} {bx : List (List D)} (r : Boxes G w bx) (t : Nat) : Boxes (G.land t) w bx :=
  r.keep (step_land G w t) rfl (fun loc b e => ⟨by simp [Gh.land, r.var loc b e, landP], rfl⟩) fun loc j => moves_land G w t _ (by simp)

/-- A value lands in a slot. -/
theorem set_ok {G : Gh} {w : World} {st : St} {tmps : Array Value} (r : Rel G w st tmps) {t : Nat} {d : D} {v : Value} {ps : List Pl} (hv : Slot G w tmps (fun i j => .r i j) d v)
    (hp : ∀ p, d.sbors p → p ∈ ps) (hn : ps.any (Pl.inSlot t) = false) :
    Rel (G.land t) w { st.set t d with ln := ps.map (t, ·) ++ (st.set t d).ln } (tmps.setIfInBounds t v) := by
  obtain ⟨r1, hf⟩ := forget_ok r (Pl.inSlot t)
  have hd : Slot (G.land t) w (tmps.setIfInBounds t v) (fun i j => .s t i j) d v := by
    refine hv.move (step_land G w t) (fun i j => moves_landed G w t i j) fun p hb => ?_
    rw [placeV_set]
    · exact placeV_bl rfl p
    · have := hp p hb
      rw [List.any_eq_false] at hn
      simpa using hn p this
  simp only [St.set]
  generalize st.forget (Pl.inSlot t) = s1 at *
  refine ⟨by simp [r1.len], fun u hu hu' => ?_, fun u hu p hb => ?_, boxes_land r1.bx t⟩
  · rw [set_tm_get]
    have hu2 : u < tmps.size := by simpa using hu'
    rw [Array.getElem_setIfInBounds hu2]
    split
    · rename_i e; subst e; exact hd
    · rename_i e
      have hu3 : u < s1.tm.length := by simpa using hu
      refine (r1.slot u hu3 hu2).move (step_land G w t) (fun i j => moves_land G w t _ (by simp)) fun p hb => ?_
      rw [placeV_set (hf u hu3 p hb)]
      exact placeV_bl rfl p
  · rw [set_tm_get] at hb
    split at hb
    · rename_i e; subst e
      exact List.mem_append_left _ (List.mem_map.mpr ⟨p, hp p hb, rfl⟩)
    · rename_i e
      have hu3 : u < s1.tm.length := by simpa using hu
      refine List.mem_append_right _ (List.mem_filter.mpr ⟨r1.ln u hu3 p hb, ?_⟩)
      simpa using fun h => e h.symm

theorem set_grew (base : Nat) (st : St) (t : Nat) (d : D) (ln : List (Nat × Pl)) : Grew base st { st.set t d with ln } := by
  refine (forget_grew base st (Pl.inSlot t)).trans ⟨fun _ h => h, fun _ _ _ => rfl, fun h => h, Nat.le_refl _, fun _ h => h, by simp [St.set]⟩

end Go.PI
