/- Boxes that nothing leads to are given up. -/
import Derived.Test.YtoaadbakbfphgaaIw
namespace Go.PI
open Go

variable {P : Program} {base : Nat} {G : Gh} {w w' : World} {st : St} {tmps : Array Value} {T : Nat → TI} {C : CallT}

theorem cut_boxes {n : Nat} {bx : List (List D)} (r : Boxes G w bx) (hl : ∀ loc (h : loc < bx.length), loc < n → lowL n bx[loc] = true) : Boxes (G.cut n) w (bx.take n) := by
  refine ⟨by simp [Gh.cut, r.len], fun loc b ls e1 e2 => ?_, fun loc e => ?_, fun loc e => ?_⟩
  · obtain ⟨hlt, e1⟩ := cut_bl' e1
    rw [List.getElem?_take, if_pos hlt] at e2
    obtain ⟨h1, cs, ty, h2, h3, h4⟩ := r.box loc b ls e1 e2
    obtain ⟨hb, rfl⟩ := List.getElem?_eq_some_iff.mp e2
    refine ⟨h1, cs, ty, h2, h3, fun j hj hj' => ?_⟩
    obtain ⟨q, h5⟩ := h4 j hj hj'
    exact ⟨q, cut_leaf h5 (low_get (hl loc hb hlt) hj)⟩
  · rw [List.getElem?_take] at e
    split at e
    · rename_i hlt
      rw [cut_bl hlt]
      exact r.virt loc e
    · cases e
  · simp only [Gh.cut, List.getElem?_take] at e
    split at e
    · rename_i hlt
      rw [List.getElem?_take, if_pos hlt]
      exact r.bare loc e
    · cases e

theorem cut_evo {n : Nat} (h : base ≤ n) : Evo base G w (G.cut n) w :=
  ⟨rfl, rfl, rfl, Nat.le_refl _, fun _ _ e => ⟨e, rfl⟩, fun _ _ _ e => ⟨e, rfl⟩, fun _ m k _ e => ⟨.inl ⟨m, k, Nat.le_refl _, e⟩, fun _ _ => rfl⟩, fun loc b hl e => by rw [cut_bl (by omega)]; exact e⟩

/-- What holds between the states of a function's code. -/
structure Far (base : Nat) (G : Gh) (w : World) (st : St) (G' : Gh) (w' : World) (s : St) : Prop where
  evo : Evo base G w G' w'
  unt : Unt base G w w' s.dirty
  dirty : ∀ x ∈ st.dirty, x ∈ s.dirty
  old : ∀ loc, loc < base → loc ∉ s.dirty → s.bx[loc]? = st.bx[loc]?
  low : ∀ k, LowInv k st → LowInv k s
  len : base ≤ s.bx.length

theorem Evo.weak {G' : Gh} (h : Step G w G' w') (base : Nat) : Evo base G w G' w' :=
  ⟨h.evo.os, h.evo.tape, h.evo.output, h.evo.size, h.evo.fr, h.evo.held, h.evo.tip, fun loc b _ e => h.bl loc b e⟩

theorem Far.of {G' : Gh} {s : St} (h : Step G w G' w') (u : Unt base G w w' s.dirty) (g : Grew base st s) (hb : base ≤ st.bx.length) : Far base G w st G' w' s :=
  ⟨.weak h base, u, g.dirty, g.old, g.low, by have := g.len; omega⟩

theorem Far.refl (hb : base ≤ st.bx.length) : Far base G w st G w st := .of (step_refl _ _) (unt_refl _ _ _ _) (.refl _ _) hb

theorem Far.trans {G1 G2 : Gh} {w1 w2 : World} {s1 s2 : St} (h : Far base G w st G1 w1 s1) (k : Far base G1 w1 s1 G2 w2 s2) : Far base G w st G2 w2 s2 :=
  ⟨h.evo.trans k.evo, fun loc b hl hb hx => (k.unt loc b hl (h.evo.bl loc b hl hb) hx).trans (h.unt loc b hl hb fun hy => hx (k.dirty _ hy)), fun _ hx => k.dirty _ (h.dirty _ hx),
    fun loc hl hx => (k.old loc hl hx).trans (h.old loc hl fun hy => hx (k.dirty _ hy)), fun n hl => k.low n (h.low n hl), k.len⟩

/-- Ahead of a loop's round. -/
theorem round_ok (r : Rel G w st tmps) (hln : st.ln = []) {n : Nat} (hn : base ≤ n) (hlen : n ≤ st.bx.length) (hlow : LowInv base st) (cl : List Nat) :
    ∃ G', Rel G' w (roundStart n cl st) tmps ∧ (roundStart n cl st).ln = [] ∧ Far base G w st G' w (roundStart n cl st) ∧ n ≤ (roundStart n cl st).bx.length := by
  have r1 : Rel G w { st with tm := clearSlots cl st.tm } tmps := by
    have := r.cleared (clearSlots cl st.tm) st.ln (clearSlots_length _ _) fun t h h' => by
      rcases clearSlots_get cl st.tm t h with e | e
      · exact .inl e
      · exact .inr ⟨e, fun _ hp => hp⟩
    exact this
  unfold roundStart
  simp only
  split
  · rename_i hc
    obtain ⟨hu, ht⟩ := hc
    have hb : ∀ loc (h : loc < st.bx.length), loc < n → lowL n st.bx[loc] = true := fun loc h hl => lowL_mono (by omega) _ (hlow hu loc h)
    refine ⟨G.cut n, ⟨r1.len, fun t h h' => cut_slot (r1.slot t h h') (low_get ht h), r1.ln, cut_boxes r1.bx hb⟩, hln, ⟨cut_evo hn, fun _ _ _ _ _ => rfl, fun _ h => h, fun loc hl _ => ?_, fun k hk hu' loc hl => ?_, ?_⟩, ?_⟩
    · simp only
      rw [List.getElem?_take, if_pos (by omega)]
    · simp only [List.getElem_take]
      exact hk hu' loc (by simp at hl; omega)
    · simp; omega
    · simp; omega
  · exact ⟨G, r1, hln, ⟨.refl _ _ _, unt_refl _ _ _ _, fun _ h => h, fun _ _ _ => rfl, fun _ h => h, by simp; omega⟩, hlen⟩

end Go.PI
