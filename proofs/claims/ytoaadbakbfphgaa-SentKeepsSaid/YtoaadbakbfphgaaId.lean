/- A place gets another value while memory stays: the relation is carried on. -/
import Derived.Test.YtoaadbakbfphgaaIc
namespace Go.PI
open Go

theorem Moves.refl_of {G : Gh} {w : World} (κ : Key) : Moves G w G w κ κ := fun _ _ => ⟨fun h => ⟨h, rfl⟩, fun _ h => ⟨h, rfl⟩⟩

theorem getD_lt {α : Type} {l : List α} {i : Nat} {d : α} (h : i < l.length) : l.getD i d = l[i] := by
  simp [List.getD, List.getElem?_eq_getElem h]

theorem placeV_step {G G' : Gh} {w w' : World} {tmps : Array Value} (hb : G'.bl = G.bl) (hw : ∀ (loc b : Nat), G.bl[loc]? = some (some b) → w'.heap[b]? = w.heap[b]?) (p : Pl) : placeV G' w' tmps p = placeV G w tmps p := by
  cases p with
  | s t j => rfl
  | b loc j =>
    simp only [placeV, hb]
    split
    · rename_i b e
      exact cell_of_heap (hw loc b e) j
    · rfl

theorem lbors_plain {d : D} (h : d.plain) (p : Pl) : ¬ d.lbors p := by
  cases d <;> simp_all [D.plain, D.lbors]

theorem Leaf.plain_tmps {G : Gh} {w : World} {tmps tmps' : Array Value} {κ : Key} {d : D} {v : Value} (hp : d.plain) (h : Leaf G w tmps κ d v) : Leaf G w tmps' κ d v := by
  cases d with
  | bor p => exact hp.elim
  | ea p n i off => exact hp.elim
  | rp l => exact hp.elim
  | sl f n l =>
    match f, h with
    | 0, h => exact h
    | 1, h => exact h
    | 2, h => exact h
    | _ + 3, h => exact h.elim
  | _ => exact h

/-- The boxes, while memory and the boxes' places stay. -/
theorem Boxes.keep {G G' : Gh} {w w' : World} {bx : List (List D)} (h : Step G w G' w') (hb : G'.bl = G.bl) (hv : ∀ (loc b : Nat), G.bl[loc]? = some (some b) → G'.pm b = G.pm b ∧ w'.heap[b]? = w.heap[b]?)
    (m : ∀ loc j, Moves G w G' w' (.b loc j) (.b loc j)) (r : Boxes G w bx) : Boxes G' w' bx := by
  refine ⟨by rw [hb]; exact r.len, fun loc b ls e1 e2 => ?_, fun loc e => by rw [hb]; exact r.virt loc e, fun loc e => r.bare loc (by rw [← hb]; exact e)⟩
  rw [hb] at e1
  obtain ⟨h1, cs, ty, h2, h3, h4⟩ := r.box loc b ls e1 e2
  obtain ⟨k1, k2⟩ := hv loc b e1
  refine ⟨k1.trans h1, cs, ty, k2.trans h2, h3, fun j hj hj' => ?_⟩
  obtain ⟨q, h5⟩ := h4 j hj hj'
  exact ⟨q, h5.move h (m loc j) fun p hb => (lbors_plain q p hb).elim⟩

theorem set_tm_get (tm : List D) (t u : Nat) (d : D) (h : u < (tm.set t d).length) : (tm.set t d)[u] = if t = u then d else tm[u]'(by simpa using h) := by
  simp [List.getElem_set]

theorem St.get_lt {st : St} {t : Nat} (h : t < st.tm.length) : st.get t = st.tm[t] := getD_lt h

theorem leaf_slice {G : Gh} {w : World} {tmps : Array Value} {κ : Key} {f n : Nat} {l : List (List D)} {v : Value} (h : Leaf G w tmps κ (.sl f n l) v) : ∃ a len cap, v = .slice a len cap := by
  match f, h with
  | 0, h => cases h <;> exact ⟨_, _, _, rfl⟩
  | 1, h => rcases h with ⟨_, rfl⟩ | ⟨_, _, _, rfl, _⟩ <;> exact ⟨_, _, _, rfl⟩
  | 2, h => rcases h with ⟨_, rfl⟩ | ⟨_, _, _, rfl⟩ | ⟨_, _, _, rfl, _⟩ <;> exact ⟨_, _, _, rfl⟩
  | _ + 3, h => exact h.elim

/-- A leaf of a value that is put in place of another: memory's value stays. -/
theorem Val.setLeaf {G G' : Gh} {w w' : World} {tmps tmps' : Array Value} {κ : Nat → Key} {d x : D} {v : Value} {j f n : Nat} {l : List (List D)} (h : Step G w G' w')
    (m : ∀ i, i ≠ j → Moves G w G' w' (κ i) (κ i)) (hp : ∀ p, d.bors p → placeV G' w' tmps' p = placeV G w tmps p)
    (hx : ∀ u, v.cells[j]? = some u → Leaf G' w' tmps' (κ j) x u) (hxa : ∀ l, x ≠ .agg l) (hin : d.leaf j = .sl f n l) (t : Val G w tmps κ d v) : Val G' w' tmps' κ (d.setLeaf j x) v := by
  rcases agg_or d with ⟨l, rfl⟩ | ha
  · obtain ⟨vs, rfl, hs, hv⟩ := t
    refine ⟨vs, rfl, by simp [hs], fun i hi hi' => ?_⟩
    rw [List.getElem_set]
    split
    · rename_i e
      subst e
      exact hx _ (by simp [Value.cells, hi'])
    · rename_i e
      have hi2 : i < l.length := by simpa using hi
      exact (hv i hi2 hi').move h (m i fun e' => e e'.symm) fun p hb => hp p ⟨l[i], List.getElem_mem _, hb⟩
  · cases j with
    | zero =>
      have e : d.setLeaf 0 x = x := by cases d <;> first | rfl | exact absurd rfl (ha _)
      have e2 : d.leaf 0 = d := by cases d <;> first | rfl | exact absurd rfl (ha _)
      rw [e2] at hin
      subst hin
      rw [e]
      obtain ⟨a, len, cap, rfl⟩ := leaf_slice ((val_of ha).mp t)
      exact (val_of hxa).mpr (hx _ rfl)
    | succ j =>
      exfalso
      cases d <;> first | (simp [D.leaf] at hin; done) | exact absurd rfl (ha _)

/-- What place p's leaf says. -/
theorem Rel.at {G : Gh} {w : World} {st : St} {tmps : Array Value} (r : Rel G w st tmps) {p : Pl} {f n : Nat} {l : List (List D)} (h : st.at p = .sl f n l) {v : Value} (hv : placeV G w tmps p = some v) : Leaf G w tmps p.key (.sl f n l) v := by
  cases p with
  | s t j =>
    simp only [St.at, St.get] at h
    by_cases ht : t < st.tm.length
    · rw [getD_lt ht] at h
      have ht' : t < tmps.size := by rw [← r.len]; exact ht
      have hs := r.slot t ht ht'
      simp only [placeV, Array.getElem?_eq_getElem ht', Option.bind_some] at hv
      generalize st.tm[t] = d at *
      generalize tmps[t] = u at *
      rcases tup_or d with ⟨q, rfl⟩ | htu
      · cases j <;> cases h
      have hs := (slot_of htu).mp hs
      rcases agg_or d with ⟨q, rfl⟩ | ha
      · obtain ⟨vs, rfl, hl, hq⟩ := hs
        simp only [D.leaf] at h
        by_cases hj : j < q.length
        · rw [getD_lt hj] at h
          have hj' : j < vs.size := by rw [hl]; exact hj
          simp only [Value.cells, Array.getElem?_eq_getElem hj', Option.some.injEq] at hv
          have := hq j hj hj'
          rw [h, hv] at this
          exact this
        · rw [List.getD, List.getElem?_eq_none (by omega)] at h
          cases h
      · cases j with
        | zero =>
          have e2 : d.leaf 0 = d := by cases d <;> first | rfl | exact absurd rfl (ha _)
          rw [e2] at h
          subst h
          have hl := (val_of ha).mp hs
          obtain ⟨a, len, cap, rfl⟩ := leaf_slice hl
          simp only [Value.cells] at hv
          cases hv
          exact hl
        | succ j => cases d <;> first | (simp [D.leaf] at h; done) | exact absurd rfl (ha _)
    · rw [List.getD, List.getElem?_eq_none (by omega)] at h
      cases j <;> cases h
  | b loc j =>
    simp only [placeV] at hv
    split at hv
    · rename_i b e
      simp only [St.at, St.box] at h
      have hl : loc < st.bx.length := by
        rw [← r.bx.len]
        exact (List.getElem?_eq_some_iff.mp e).1
      rw [getD_lt hl] at h
      obtain ⟨h1, cs, ty, h2, h3, h4⟩ := r.bx.box loc b st.bx[loc] e (List.getElem?_eq_getElem hl)
      by_cases hj : j < st.bx[loc].length
      · rw [getD_lt hj] at h
        have hj' : j < cs.size := by rw [h3]; exact hj
        obtain ⟨q, h5⟩ := h4 j hj hj'
        have : v = cs[j] := by
          simp only [World.cell?, at_, h2] at hv
          simpa [hj'] using hv.symm
        subst this
        rw [h] at h5
        exact h5.plain_tmps trivial
      · rw [List.getD, List.getElem?_eq_none (by omega)] at h
        cases h
    · cases hv

theorem bors_setLeaf {d x : D} {j f n : Nat} {l : List (List D)} (hx : x.plain) (hxa : ∀ l, x ≠ .agg l) (hin : d.leaf j = .sl f n l) {p : Pl} (h : (d.setLeaf j x).bors p) : d.bors p := by
  rcases agg_or d with ⟨q, rfl⟩ | ha
  · obtain ⟨e, he, hb⟩ := h
    rcases List.mem_or_eq_of_mem_set he with he | rfl
    · exact ⟨e, he, hb⟩
    · exact (lbors_plain hx p hb).elim
  · cases j with
    | zero =>
      have e : d.setLeaf 0 x = x := by cases d <;> first | rfl | exact absurd rfl (ha _)
      rw [e] at h
      exact (lbors_plain hx p ((bors_of hxa).mp h)).elim
    | succ j => exfalso; cases d <;> first | (simp [D.leaf] at hin; done) | exact absurd rfl (ha _)

theorem setLeaf_tup {d x : D} {j f n : Nat} {l : List (List D)} (hxt : ∀ l, x ≠ .tup l) (hin : d.leaf j = .sl f n l) : ∀ l, d.setLeaf j x ≠ .tup l := by
  intro q
  rcases agg_or d with ⟨r, rfl⟩ | ha
  · simp [D.setLeaf]
  · cases j with
    | zero =>
      have e : d.setLeaf 0 x = x := by cases d <;> first | rfl | exact absurd rfl (ha _)
      rw [e]; exact hxt q
    | succ j => exfalso; cases d <;> first | (simp [D.leaf] at hin; done) | exact absurd rfl (ha _)

/-- What stays of the state when a place gets another leaf. -/
theorem Rel.put {G G' : Gh} {w w' : World} {st : St} {tmps : Array Value} (base : Nat) (r : Rel G w st tmps) {p : Pl} {f n : Nat} {l : List (List D)} {x : D} (h : st.at p = .sl f n l)
    (stp : Step G w G' w') (hb : G'.bl = G.bl) (hv : ∀ (loc b : Nat), G.bl[loc]? = some (some b) → G'.pm b = G.pm b ∧ w'.heap[b]? = w.heap[b]?)
    (m : ∀ κ, κ ≠ p.key → Moves G w G' w' κ κ) (hx : ∀ v, placeV G w tmps p = some v → Leaf G' w' tmps p.key x v) (hxp : x.plain) (hxa : ∀ l, x ≠ .agg l) (hxt : ∀ l, x ≠ .tup l) : Rel G' w' (st.put base p x) tmps := by
  have hpl := placeV_step (tmps := tmps) hb (fun loc b e => (hv loc b e).2)
  cases p with
  | s t j =>
    have ht : t < st.tm.length := by
      rcases Nat.lt_or_ge t st.tm.length with ht | ht
      · exact ht
      · simp only [St.at, St.get] at h
        rw [List.getD, List.getElem?_eq_none ht] at h
        cases j <;> cases h
    have hin : st.tm[t].leaf j = .sl f n l := by simpa only [St.at, St.get, getD_lt ht] using h
    have htu : ∀ q, st.tm[t] ≠ .tup q := by
      intro q e; rw [e] at hin; cases j <;> cases hin
    have ht' : t < tmps.size := by rw [← r.len]; exact ht
    refine ⟨by simpa [St.put] using r.len, fun u hu hu' => ?_, fun u hu q hq => ?_, r.bx.keep stp hb hv fun loc i => m _ (by simp [Pl.key])⟩
    · simp only [St.put, St.get_lt ht] at hu ⊢
      rw [set_tm_get]
      split
      · rename_i e
        subst e
        refine (slot_of (setLeaf_tup hxt hin)).mpr ?_
        refine Val.setLeaf stp (fun i hi => m _ ?_) (fun q _ => hpl q) (fun v hv => hx v ?_) hxa hin ((slot_of htu).mp (r.slot t ht ht'))
        · simpa [Pl.key] using hi
        · simp only [placeV, Array.getElem?_eq_getElem ht', Option.bind_some]; exact hv
      · rename_i e
        have hu2 : u < st.tm.length := by simpa using hu
        exact (r.slot u hu2 hu').move stp (fun i k => m _ (by simp [Pl.key]; intro e'; exact absurd e'.symm e)) fun q _ => hpl q
    · simp only [St.put, St.get_lt ht] at hu hq ⊢
      rw [set_tm_get] at hq
      split at hq
      · rename_i e
        subst e
        rw [sbors_of (setLeaf_tup hxt hin)] at hq
        exact r.ln t ht q ((sbors_of htu).mpr (bors_setLeaf hxp hxa hin hq))
      · exact r.ln u (by simpa using hu) q hq
  | b loc j =>
    simp only [St.at, St.box] at h
    have hl : loc < st.bx.length := by
      rcases Nat.lt_or_ge loc st.bx.length with hl | hl
      · exact hl
      · have e : st.bx.getD loc [] = [] := by simp [List.getD, List.getElem?_eq_none hl]
        rw [e] at h; cases h
    rw [getD_lt hl] at h
    have hj : j < st.bx[loc].length := by
      rcases Nat.lt_or_ge j st.bx[loc].length with hj | hj
      · exact hj
      · rw [List.getD, List.getElem?_eq_none hj] at h; cases h
    refine ⟨by simpa [St.put] using r.len, fun u hu hu' => ?_, fun u hu q hq => r.ln u hu q hq, ⟨by rw [hb]; simpa [St.put] using r.bx.len, fun loc' b ls e1 e2 => ?_, fun loc' e => ?_, fun loc' e => ?_⟩⟩
    · exact (r.slot u hu hu').move stp (fun i k => m _ (by simp [Pl.key])) fun q _ => hpl q
    · rw [hb] at e1
      simp only [St.put, St.box, getD_lt hl] at e2
      obtain ⟨k1, k2⟩ := hv loc' b e1
      by_cases e : loc = loc'
      · subst e
        rw [List.getElem?_set_self hl] at e2
        obtain rfl := (Option.some.inj e2).symm
        obtain ⟨h1, cs, ty, h2, h3, h4⟩ := r.bx.box loc b _ e1 (List.getElem?_eq_getElem hl)
        refine ⟨k1.trans h1, cs, ty, k2.trans h2, by simpa using h3, fun i hi hi' => ?_⟩
        have hi2 : i < st.bx[loc].length := by simpa using hi
        rw [List.getElem_set]
        split
        · rename_i e
          subst e
          refine ⟨hxp, (hx cs[j] ?_).plain_tmps hxp⟩
          simp [placeV, e1, World.cell?, at_, h2, hi']
        · rename_i e
          obtain ⟨q, h5⟩ := h4 i hi2 hi'
          exact ⟨q, h5.move stp (m _ (by simp [Pl.key]; intro e'; exact absurd e'.symm e)) fun p hb => (lbors_plain q p hb).elim⟩
      · rw [List.getElem?_set_ne e] at e2
        obtain ⟨h1, cs, ty, h2, h3, h4⟩ := r.bx.box loc' b ls e1 e2
        refine ⟨k1.trans h1, cs, ty, k2.trans h2, h3, fun i hi hi' => ?_⟩
        obtain ⟨q, h5⟩ := h4 i hi hi'
        exact ⟨q, h5.move stp (m _ (by simp [Pl.key]; intro e'; exact absurd e'.symm e)) fun p hb => (lbors_plain q p hb).elim⟩
    · rw [hb]
      refine r.bx.virt loc' ?_
      simp only [St.put, St.box, getD_lt hl] at e
      by_cases e' : loc = loc'
      · subst e'
        rw [List.getElem?_set_self hl] at e
        have := congrArg List.length (Option.some.inj e)
        simp at this
        rw [this] at hj
        simp at hj
      · rwa [List.getElem?_set_ne e'] at e
    · rw [hb] at e
      have e2 := r.bx.bare loc' e
      simp only [St.put, St.box, getD_lt hl]
      by_cases e' : loc = loc'
      · subst e'
        rw [List.getElem?_eq_getElem hl] at e2
        rw [Option.some.inj e2] at hj
        simp at hj
      · rwa [List.getElem?_set_ne e']

end Go.PI
