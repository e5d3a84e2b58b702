/- Regions. -/
import Derived.Test.YtoaadbakbfphgaaIv
import Derived.Test.YtoaadbakbfphgaaJg
import Derived.Orders
namespace Go.PI
open Go

variable {P : Program} {base : Nat} {G : Gh} {w w' : World} {st : St} {tmps : Array Value} {T : Nat → TI} {C : CallT}

/-- Empty boxes are put aside. -/
theorem aside (r : Rel G w st tmps) (k : Nat) : ∃ G', Rel G' w { st with bx := st.bx ++ List.replicate k [] } tmps ∧ Step G w G' w := by
  let G' : Gh := { G with bl := G.bl ++ List.replicate k none }
  have hl := r.bx.len
  have bl : ∀ loc b : Nat, G.bl[loc]? = some (some b) → G'.bl[loc]? = some (some b) := fun loc b e => by
    have := (List.getElem?_eq_some_iff.mp e).1
    show (G.bl ++ List.replicate k none)[loc]? = _
    rw [List.getElem?_append_left this]
    exact e
  have bl' : ∀ loc b : Nat, G'.bl[loc]? = some (some b) → G.bl[loc]? = some (some b) := fun loc b e => by
    have e : (G.bl ++ List.replicate k none)[loc]? = some (some b) := e
    by_cases h : loc < G.bl.length
    · rwa [List.getElem?_append_left h] at e
    · rw [List.getElem?_append_right (by omega)] at e
      simp [List.getElem?_replicate] at e
  have stp : Step G w G' w := ⟨⟨rfl, rfl, rfl, Nat.le_refl _, fun _ _ e => ⟨e, rfl⟩, fun _ _ _ e => ⟨e, rfl⟩, fun _ m k _ e => ⟨.inl ⟨m, k, Nat.le_refl _, e⟩, fun _ _ => rfl⟩, fun _ _ h => absurd h (Nat.not_lt_zero _)⟩, bl⟩
  have mv : ∀ κ, Moves G w G' w κ κ := fun κ b _ => ⟨fun e => ⟨e, rfl⟩, fun _ e => ⟨e, rfl⟩⟩
  refine ⟨G', ⟨r.len, fun t h h' => (r.slot t h h').move stp (fun i j => mv _) fun p hp => ?_, r.ln, ⟨by show (G.bl ++ List.replicate k none).length = _; simp [hl], fun loc b ls e1 e2 => ?_, fun loc e => ?_, fun loc e => ?_⟩⟩, stp⟩
  · obtain ⟨u, hu⟩ := slot_place (r.slot t h h') hp
    cases p with
    | s t j => rfl
    | b l j =>
      rcases e : G.bl[l]? with _ | _ | b
      · simp [placeV, e] at hu
      · simp [placeV, e] at hu
      · simp only [placeV, e, bl l b e]
  · have e1 := bl' loc b e1
    have hlt : loc < st.bx.length := by rw [← hl]; exact (List.getElem?_eq_some_iff.mp e1).1
    rw [List.getElem?_append_left hlt] at e2
    obtain ⟨h1, cs, ty, h2, h3, h4⟩ := r.bx.box loc b ls e1 e2
    refine ⟨h1, cs, ty, h2, h3, fun j hj hj' => ?_⟩
    obtain ⟨q, h5⟩ := h4 j hj hj'
    exact ⟨q, h5.move stp (mv _) fun p hb => (lbors_plain q p hb).elim⟩
  · show (G.bl ++ List.replicate k none)[loc]? = some none
    by_cases h : loc < st.bx.length
    · rw [List.getElem?_append_left h] at e
      rw [List.getElem?_append_left (by omega)]
      exact r.bx.virt loc e
    · rw [List.getElem?_append_right (by omega)] at e ⊢
      simp only [List.getElem?_replicate] at e ⊢
      rw [hl]
      split at e
      · rename_i hc; rw [if_pos hc]
      · cases e
  · have e : (G.bl ++ List.replicate k none)[loc]? = some none := e
    by_cases h : loc < st.bx.length
    · rw [List.getElem?_append_left (by omega)] at e
      rw [List.getElem?_append_left h]
      exact r.bx.bare loc e
    · rw [List.getElem?_append_right (by omega)] at e ⊢
      simp only [List.getElem?_replicate] at e ⊢
      rw [hl] at e
      split at e
      · rename_i hc; rw [if_pos hc]
      · cases e

theorem aside_grew (hbase : base ≤ st.bx.length) (k : Nat) : Grew base st { st with bx := st.bx ++ List.replicate k [] } := by
  refine ⟨fun _ h => h, fun loc hl _ => ?_, fun h => h, by simp, fun n hlow hu loc hl => ?_, rfl⟩
  · simp only
    rw [List.getElem?_append_left (by omega)]
  · simp only [List.length_append, List.length_replicate] at hl
    simp only [List.getElem_append]
    split
    · exact hlow hu loc (by assumption)
    · simp [lowL]

/-- The world's clock alone. -/
theorem ticked (r : Rel G w st tmps) (n : Nat) : Rel G { w with drawn := n } st tmps ∧ Step G w G { w with drawn := n } := by
  have stp : Step G w G { w with drawn := n } := ⟨⟨rfl, rfl, rfl, Nat.le_refl _, fun _ _ e => ⟨e, rfl⟩, fun _ _ _ e => ⟨e, rfl⟩, fun _ m k _ e => ⟨.inl ⟨m, k, Nat.le_refl _, e⟩, fun _ _ => rfl⟩, fun _ _ h => absurd h (Nat.not_lt_zero _)⟩, fun _ _ h => h⟩
  have mv : ∀ κ, Moves G w G { w with drawn := n } κ κ := fun κ b _ => ⟨fun e => ⟨e, rfl⟩, fun _ e => ⟨e, rfl⟩⟩
  exact ⟨⟨r.len, fun t h h' => (r.slot t h h').move stp (fun i j => mv _) fun p _ => placeV_step rfl (fun _ _ _ => rfl) p, r.ln, r.bx.keep stp rfl (fun _ _ _ => ⟨rfl, rfl⟩) fun _ _ => mv _⟩, stp⟩

theorem end_ok (r : Rel G w st tmps) (keep : List Nat) (ops : List Oper) : Rel G w (regionEnd keep ops st) tmps ∧ (regionEnd keep ops st).ln = [] ∧ Grew base st (regionEnd keep ops st) := by
  refine ⟨r.cleared _ [] (by simp [clearSlots_length, clearAll_length]) fun t h h' => ?_, rfl, ⟨fun _ h => h, fun _ _ _ => rfl, fun h => h, Nat.le_refl _, fun _ h => h, by simp [regionEnd, clearSlots_length, clearAll_length]⟩⟩
  rcases clearSlots_get _ _ t h with e | e
  · exact .inl e
  · rcases clearAll_get st.ln st.tm t (by rw [clearAll_length]; exact h') with e' | ⟨e', hn⟩
    · exact .inl (e.trans e')
    · exact .inr ⟨e.trans e', fun p hp => absurd hp (hn p)⟩

theorem down_ln (st : St) (p : Pl) : (st.down base p).ln = st.ln := by
  unfold St.down
  split
  · cases p <;> rfl
  · rfl

theorem chill_ok (base : Nat) (r : Rel G w st tmps) (p : Pl) : ∃ G', Rel G' w (st.chill base p) tmps ∧ Step G w G' w ∧ Grew base st (st.chill base p) ∧ (st.chill base p).ln = st.ln := by
  obtain ⟨G1, r1, s1, b1, g1, _⟩ := down_ok base r p
  have l1 := down_ln (base := base) st p
  unfold St.chill
  generalize st.down base p = st1 at r1 g1 l1
  split
  · rename_i n l h
    refine ⟨G1, ?_, s1, g1.trans (grew_put base h fun k hk => hk), ?_⟩
    · exact r1.put base h ⟨.refl _ _ _, fun _ _ h => h⟩ rfl (fun _ _ _ => ⟨rfl, rfl⟩) (fun κ _ => .refl_of κ) (fun v hv => Tip.ro (r1.at h hv)) trivial (by simp) (by simp)
    · rw [← l1]
      cases p <;> rfl
  · exact ⟨G1, r1, s1, g1, l1⟩

theorem chills_ok (base : Nat) : ∀ (ps : List Pl) {G : Gh} {st : St}, Rel G w st tmps → ∃ G', Rel G' w (st.chills base ps) tmps ∧ Step G w G' w ∧ Grew base st (st.chills base ps) ∧ (st.chills base ps).ln = st.ln
  | [], G, st, r => ⟨G, r, step_refl _ _, .refl _ _, rfl⟩
  | p :: ps, G, st, r => by
    obtain ⟨G1, r1, s1, g1, l1⟩ := chill_ok base r p
    obtain ⟨G2, r2, s2, g2, l2⟩ := chills_ok base ps r1
    exact ⟨G2, r2, step_trans s1 s2, g1.trans g2, l2.trans l1⟩

theorem cools_ok (base : Nat) : ∀ (ps : List Pl) {G : Gh} {st : St}, Rel G w st tmps → ∃ G', Rel G' w (st.cools base ps) tmps ∧ Step G w G' w ∧ Grew base st (st.cools base ps) ∧ (st.cools base ps).ln = st.ln
  | [], G, st, r => ⟨G, r, step_refl _ _, .refl _ _, rfl⟩
  | p :: ps, G, st, r => by
    obtain ⟨G1, r1, s1, _, g1, _⟩ := down_ok base r p
    obtain ⟨G2, r2, s2, g2, l2⟩ := cools_ok base ps r1
    exact ⟨G2, r2, step_trans s1 s2, g1.trans g2, l2.trans (down_ln st p)⟩

theorem frost_ok (base : Nat) : ∀ (ts : List (Nat × List Nat)) {G : Gh} {st : St}, Rel G w st tmps → ∃ G', Rel G' w (st.frost base ts) tmps ∧ Step G w G' w ∧ Grew base st (st.frost base ts) ∧ (st.frost base ts).ln = st.ln
  | [], G, st, r => ⟨G, r, step_refl _ _, .refl _ _, rfl⟩
  | t :: ts, G, st, r => by
    simp only [St.frost]
    have key : ∃ G', Rel G' w (if t.1 < coolM then st.chills base (st.pls t) else st.cools base (st.pls (t.1 - coolM, t.2))) tmps ∧ Step G w G' w ∧ Grew base st (if t.1 < coolM then st.chills base (st.pls t) else st.cools base (st.pls (t.1 - coolM, t.2))) ∧ (if t.1 < coolM then st.chills base (st.pls t) else st.cools base (st.pls (t.1 - coolM, t.2))).ln = st.ln := by
      split
      · exact chills_ok base _ r
      · exact cools_ok base _ r
    generalize (if t.1 < coolM then st.chills base (st.pls t) else st.cools base (st.pls (t.1 - coolM, t.2))) = st1 at key ⊢
    obtain ⟨G1, r1, s1, g1, l1⟩ := key
    obtain ⟨G2, r2, s2, g2, l2⟩ := frost_ok base ts r1
    exact ⟨G2, r2, step_trans s1 s2, g1.trans g2, l2.trans l1⟩

theorem region_ok (tko : TOk P T) (hC : CallOk P C) (hm : P.follows .mixedOrders = true) {keep : List Nat} {fz : List (Nat × List Nat)} {tk : List Nat} {pc : Bool} {os : List Nat} {id : Nat} {ops : Array Oper} {draw : Bool} {s : St} (r : Rel G w st tmps) (hln : st.ln = []) (hbase : base ≤ st.bx.length) (ho : draw = true → openB pc (!os.isEmpty) tk ops.toList = true) (h : regionF C T base keep fz tk pc os ops draw st = some s)
    (Q : Exit → Act → World → Prop) (hq : ∀ tmps1 w' G', Rel G' w' s tmps1 → s.ln = [] → Step G w G' w' → Unt base G w w' s.dirty → Grew base st s → Q .normal ⟨tmps1, []⟩ w') : (Code.region id ops draw).wp P Q ⟨tmps, []⟩ w := by
  have e0 : ∀ st : St, st.ln = [] → ({ tm := st.tm, bx := st.bx ++ zeroBoxes ops.toList, ln := [], dirty := st.dirty, up := st.up } : St) = { st with bx := st.bx ++ List.replicate (allocsOf ops.toList) [] } := by
    intro st hln
    cases st
    simp only at hln
    subst hln
    rfl
  have go : ∀ (sf s1 : St) (l : List Nat) (w1 : World), base ≤ sf.bx.length → Grew base st sf → s = regionEnd keep ops.toList s1 → (∃ G1, Rel G1 w1 { sf with bx := sf.bx ++ List.replicate (allocsOf ops.toList) [] } tmps ∧ Step G w G1 w1 ∧ Unt base G w w1 []) →
      opsF C T base ops.toList tk st.bx.length l { sf with bx := sf.bx ++ List.replicate (allocsOf ops.toList) [] } = some s1 → wpOps P ops Q l ⟨tmps, []⟩ w1 := by
    rintro sf s1 l w1 hb hg rfl ⟨G1, r1, q1, u1⟩ hl
    refine opsF_ok tko hC hbase Q l r1 (by simp; omega) hl fun tmps1 w2 G2 j1 j2 j3 j4 => ?_
    obtain ⟨e1, e2, e3⟩ := end_ok (base := base) j1 keep ops.toList
    exact hq _ _ _ e1 e2 (step_trans q1 j2) (unt_trans u1 q1 j3 (by simp)) (hg.trans (((aside_grew hb _).trans j4).trans e3))
  obtain ⟨G0, r0, q0, g0, l0⟩ := frost_ok base fz r
  have hl0 : (st.frost base fz).ln = [] := l0.trans hln
  have hb0 : base ≤ (st.frost base fz).bx.length := Nat.le_trans hbase g0.len
  obtain ⟨G1, r1, q1⟩ := aside r0 (allocsOf ops.toList)
  have hl1 : ({ (st.frost base fz) with bx := (st.frost base fz).bx ++ List.replicate (allocsOf ops.toList) [] } : St).ln = [] := hl0
  unfold regionF at h
  cases draw with
  | false =>
    simp only [e0 _ hl0] at h
    simp only [Option.map_eq_some_iff] at h
    obtain ⟨s1, h1, rfl⟩ := h
    exact wp_region (go _ s1 _ w hb0 g0 rfl ⟨G1, r1, step_trans q0 q1, unt_refl _ _ _ _⟩ h1)
  | true =>
    simp only [e0 _ hl0] at h
    simp only [Option.map_eq_some_iff] at h
    obtain ⟨s1, h1, rfl⟩ := h
    refine wp_region_draw fun t => ?_
    obtain ⟨r2, q2⟩ := ticked r1 (w.drawn + 1)
    simp only [Region.schedule, hm, Bool.true_or, if_true]
    exact go _ s1 _ _ hb0 g0 rfl ⟨G1, r2, step_trans q0 (step_trans q1 q2), fun _ _ _ _ _ => rfl⟩ (open_same (fun h => by cases os <;> simp [outsOf] at h ⊢) (ho rfl) hl1 h1 t)

end Go.PI
