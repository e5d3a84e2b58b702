/- New boxes. -/
import Derived.Test.YtoaadbakbfphgaaIr
namespace Go.PI
open Go

variable {P : Program} {base : Nat} {G : Gh} {w w' : World} {st : St} {tmps : Array Value} {T : Nat → TI}

/-- What is in flight goes into a box. -/
def boxK (loc off : Nat) : Key → Key
  | .r 0 j => .b loc (off + j)
  | κ => κ

theorem slot_place {κ : Nat → Nat → Key} {d : D} {v : Value} (h : Slot G w tmps κ d v) {p : Pl} (hb : d.sbors p) : ∃ u, placeV G w tmps p = some u := by
  have leaf : ∀ {κ : Key} {d : D} {v : Value}, Leaf G w tmps κ d v → d.lbors p → ∃ u, placeV G w tmps p = some u := by
    intro κ d v h hb
    cases d <;> first | exact hb.elim | skip
    · cases hb; exact ⟨_, h⟩
    · obtain ⟨b, o, len, cap, h1, _⟩ := h
      cases hb; exact ⟨_, h1⟩
  have val : ∀ {κ : Nat → Key} {d : D} {v : Value}, Val G w tmps κ d v → d.bors p → ∃ u, placeV G w tmps p = some u := by
    intro κ d v h hb
    rcases agg_or d with ⟨l, rfl⟩ | ha
    · obtain ⟨vs, rfl, hs, hv⟩ := h
      obtain ⟨e, he, hb⟩ := hb
      obtain ⟨j, hj, rfl⟩ := List.mem_iff_getElem.mp he
      exact leaf (hv j hj (by rw [hs]; exact hj)) hb
    · exact leaf ((val_of ha).mp h) ((bors_of ha).mp hb)
  rcases tup_or d with ⟨l, rfl⟩ | ha
  · exact absurd hb (h.1 p)
  · exact val ((slot_of ha).mp h) ((sbors_of ha).mp hb)

theorem newbox_ok (r : Rel G w st tmps) {cs : Array Value} {ty : TypeId} (m : More w w' (.cells cs ty (0, 0))) (loc : Nat) (bl' : List (Option Nat)) (bx' : List (List D)) (cells : List D)
    (hcs : cs.size = cells.length) (hne : cells ≠ []) (hv : ∀ j (h : j < cells.length) (h' : j < cs.size), cells[j].plain ∧ Leaf G w tmps (.r 0 j) cells[j] cs[j])
    (hlen : bl'.length = bx'.length) (hloc : bl'[loc]? = some (some w.heap.size)) (hbx : bx'[loc]? = some cells) (hold : ∀ l, l ≠ loc → bl'[l]? = G.bl[l]? ∧ bx'[l]? = st.bx[l]?)
    (hfresh : ∀ b : Nat, G.bl[loc]? ≠ some (some b)) : ∃ G', G'.bl = bl' ∧ Rel G' w' { st with bx := bx' } tmps ∧ Step G w G' w' := by
  let G' : Gh := { bl := bl', pm := ((G.sub (boxK loc 0)).grant w.heap.size (.var loc)).pm }
  have hne' : ∀ l (b : Nat), G.bl[l]? = some (some b) → l ≠ loc := by
    rintro l b e rfl; exact hfresh b e
  have bls : ∀ (l b : Nat), G.bl[l]? = some (some b) → bl'[l]? = some (some b) := fun l b e => by rw [(hold l (hne' l b e)).1]; exact e
  have pm : ∀ b, b < w.heap.size → G'.pm b = subP (boxK loc 0) (G.pm b) := fun b hb => by
    show ((G.sub (boxK loc 0)).grant w.heap.size (.var loc)).pm b = _
    rw [grant_ne _ _ (by omega)]
    rfl
  have stp : Step G w G' w' := ⟨⟨m.os, m.tape, m.output, by rw [m.size]; omega, fun b hb e => ⟨by rw [pm b hb, e]; rfl, m.old b hb⟩, fun b _ hb e => ⟨by rw [pm b hb, e]; rfl, m.old b hb⟩,
    fun b k κ hb e => ⟨.inl ⟨k, boxK loc 0 κ, Nat.le_refl _, by rw [pm b hb, e]; rfl⟩, fun i _ => cell_of_heap (m.old b hb) i⟩, fun l b _ e => bls l b e⟩, bls⟩
  have mv : ∀ κ, Moves G w G' w' κ (boxK loc 0 κ) := fun κ b hb => ⟨fun e => ⟨by rw [pm b hb, e]; rfl, m.old b hb⟩, fun k e => ⟨by rw [pm b hb, e]; rfl, m.old b hb⟩⟩
  have mvs : ∀ t i j, Moves G w G' w' (.s t i j) (.s t i j) := fun t i j => mv _
  have mvb : ∀ l j, Moves G w G' w' (.b l j) (.b l j) := fun l j => mv _
  have pl : ∀ p u, placeV G w tmps p = some u → placeV G' w' tmps p = placeV G w tmps p := by
    intro p u hp
    cases p with
    | s t j => rfl
    | b l j =>
      have : ∃ b, G.bl[l]? = some (some b) := by
        rcases hx : G.bl[l]? with _ | _ | b
        · simp [placeV, hx] at hp
        · simp [placeV, hx] at hp
        · exact ⟨b, rfl⟩
      obtain ⟨b, e⟩ := this
      have e' : G'.bl[l]? = some (some b) := bls l b e
      simp only [placeV, e, e']
      exact cell_of_heap (m.old b (r.bx.lt l b e)) j
  refine ⟨G', rfl, ⟨r.len, fun t h h' => (r.slot t h h').move stp (fun i j => mvs t i j) fun p hb => ?_, r.ln, ⟨hlen, fun l b ls e1 e2 => ?_, fun l e => ?_, fun l e => ?_⟩⟩, stp⟩
  · obtain ⟨u, hu⟩ := slot_place (r.slot t h h') hb
    exact pl p u hu
  · by_cases hl : l = loc
    · subst hl
      have e1' : bl'[l]? = some (some b) := e1
      rw [hloc] at e1'
      cases e1'
      rw [hbx] at e2
      cases e2
      refine ⟨grant_self _ _ _, cs, ty, m.new, hcs, fun j hj hj' => ?_⟩
      obtain ⟨h1, h2⟩ := hv j hj hj'
      refine ⟨h1, (h2.move stp (κ' := .b l j) ?_ (tmps' := tmps) fun p hb => (lbors_plain h1 p hb).elim).plain_tmps h1⟩
      have := mv (.r 0 j)
      simpa [boxK] using this
    · have e1' : bl'[l]? = some (some b) := e1
      rw [(hold l hl).1] at e1'
      rw [(hold l hl).2] at e2
      obtain ⟨h1, cs1, ty1, h2, h3, h4⟩ := r.bx.box l b ls e1' e2
      have hb := r.bx.lt l b e1'
      refine ⟨by rw [pm b hb, h1]; rfl, cs1, ty1, by rw [m.old b hb]; exact h2, h3, fun j hj hj' => ?_⟩
      obtain ⟨q, h5⟩ := h4 j hj hj'
      exact ⟨q, h5.move stp (mvb l j) fun p hb => (lbors_plain q p hb).elim⟩
  · by_cases hl : l = loc
    · subst hl
      rw [hbx] at e
      exact absurd (Option.some.inj e) hne
    · rw [(hold l hl).2] at e
      show bl'[l]? = some none
      rw [(hold l hl).1]
      exact r.bx.virt l e
  · have e : bl'[l]? = some none := e
    by_cases hl : l = loc
    · subst hl
      rw [hloc] at e
      cases e
    · rw [(hold l hl).1] at e
      rw [(hold l hl).2]
      exact r.bx.bare l e

mutual
theorem low_mono {m n : Nat} (h : m ≤ n) : ∀ d : D, d.low m = true → d.low n = true
  | .ptr loc off, e => by simp [D.low] at e ⊢; omega
  | .sl f k l, e => lowLL_mono h l (by simpa [D.low] using e)
  | .agg l, e => by simp only [D.low] at e ⊢; exact lowL_mono h l e
  | .tup l, e => by simp only [D.low] at e ⊢; exact lowL_mono h l e
  | .fn f a b, e => by
    simp only [D.low, Bool.and_eq_true] at e ⊢
    exact ⟨lowL_mono h a e.1, lowL_mono h b e.2⟩
  | .iface t v, e => by simp only [D.low] at e ⊢; exact low_mono h v e
  | .rp l, e => by simp only [D.low] at e ⊢; exact lowL_mono h l e
  | .bor (.b loc j), e => by simp [D.low] at e ⊢; omega
  | .bor (.s t j), e => by simp [D.low]
  | .ea (.b loc j) a b c, e => by simp [D.low] at e ⊢; omega
  | .ea (.s t j) a b c, e => by simp [D.low]
  | .int .., _ => by simp [D.low]
  | .bool .., _ => by simp [D.low]
  | .str .., _ => by simp [D.low]
  | .nilp, _ => by simp [D.low]
  | .nilf, _ => by simp [D.low]
  | .nili, _ => by simp [D.low]
  | .undef, _ => by simp [D.low]
  | .unk, _ => by simp [D.low]
theorem lowL_mono {m n : Nat} (h : m ≤ n) : ∀ l : List D, lowL m l = true → lowL n l = true
  | [], _ => rfl
  | d :: r, e => by
    simp only [lowL, Bool.and_eq_true] at e ⊢
    exact ⟨low_mono h d e.1, lowL_mono h r e.2⟩
theorem lowLL_mono {m n : Nat} (h : m ≤ n) : ∀ l : List (List D), lowLL m l = true → lowLL n l = true
  | [], _ => rfl
  | d :: r, e => by
    simp only [lowLL, Bool.and_eq_true] at e ⊢
    exact ⟨lowL_mono h d e.1, lowLL_mono h r e.2⟩
end

theorem box_ok (hbase : base ≤ st.bx.length) {C : CallT} {ds : List Nat} {o : Oper} {x : Operand} {ty : Nat} {d : D} {ps : List Pl} {s : St} (r : Rel G w st tmps) (ho : o.op = .box ty x) (h : opV C T base ds o st = some (d, ps, s)) : Good P base G w st tmps o d ps s := by
  unfold opV at h
  simp only [ho] at h
  split at h
  · rename_i d0 s0 ht
    split at h
    · rename_i hc
      obtain ⟨hc1, hc2⟩ := hc
      simp only [Option.some.injEq, Prod.mk.injEq] at h
      obtain ⟨rfl, rfl, rfl⟩ := h
      obtain ⟨G1, r1, q1, b1, g1, m1, c1, v1, p1⟩ := take_cells base T ty 0 r ht
      have m := more_alloc w (.cells (ev tmps x).cells ty)
      have hbl : G1.bl.length = s0.bx.length := r1.bx.len
      obtain ⟨G2, e2, r2, q2⟩ := newbox_ok r1 m s0.bx.length (G1.bl ++ [some w.heap.size]) (s0.bx ++ [d0.cells]) d0.cells c1.symm (by intro e; rw [e] at hc1; simp at hc1; omega)
        (fun j hj hj' => ⟨(p1 _ (List.getElem_mem _)).1, v1 j hj hj'⟩) (by simp [hbl]) (by rw [← hbl]; simp) (by simp)
        (fun l hl => by
          by_cases hlt : l < s0.bx.length
          · rw [List.getElem?_append_left (by omega), List.getElem?_append_left (by omega)]
            exact ⟨rfl, rfl⟩
          · have h1 : G1.bl.length + 1 ≤ l := by omega
            have a1 : (G1.bl ++ [some w.heap.size])[l]? = none := List.getElem?_eq_none (by simp; omega)
            have a2 : (s0.bx ++ [d0.cells])[l]? = none := List.getElem?_eq_none (by simp; omega)
            rw [a1, a2, List.getElem?_eq_none (by omega), List.getElem?_eq_none (by omega)]
            exact ⟨rfl, rfl⟩)
        (fun b => by rw [List.getElem?_eq_none (by omega)]; simp)
      refine ⟨⟨.pointer (some (at_ w.heap.size 0)), _, G2, ?_, ⟨r2.len, r2.slot, r2.ln, r2.bx⟩, Ro.ptr _ _ _ ?_, ⟨q1.evo.trans q2.evo, fun l b h => q2.bl l b (q1.bl l b h)⟩, fun loc b _ hb _ => m.old b (r.bx.lt loc b hb)⟩, fun p hb => hb.elim, g1.trans ?_⟩
      · simp [execOp, ho, Instr.box, newVar, newRow, at_]
      · rw [e2, ← hbl]; simp
      · refine ⟨fun _ h => h, fun loc hl hd => ?_, fun h => by simp [h], by simp, fun _ hlow hup loc hl => ?_, rfl⟩
        · have := g1.len
          simp only
          rw [List.getElem?_append_left (by omega)]
        · have := g1.len
          simp only [Bool.or_eq_false_iff, Bool.not_eq_false'] at hup
          simp only [List.length_append, List.length_singleton] at hl
          rw [List.getElem_append]
          split
          · exact hlow hup.1 loc (by assumption)
          · have e : loc = s0.bx.length := by omega
            subst e
            simp only [Nat.sub_self, List.getElem_singleton]
            exact lowL_mono (by omega) _ hup.2
    · cases h
  · cases h

/-- An empty box that was put aside is made. -/
theorem alloc_ok {o : Oper} {ty al : Nat} {x : D} {z : List D} (tk : TOk P T) (r : Rel G w st tmps) (ho : o.op = .alloc ty) (hz : (T ty).zero = some (x :: z)) (hal : st.bx[al]? = some []) (hbase : base ≤ al) :
    Good P base G w st tmps o (.ptr al 0) [] { st with bx := st.bx.set al (x :: z) } := by
  have hno : T ty ≠ .other := by intro e; rw [e] at hz; cases hz
  obtain ⟨it, zv, z', i1, i2, i3, i4, i5⟩ := tk.info ty hno
  rw [hz] at i4
  cases i4
  have m := more_alloc w (.cells zv.cells ty)
  obtain ⟨hl, _⟩ := List.getElem?_eq_some_iff.mp hal
  have hv := r.bx.virt al hal
  have hbl := r.bx.len
  obtain ⟨G2, e2, r2, q2⟩ := newbox_ok r m al (G.bl.set al (some w.heap.size)) (st.bx.set al (x :: z)) (x :: z) i5.1 (by simp)
    (fun j hj hj' => by
      obtain ⟨c1, c2, _⟩ := z_leaf (G := G) (w := w) (tmps := tmps) (κ := .r 0 j) (i5.2 j hj hj')
      exact ⟨c2, c1⟩) (by simp [hbl]) (by rw [List.getElem?_set_self (by omega)]) (by rw [List.getElem?_set_self hl])
    (fun l hl => by rw [List.getElem?_set_ne (Ne.symm hl), List.getElem?_set_ne (Ne.symm hl)]; exact ⟨rfl, rfl⟩) (fun b => by rw [hv]; simp)
  refine ⟨⟨.pointer (some (at_ w.heap.size 0)), _, G2, ?_, r2, Ro.ptr _ _ _ ?_, q2, fun loc b _ hb _ => m.old b (r.bx.lt loc b hb)⟩, fun p hb => hb.elim, ?_⟩
  · simp [execOp, ho, Instr.alloc, zeroValue, typeInfo, i1, i3, newVar, newRow, at_]
  · rw [e2, List.getElem?_set_self (by omega)]
  · refine ⟨fun _ h => h, fun loc hl hd => ?_, fun h => h, by simp, fun _ hlow hup loc hl => ?_, rfl⟩
    · simp only
      rw [List.getElem?_set_ne (by omega)]
    · simp only [List.getElem_set]
      split
      · refine low_iff.mpr fun j hj => ?_
        obtain ⟨_, _, c3, _⟩ := z_leaf (G := G) (w := w) (tmps := tmps) (κ := .r 0 j) (i5.2 j hj (by rw [i5.1]; exact hj))
        exact c3 _
      · exact hlow hup loc (by simpa using hl)

end Go.PI
