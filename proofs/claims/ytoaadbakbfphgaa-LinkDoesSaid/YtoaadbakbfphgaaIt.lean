/- Stores. -/
import Derived.Test.YtoaadbakbfphgaaIs
namespace Go.PI
open Go

variable {P : Program} {base : Nat} {G : Gh} {w w' : World} {st : St} {tmps : Array Value} {T : Nat → TI}

/-- An operation without a value. -/
structure Done (P : Program) (base : Nat) (G : Gh) (w : World) (st : St) (tmps : Array Value) (o : Oper) (st1 : St) : Prop where
  ex : ∃ w' G', (execOp (ev tmps) o).run P w = .ok .skip w' ∧ Rel G' w' st1 tmps ∧ Step G w G' w' ∧ Unt base G w w' st1.dirty
  grew : Grew base st st1

theorem store_rel (r : Rel G w st tmps) {loc off b : Nat} (hb : G.bl[loc]? = some (some b)) (xs : List D) (vs : List Value) (hl : xs.length = vs.length) (hfit : off + xs.length ≤ (st.box loc).length)
    (hv : ∀ j (h : j < xs.length) (h' : j < vs.length), xs[j].plain ∧ Leaf G w tmps (.r 0 j) xs[j] vs[j]) (hnb : ∀ t (h : t < st.tm.length) p, st.tm[t].sbors p → Pl.inBox loc off xs.length p = false) (hw : Wrote w w' b off vs) :
    Rel (G.sub (boxK loc off)) w' { st with bx := st.bx.set loc ((st.box loc).take off ++ xs ++ (st.box loc).drop (off + xs.length)) } tmps ∧ Step G w (G.sub (boxK loc off)) w' := by
  have hpb : G.pm b = .var loc := r.bx.var loc b hb
  have hll : loc < st.bx.length := by rw [← r.bx.len]; exact (List.getElem?_eq_some_iff.mp hb).1
  have hbox : st.box loc = st.bx[loc] := st_box st hll
  have oth : ∀ x, G.pm x ≠ .var loc → w'.heap[x]? = w.heap[x]? := fun x hx => hw.other x (by rintro rfl; exact hx hpb)
  have stp : Step G w (G.sub (boxK loc off)) w' := ⟨⟨hw.os, hw.tape, hw.output, by rw [hw.size]; exact Nat.le_refl _, fun x _ e => ⟨by simp [Gh.sub, e, subP], oth x (by simp [e])⟩, fun x _ _ e => ⟨by simp [Gh.sub, e, subP], oth x (by simp [e])⟩,
    fun x m κ _ e => ⟨.inl ⟨m, _, Nat.le_refl _, by simp [Gh.sub, e, subP]; rfl⟩, fun i _ => cell_of_heap (oth x (by simp [e])) i⟩, fun _ _ _ h => h⟩, fun _ _ h => h⟩
  have mv : ∀ κ, Moves G w (G.sub (boxK loc off)) w' κ (boxK loc off κ) := fun κ x _ => ⟨fun e => ⟨by simp [Gh.sub, e, subP], oth x (by simp [e])⟩, fun m e => ⟨by simp [Gh.sub, e, subP], oth x (by simp [e])⟩⟩
  have blk : ∀ (l x : Nat), G.bl[l]? = some (some x) → l ≠ loc → x ≠ b := by
    rintro l x e hne rfl
    have := r.bx.var l x e
    rw [hpb] at this
    cases this
    exact hne rfl
  have pl : ∀ p, Pl.inBox loc off xs.length p = false → placeV (G.sub (boxK loc off)) w' tmps p = placeV G w tmps p := by
    intro p hp
    cases p with
    | s t j => rfl
    | b l j =>
      show (match G.bl[l]? with | some (some b) => w'.cell? (at_ b j) | _ => none) = (match G.bl[l]? with | some (some b) => w.cell? (at_ b j) | _ => none)
      rcases e : G.bl[l]? with _ | _ | x
      · rfl
      · rfl
      · simp only
        by_cases hlx : l = loc
        · subst hlx
          rw [hb] at e
          cases e
          simp only [Pl.inBox, beq_self_eq_true, Bool.true_and, Bool.and_eq_false_iff, decide_eq_false_iff_not] at hp
          exact hw.out j (by omega)
        · exact hw.cell_other (blk l x e hlx)
  refine ⟨⟨r.len, fun t h h' => (r.slot t h h').move stp (fun i j => mv (.s t i j)) fun p hp => pl p (hnb t h p hp), r.ln, ⟨by simp only [List.length_set]; exact r.bx.len, fun l x ls e1 e2 => ?_, fun l e => ?_, fun l e => ?_⟩⟩, stp⟩
  · have e1' : G.bl[l]? = some (some x) := e1
    by_cases hlx : l = loc
    · subst hlx
      rw [hb] at e1'
      cases e1'
      rw [List.getElem?_set_self hll] at e2
      obtain rfl := (Option.some.inj e2).symm
      obtain ⟨h1, cs, ty, h2, h3, h4⟩ := r.bx.box l b _ hb (List.getElem?_eq_getElem hll)
      obtain ⟨cs', h5, h6⟩ := hw.block cs ty _ h2
      rw [← hbox] at h3
      have hlen : ((st.box l).take off ++ xs ++ (st.box l).drop (off + xs.length)).length = (st.box l).length := by simp; omega
      have hcell : ∀ j, w'.cell? (at_ b j) = cs'[j]? := fun j => by simp [World.cell?, at_, h5]
      have hcell0 : ∀ j, w.cell? (at_ b j) = cs[j]? := fun j => by simp [World.cell?, at_, h2]
      refine ⟨by simp [Gh.sub, h1, subP], cs', ty, h5, by omega, fun j hj hj' => ?_⟩
      rw [hlen] at hj
      by_cases hin : off ≤ j ∧ j < off + xs.length
      · have e : ((st.box l).take off ++ xs ++ (st.box l).drop (off + xs.length))[j] = xs[j - off]'(by omega) := by
          rw [List.getElem_append_left (by simp; omega), List.getElem_append_right (by simp; omega)]
          congr 1
          simp; omega
        have hjv : j - off < vs.length := by omega
        have ev := hw.inn (fun k hk => by rw [hcell0]; simp; omega) (j - off) hjv
        rw [hcell, show off + (j - off) = j by omega, Array.getElem?_eq_getElem hj'] at ev
        obtain ⟨q1, q2⟩ := hv (j - off) (by omega) hjv
        rw [e, Option.some.inj ev]
        refine ⟨q1, (q2.move stp (κ' := .b l j) ?_ (tmps' := tmps) fun p hp => (lbors_plain q1 p hp).elim).plain_tmps q1⟩
        have := mv (.r 0 (j - off))
        simp only [boxK] at this
        rwa [show off + (j - off) = j by omega] at this
      · have e : ((st.box l).take off ++ xs ++ (st.box l).drop (off + xs.length))[j] = st.bx[l][j]'(by rw [← hbox]; exact hj) := by
          simp only [← hbox]
          by_cases hlt : j < off
          · rw [List.getElem_append_left (by simp; omega), List.getElem_append_left (by simp; omega)]
            simp
          · rw [List.getElem_append_right (by simp; omega)]
            simp only [List.getElem_drop]
            congr 1
            simp; omega
        have hjc : j < cs.size := by omega
        have ev : cs'[j] = cs[j] := by
          have := hw.out j (by omega)
          rw [hcell, hcell0, Array.getElem?_eq_getElem hj', Array.getElem?_eq_getElem hjc] at this
          exact Option.some.inj this
        obtain ⟨q1, q2⟩ := h4 j (by rw [← hbox]; exact hj) hjc
        rw [e, ev]
        exact ⟨q1, q2.move stp (mv (.b l j)) fun p hp => (lbors_plain q1 p hp).elim⟩
    · rw [List.getElem?_set_ne (Ne.symm hlx)] at e2
      obtain ⟨h1, cs, ty, h2, h3, h4⟩ := r.bx.box l x ls e1' e2
      refine ⟨by simp [Gh.sub, h1, subP], cs, ty, by rw [hw.other x (blk l x e1' hlx)]; exact h2, h3, fun j hj hj' => ?_⟩
      obtain ⟨q1, q2⟩ := h4 j hj hj'
      exact ⟨q1, q2.move stp (mv (.b l j)) fun p hp => (lbors_plain q1 p hp).elim⟩
  · refine r.bx.virt l ?_
    by_cases hlx : l = loc
    · subst hlx
      rw [List.getElem?_set_self hll] at e
      have h0 := congrArg List.length (Option.some.inj e)
      have hlen : ((st.box l).take off ++ xs ++ (st.box l).drop (off + xs.length)).length = (st.box l).length := by simp; omega
      rw [hlen] at h0
      rw [List.getElem?_eq_getElem hll, ← hbox]
      congr 1
      exact List.length_eq_zero_iff.mp h0
    · rwa [List.getElem?_set_ne (Ne.symm hlx)] at e
  · replace e : G.bl[l]? = some none := e
    have e2 := r.bx.bare l e
    have hlx : l ≠ loc := by
      rintro rfl
      rw [hb] at e
      cases e
    rwa [List.getElem?_set_ne (Ne.symm hlx)]

theorem store_ok {o : Oper} {x y : Operand} {ty loc off : Nat} {d : D} {s s1 : St} (tk : TOk P T) (r : Rel G w st tmps) (ho : o.op = .store ty x y) (hx : st.see T 0 x = .ptr loc off) (ht : st.take base T ty y = some (d, s))
    (hc : d.cells.length = (T ty).size ∧ 0 < (T ty).size) (h : s.store base loc off d.cells = some s1) : Done P base G w st tmps o s1 := by
  obtain ⟨b, hb, hxv⟩ := see_ptr r hx
  obtain ⟨hc1, hc2⟩ := hc
  obtain ⟨G1, r1, q1, b1, g1, m1, c1, v1, p1⟩ := take_cells base T ty 0 r ht
  unfold St.store at h
  split at h
  · rename_i hfit
    simp only [Option.some.injEq] at h
    subst h
    have hb1 : G1.bl[loc]? = some (some b) := by rw [b1]; exact hb
    obtain ⟨r2, hnb⟩ := forget_ok r1 (Pl.inBox loc off d.cells.length)
    have hbx : (s.forget (Pl.inBox loc off d.cells.length)).bx = s.bx := by unfold St.forget; split <;> rfl
    have hdi : (s.forget (Pl.inBox loc off d.cells.length)).dirty = s.dirty := by unfold St.forget; split <;> rfl
    have hup : (s.forget (Pl.inBox loc off d.cells.length)).up = s.up := by unfold St.forget; split <;> rfl
    have hg := forget_grew base s (Pl.inBox loc off d.cells.length)
    obtain ⟨cs, cty, h1, h2, h3, h4⟩ := box_cells r1 hb1
    generalize hs2 : s.forget (Pl.inBox loc off d.cells.length) = s2 at *
    have hbox : s2.box loc = s.box loc := by unfold St.box; rw [hbx]
    have hvl : (ev tmps y).cells.toList.length = d.cells.length := by simp [c1]
    have hone : ∀ v ∈ (ev tmps y).cells.toList, v.oneCell' = true := by
      intro v hv
      obtain ⟨j, hj, rfl⟩ := List.mem_iff_getElem.mp hv
      have hj1 : j < d.cells.length := by omega
      have := v1 j hj1 (by simpa using hj)
      have hp := p1 _ (List.getElem_mem hj1)
      rw [Array.getElem_toList]
      exact oneCell_of_leaf this hp.1 hp.2
    have hfz : w.frozen? = w.frozen? := rfl
    have hst := run_storeCells_cells (P := P) b off (ev tmps y).cells.toList 0 w (fun j hj => by
      have := h3 (off + j)
      simp only [at_] at this
      rw [Nat.add_zero, this]
      simp; omega) (fun j hj => by simp [World.frozen?, h1]) hone
    have hw := wrote_setCells b (ev tmps y).cells.toList off w
    have hrun : (execOp (ev tmps) o).run P w = .ok .skip (w.setCells b off (ev tmps y).cells.toList) := by
      have hsz := tk.sizeOf (other_of_size hc2) w
      simp only [execOp, ho, hxv, Instr.storeAt, Instr.sureAddr, Sem.run_bind, Sem.run_pure, Result.andThen_ok, storeVar, hsz]
      rw [if_neg (by omega)]
      rw [Nat.add_zero] at hst
      simp only [at_, hst, Result.andThen_ok]
    obtain ⟨r3, q3⟩ := store_rel r2 hb1 d.cells (ev tmps y).cells.toList (by omega) (by rw [hbox]; exact hfit) (fun j hj hj' => ⟨(p1 _ (List.getElem_mem hj)).1, by rw [Array.getElem_toList]; exact v1 j hj (by simpa using hj')⟩) hnb hw
    rw [hbox, hbx] at r3
    refine ⟨⟨_, _, hrun, ⟨r3.len, r3.slot, r3.ln, by rw [hbx, hbox]; exact r3.bx⟩, ⟨q1.evo.trans q3.evo, fun l b h => q3.bl l b (q1.bl l b h)⟩, fun l x hl e hd => ?_⟩, g1.trans (hg.trans ?_)⟩
    · have hne : l ≠ loc := by
        rintro rfl
        rw [if_pos hl] at hd
        exact hd (by simp)
      refine hw.other x ?_
      rintro rfl
      have a1 := r1.bx.var l x (by rw [b1]; exact e)
      have a2 := r1.bx.var loc x hb1
      rw [a1] at a2
      cases a2
      exact hne rfl
    · have hll : loc < s2.bx.length := by rw [hbx, ← r1.bx.len]; exact (List.getElem?_eq_some_iff.mp hb1).1
      have hbx2 : s2.box loc = s2.bx[loc] := st_box s2 hll
      refine ⟨fun x hx => ?_, fun l hl hd => ?_, fun hu => by simp [hu], by simp, fun _ hlow hu l hl => ?_, rfl⟩
      · simp only
        split
        · exact List.mem_cons_of_mem _ hx
        · exact hx
      · have hne : loc ≠ l := by
          rintro rfl
          rw [if_pos hl] at hd
          exact hd (by simp)
        simp only
        rw [List.getElem?_set_ne hne]
      · simp only [Bool.or_eq_false_iff, Bool.not_eq_false'] at hu
        have hl2 : l < s2.bx.length := by simpa using hl
        simp only [List.getElem_set]
        split
        · rename_i e
          subst e
          have h0 := hlow hu.1 loc hl2
          rw [← hbx2] at h0
          refine low_iff.mpr fun j hj => ?_
          have hmem := List.getElem_mem hj
          simp only [List.mem_append] at hmem
          rcases hmem with (hm | hm) | hm
          · obtain ⟨k, hk, e⟩ := List.mem_iff_getElem.mp (List.mem_of_mem_take hm)
            rw [← e]; exact low_get h0 hk
          · obtain ⟨k, hk, e⟩ := List.mem_iff_getElem.mp hm
            rw [← e]; exact low_mono (Nat.le_max_right _ _) _ (low_get hu.2 hk)
          · obtain ⟨k, hk, e⟩ := List.mem_iff_getElem.mp (List.mem_of_mem_drop hm)
            rw [← e]; exact low_get h0 hk
        · exact hlow hu.1 l hl2
  · cases h

theorem splice_in (el xs : List D) (off k j : Nat) (h : off + k ≤ el.length) (hk : xs.length = k) (h1 : off ≤ j) (h2 : j < off + k) (hj : j < (el.take off ++ xs ++ el.drop (off + k)).length) : (el.take off ++ xs ++ el.drop (off + k))[j] = xs[j - off]'(by omega) := by
  rw [List.getElem_append_left (by simp; omega), List.getElem_append_right (by simp; omega)]
  congr 1
  simp; omega

theorem splice_out (el xs : List D) (off k j : Nat) (h : off + k ≤ el.length) (hk : xs.length = k) (h1 : ¬ (off ≤ j ∧ j < off + k)) (hj' : j < el.length) (hj : j < (el.take off ++ xs ++ el.drop (off + k)).length) : (el.take off ++ xs ++ el.drop (off + k))[j] = el[j] := by
  by_cases hlt : j < off
  · rw [List.getElem_append_left (by simp; omega), List.getElem_append_left (by simp; omega)]
    simp
  · rw [List.getElem_append_right (by simp; omega)]
    simp only [List.getElem_drop]
    congr 1
    simp; omega

theorem lowLL_iff {n : Nat} {l : List (List D)} : lowLL n l = true ↔ ∀ x ∈ l, lowL n x = true := by
  induction l with
  | nil => simp [lowLL]
  | cons a l ih => simp [lowLL, ih]

theorem lowLL_set {n : Nat} {l : List (List D)} {i : Nat} {x : List D} (h : lowLL n l = true) (hx : lowL n x = true) : lowLL n (l.set i x) = true := by
  refine lowLL_iff.mpr fun y hy => ?_
  rcases List.mem_or_eq_of_mem_set hy with hy | rfl
  · exact lowLL_iff.mp h y hy
  · exact hx

theorem grew_put_up (base : Nat) {st : St} {p : Pl} {x : D} {f n : Nat} {l : List (List D)} {u : Bool} (h : st.at p = .sl f n l) (hx : u = false → ∀ k, (D.sl f n l).low k = true → x.low k = true) : Grew base st { st.put base p x with up := st.up || u } := by
  cases p with
  | s t j => exact ⟨fun _ h => h, fun _ _ _ => rfl, fun h => by simp [h], Nat.le_refl _, fun _ h hu => h (by simp only [Bool.or_eq_false_iff] at hu; exact hu.1), by simp [St.put]⟩
  | b loc j =>
    obtain ⟨hl, hj, e⟩ := at_box h
    refine ⟨fun y hy => ?_, fun m hm hd => ?_, fun h => by simp [h], by simp [St.put], fun _ hi hu m hm => ?_, rfl⟩
    · simp only [St.put]; split
      · exact List.mem_cons_of_mem _ hy
      · exact hy
    · simp only [St.put] at hd ⊢
      by_cases e' : loc = m
      · subst e'; rw [if_pos hm] at hd; exact absurd (List.mem_cons_self) hd
      · rw [List.getElem?_set_ne e']
    · simp only [Bool.or_eq_false_iff] at hu
      have hm2 : m < st.bx.length := by simpa [St.put] using hm
      have := hi hu.1 m hm2
      simp only [St.put, St.box, getD_lt hl, List.getElem_set]
      split
      · rename_i e'
        subst e'
        exact low_set this (hx hu.2 _ (by rw [← e]; exact low_get this hj))
      · exact this

/-- A part of an element of a slice of one's own. -/
theorem eastore_ok {o : Oper} {x y : Operand} {ty : Nat} {p : Pl} {n i off : Nat} {d : D} {s : St} {l : List (List D)} (tk : TOk P T) (r : Rel G w st tmps) (ho : o.op = .store ty x y) (hx : st.see T 0 x = .ea p n i off) (ht : st.use base T ty y = some (d, s))
    (hp : s.at p = .sl 2 n l) (hc : d.cells.length = (T ty).size ∧ 0 < (T ty).size ∧ off + (T ty).size ≤ n ∧ i < l.length) :
    Done P base G w st tmps o { s.put base p (.sl 2 n (l.set i ((l.getD i []).take off ++ d.cells ++ (l.getD i []).drop (off + (T ty).size)))) with up := s.up || !lowL 0 d.cells } := by
  obtain ⟨b, o', len, cap, hpl, hxv⟩ := see_ea r hx
  obtain ⟨c1, c2, c3, c4⟩ := hc
  obtain ⟨G1, r1, q1, b1, g1, ro, fl⟩ := use_ok base T ty r ht
  obtain ⟨d1, d2⟩ := ro_cells ro fl
  have hpl1 : placeV G1 w tmps p = some (.slice (some (at_ b o')) len cap) := by rw [placeV_bl b1]; exact hpl
  have hown := r1.at hp hpl1
  have hne : l ≠ [] := by rintro rfl; simp at c4
  obtain ⟨hrow, hlc, hpm, hwh⟩ : Row G1 w n l b o' ∧ l.length ≤ cap ∧ G1.pm b = .ex p.key ∧ Whole w b (o' + cap * n) ∧ len = l.length := by
    rcases hown with ⟨e, _⟩ | ⟨e, _⟩ | ⟨b2, o2, cap2, e, k1, k2, k3, k4⟩
    · exact absurd e hne
    · exact absurd e hne
    · simp only [Value.slice.injEq, Option.some.injEq, at_, Addr.mk.injEq] at e
      obtain ⟨⟨rfl, rfl, _⟩, rfl, rfl⟩ := e
      exact ⟨k1, k2, k3, k4, rfl⟩
  obtain ⟨hwh, rfl⟩ := hwh
  obtain ⟨cs, cty, fz, hw1, hw2, hw3⟩ := hwh
  have hil : i * n + n ≤ l.length * n := by
    have : (i + 1) * n ≤ l.length * n := Nat.mul_le_mul_right n c4
    rw [Nat.add_mul, Nat.one_mul] at this
    exact this
  have hcn : l.length * n ≤ cap * n := Nat.mul_le_mul_right n hlc
  have hvl : (ev tmps y).cells.toList.length = d.cells.length := by simp [d1]
  have hcell : ∀ k, w.cell? (at_ b k) = cs[k]? := fun k => by simp [World.cell?, at_, hw1]
  have hone : ∀ v ∈ (ev tmps y).cells.toList, v.oneCell' = true := by
    intro v hv
    obtain ⟨j, hj, rfl⟩ := List.mem_iff_getElem.mp hv
    have := d2 j (by omega) (by simpa using hj)
    rw [Array.getElem_toList]
    exact oneCell_of_ro this.1 this.2
  have hin : ∀ j, j < (ev tmps y).cells.toList.length → (w.cell? (at_ b (o' + i * n + off + j))).isSome = true := fun j hj => by
    rw [hcell]; simp; omega
  have hst := run_storeCells_cells (P := P) b (o' + i * n + off) (ev tmps y).cells.toList 0 w (fun j hj => by simpa [at_] using hin j hj) (fun j hj => by simpa [at_] using hw3 (o' + i * n + off + j) (by omega)) hone
  have hwr := wrote_setCells b (ev tmps y).cells.toList (o' + i * n + off) w
  have hrun : (execOp (ev tmps) o).run P w = .ok .skip (w.setCells b (o' + i * n + off) (ev tmps y).cells.toList) := by
    have hsz := tk.sizeOf (other_of_size c2) w
    simp only [execOp, ho, hxv, Instr.storeAt, Instr.sureAddr, Sem.run_bind, Sem.run_pure, Result.andThen_ok, storeVar, hsz]
    rw [if_neg (by omega)]
    rw [Nat.add_zero] at hst
    simp only [at_, hst, Result.andThen_ok]
  generalize w.setCells b (o' + i * n + off) (ev tmps y).cells.toList = w' at hrun hwr
  have hs := hwr.step (.ex p.key) (.inl ⟨_, hpm⟩)
  have hv : ∀ (loc x : Nat), G1.bl[loc]? = some (some x) → (G1.grant b (.ex p.key)).pm x = G1.pm x ∧ w'.heap[x]? = w.heap[x]? := fun loc x e => by
    have hx : x ≠ b := by
      rintro rfl
      have := r1.bx.var loc x e
      rw [hpm] at this; cases this
    exact ⟨grant_ne G1 _ hx, hwr.other x hx⟩
  have hel : l.getD i [] = l[i] := getD_lt c4
  have hnew : ((l.getD i []).take off ++ d.cells ++ (l.getD i []).drop (off + (T ty).size)).length = n := by
    have := (hrow.hn _ (List.getElem_mem c4)).1
    rw [hel]; simp; omega
  have hrow' : Row (G1.grant b (.ex p.key)) w' n (l.set i ((l.getD i []).take off ++ d.cells ++ (l.getD i []).drop (off + (T ty).size))) b o' := by
    obtain ⟨hn, vs, hc1, hc2⟩ := hrow
    refine ⟨fun z hz => ?_, fun i' j' => if i' = i ∧ off ≤ j' ∧ j' < off + (T ty).size then (ev tmps y).cells.getD (j' - off) undef else vs i' j', fun i' j' hi' hj' => ?_, fun i' j' hi' hj' => ?_⟩
    · rcases List.mem_or_eq_of_mem_set hz with hz | rfl
      · exact hn z hz
      · refine ⟨hnew, fun e he => ?_⟩
        simp only [List.mem_append] at he
        rcases he with (he | he) | he
        · rw [hel] at he; exact (hn _ (List.getElem_mem c4)).2 e (List.mem_of_mem_take he)
        · obtain ⟨k, hk, rfl⟩ := List.mem_iff_getElem.mp he
          exact (d2 k hk (by omega)).2
        · rw [hel] at he; exact (hn _ (List.getElem_mem c4)).2 e (List.mem_of_mem_drop he)
    · simp only [List.length_set] at hi'
      dsimp only
      split
      · rename_i hc
        obtain ⟨rfl, h1, h2⟩ := hc
        have hj : j' - off < (ev tmps y).cells.toList.length := by omega
        have := hwr.inn hin (j' - off) hj
        rw [show o' + i' * n + off + (j' - off) = o' + i' * n + j' by omega] at this
        rw [this]
        have hj2 : j' - off < (ev tmps y).cells.size := by simpa using hj
        simp [Array.getD, hj2]
      · rename_i hc
        rw [hwr.out, hc1 i' j' hi' hj']
        by_cases he : i' = i
        · subst he; omega
        · rcases Nat.lt_or_gt_of_ne he with he | he
          · have : (i' + 1) * n ≤ i * n := Nat.mul_le_mul_right n he
            rw [Nat.add_mul, Nat.one_mul] at this
            omega
          · have : (i + 1) * n ≤ i' * n := Nat.mul_le_mul_right n he
            rw [Nat.add_mul, Nat.one_mul] at this
            omega
    · simp only [List.length_set] at hi'
      dsimp only
      by_cases he : i' = i
      · subst he
        simp only [List.getElem_set_self] at hj' ⊢
        rw [hnew] at hj'
        by_cases hin : off ≤ j' ∧ j' < off + (T ty).size
        · rw [if_pos ⟨trivial, hin⟩]
          have hll : (l.getD i' []).length = n := by rw [hel]; exact (hn _ (List.getElem_mem c4)).1
          have e := splice_in (l.getD i' []) d.cells off (T ty).size j' (by omega) c1 hin.1 hin.2 (by rw [hnew]; exact hj')
          have hj2 : j' - off < (ev tmps y).cells.size := by omega
          rw [e]
          have := (d2 (j' - off) (by omega) hj2).1.evo hs.evo hs.bl
          simpa [Array.getD, hj2] using this
        · rw [if_neg (by simp; omega)]
          have hll : (l.getD i' []).length = n := by rw [hel]; exact (hn _ (List.getElem_mem c4)).1
          have e := splice_out (l.getD i' []) d.cells off (T ty).size j' (by omega) c1 hin (by omega) (by rw [hnew]; exact hj')
          have e2 : (l.getD i' [])[j']'(by omega) = l[i'][j']'(by rw [← hel]; omega) := by simp only [hel]
          rw [e2] at e
          rw [e]
          exact (hc2 i' j' c4 (by rw [← hel]; omega)).evo hs.evo hs.bl
      · rw [if_neg (by simp [he])]
        have e : (l.set i ((l.getD i []).take off ++ d.cells ++ (l.getD i []).drop (off + (T ty).size)))[i']'(by simpa using hi') = l[i'] := List.getElem_set_ne (Ne.symm he) _
        simp only [e] at hj' ⊢
        exact (hc2 i' j' hi' hj').evo hs.evo hs.bl
  have r3 := r1.put base hp hs rfl hv (fun κ hκ => hwr.moves _ (.inl hpm) hκ) (x := .sl 2 n (l.set i ((l.getD i []).take off ++ d.cells ++ (l.getD i []).drop (off + (T ty).size)))) (fun v hvp => by
    rw [hpl1] at hvp
    cases hvp
    exact .inr (.inr ⟨b, o', cap, by simp, hrow', by simpa using hlc, grant_self _ _ _, hwr.whole ⟨cs, cty, fz, hw1, hw2, hw3⟩⟩)) trivial (by simp) (by simp)
  refine ⟨⟨w', _, hrun, ⟨r3.len, r3.slot, r3.ln, r3.bx⟩, ⟨q1.evo.trans hs.evo, fun l b h => hs.bl l b (q1.bl l b h)⟩, fun loc x _ e _ => (hv loc x (by rw [b1]; exact e)).2⟩, g1.trans (grew_put_up base hp fun hu k hk => ?_)⟩
  simp only [Bool.not_eq_false'] at hu
  simp only [D.low] at hk ⊢
  refine lowLL_set hk ?_
  refine low_iff.mpr fun j hj => ?_
  have hel0 := (lowLL_iff.mp hk) _ (List.getElem_mem c4)
  rw [← hel] at hel0
  have hmem := List.getElem_mem hj
  simp only [List.mem_append] at hmem
  rcases hmem with (hm | hm) | hm
  · obtain ⟨k, hk, e⟩ := List.mem_iff_getElem.mp (List.mem_of_mem_take hm)
    rw [← e]; exact low_get hel0 hk
  · obtain ⟨k, hk, e⟩ := List.mem_iff_getElem.mp hm
    rw [← e]; exact low_mono (Nat.zero_le _) _ (low_get hu hk)
  · obtain ⟨k, hk, e⟩ := List.mem_iff_getElem.mp (List.mem_of_mem_drop hm)
    rw [← e]; exact low_get hel0 hk

end Go.PI
