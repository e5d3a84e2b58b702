/- Whole functions. -/
import Derived.Test.YtoaadbakbfphgaaIy
namespace Go.PI
open Go

variable {P : Program} {base : Nat} {G : Gh} {w w' : World} {st : St} {tmps : Array Value} {T : Nat → TI} {C : CallT}

theorem res_cell (tk : TOk P T) {loc off ty : Nat} {b : Nat} {d : D} {s : St} (i0 : Nat) (r : Rel G w st tmps) (hb : G.bl[loc]? = some (some b)) (hfit : off + (T ty).size ≤ (st.box loc).length) (hn : 0 < (T ty).size)
    (h : takeD base st none (mkD (T ty).agg (borLeaves (Pl.b loc) off (((st.box loc).drop off).take (T ty).size)).1) = some (d, s)) :
    ∃ v G', (loadVar ty (at_ b off)).run P w = .ok v w ∧ Rel G' w s tmps ∧ Step G w G' w ∧ G'.bl = G.bl ∧ Grew base st s ∧ (∀ i j, Moves G w G' w (.r i j) (.r i j)) ∧ Val G' w tmps (fun j => .r i0 j) d v ∧ (∀ p, ¬ d.sbors p) ∧ (∀ l, d ≠ .tup l) := by
  obtain ⟨cs, cty, h1, h2, h3, h4⟩ := box_cells r hb
  have hrun := run_loadVar tk (other_of_size hn) w b off (fun j => cs.getD (off + j) undef) (fun j hj => by
    have hj' : off + j < cs.size := by omega
    rw [h3]
    simp [Array.getD, hj'])
  have hlen : (borLeaves (Pl.b loc) off (((st.box loc).drop off).take (T ty).size)).1.length = (T ty).size := by
    rw [borLeaves_length]; simp; omega
  have hopd : ∀ j (hj : j < (borLeaves (Pl.b loc) off (((st.box loc).drop off).take (T ty).size)).1.length), Opd G w tmps none (borLeaves (Pl.b loc) off (((st.box loc).drop off).take (T ty).size)).1[j] (cs.getD (off + j) undef) := by
    intro j hj
    obtain ⟨g1, _⟩ := borLeaves_get (Pl.b loc) (((st.box loc).drop off).take (T ty).size) off j hj
    rw [g1]
    have hj2 : off + j < (st.box loc).length := by omega
    have hj3 : off + j < cs.size := by omega
    obtain ⟨k1, k2, k3⟩ := h4 (off + j) hj2 hj3
    have e1 : (((st.box loc).drop off).take (T ty).size)[j]'(by rw [borLeaves_length] at hj; exact hj) = (st.box loc)[off + j] := by simp
    have e2 : cs.getD (off + j) undef = cs[off + j] := by simp [Array.getD, hj3]
    rw [e1, e2]
    generalize (st.box loc)[off + j] = x at k1 k2
    obtain ⟨l1, l2⟩ := borLeaf_ok (p := .b loc (off + j)) (κ' := .r 0 0) k2 (fun _ => k3)
    refine ⟨fun _ => l1, by simp, fun _ f n l e => ?_⟩
    cases x with
    | sl f' n' l' =>
      match f', e, k2 with
      | 0, e, k2 => cases e; exact .inr ⟨rfl, k2⟩
    | bor q => exact k1.elim
    | ea p n i off => exact k1.elim
    | rp l => exact k1.elim
    | _ => cases e
  have hvl : ((List.range (T ty).size).map fun j => cs.getD (off + j) undef).length = (borLeaves (Pl.b loc) off (((st.box loc).drop off).take (T ty).size)).1.length := by rw [hlen]; simp
  generalize (borLeaves (Pl.b loc) off (((st.box loc).drop off).take (T ty).size)).1 = xs at *
  cases hag : (T ty).agg with
  | true =>
    rw [hag] at h hrun
    simp only [mkD, if_true, takeD, Option.map_eq_some_iff] at h hrun
    obtain ⟨⟨l', s'⟩, h5, h6⟩ := h
    simp only [Prod.mk.injEq] at h6
    obtain ⟨rfl, rfl⟩ := h6
    obtain ⟨G', r', q', b', g', m', hl', v'⟩ := leavesTake_ok base (fun j => j) i0 xs (p := fun _ => none) (us := (List.range (T ty).size).map fun j => cs.getD (off + j) undef) r hvl (fun i hi hi' => by simpa using hopd i hi) h5
    refine ⟨_, G', hrun, r', q', b', g', m', ⟨_, rfl, by simp [hl', hlen], fun j hj hj' => ?_⟩, ?_, by simp⟩
    · have := (v' j hj (by simpa using hj')).1
      simpa using this
    · rintro p ⟨e, he, hb⟩
      obtain ⟨j, hj, rfl⟩ := List.mem_iff_getElem.mp he
      exact lbors_plain (v' j hj (by simp; omega)).2.1 p hb
  | false =>
    rw [hag] at h hrun
    have h1s : (T ty).size = 1 := size_one hag (other_of_size hn)
    have hx0 : 0 < xs.length := by omega
    simp only [mkD, Bool.false_eq_true, if_false, getD_lt hx0] at h hrun
    have o := hopd 0 hx0
    have ha : ∀ l, xs[0] ≠ .agg l := by
      intro l e
      have := o.leaf (by rw [e]; simp)
      rw [e] at this
      exact this
    have e : takeD base st none xs[0] = leafTake base st none xs[0] := by
      generalize xs[0] = d0 at ha
      cases d0 <;> first | rfl | exact absurd rfl (ha _)
    rw [e] at h
    obtain ⟨G', a1, a2, a3, a4, a5, a6, a7, a8⟩ := leafTake_ok base r o (.r i0 0) h
    have ha' : ∀ l, d ≠ .agg l := by rintro l rfl; exact a6.elim
    have ht' : ∀ l, d ≠ .tup l := by rintro l rfl; exact a6.elim
    exact ⟨_, G', hrun, a1, a2, a3, a4, a5, (val_of ha').mpr a6, fun p hb => lbors_plain a7 p ((bors_of ha').mp ((sbors_of ht').mp hb)), ht'⟩

def resV (tmps : Array Value) : ResultVar → Sem Value
  | .tmp t => pure (tmps.getD t undef)
  | .cell a t => do loadVar t (← asAddr (tmps.getD a undef))

theorem res_ok (tk : TOk P T) (rs : List ResultVar) : ∀ {G : Gh} {st s : St} {l : List D} (i0 : Nat), Rel G w st tmps → resF T base st rs = some (l, s) →
    ∃ vs G', (rs.mapM (resV tmps)).run P w = .ok vs w ∧ Rel G' w s tmps ∧ Step G w G' w ∧ Grew base st s ∧ (∀ i j, Moves G w G' w (.r i j) (.r i j)) ∧ vs.length = l.length ∧
      ∀ i (h : i < l.length) (h' : i < vs.length), Val G' w tmps (fun j => .r (i0 + i) j) l[i] vs[i] ∧ (∀ p, ¬ l[i].sbors p) ∧ ∀ q, l[i] ≠ .tup q := by
  induction rs with
  | nil =>
    intro G st s l i0 r h
    simp only [resF, Option.some.injEq, Prod.mk.injEq] at h
    obtain ⟨rfl, rfl⟩ := h
    exact ⟨[], G, rfl, r, step_refl _ _, .refl _ _, fun _ _ => .refl_of _, rfl, fun i h => by simp at h⟩
  | cons x rs ih =>
    intro G st s l i0 r h
    have fin : ∀ {d : D} {s1 : St} {v : Value} {G1 : Gh}, (resV tmps x).run P w = .ok v w → Rel G1 w s1 tmps → Step G w G1 w → Grew base st s1 → (∀ i j, Moves G w G1 w (.r i j) (.r i j)) → Val G1 w tmps (fun j => .r i0 j) d v → (∀ p, ¬ d.sbors p) → (∀ l, d ≠ .tup l) →
        (resF T base s1 rs).map (fun (l, s) => (d :: l, s)) = some (l, s) → ∃ vs G', ((x :: rs).mapM (resV tmps)).run P w = .ok vs w ∧ Rel G' w s tmps ∧ Step G w G' w ∧ Grew base st s ∧ (∀ i j, Moves G w G' w (.r i j) (.r i j)) ∧ vs.length = l.length ∧
      ∀ i (h : i < l.length) (h' : i < vs.length), Val G' w tmps (fun j => .r (i0 + i) j) l[i] vs[i] ∧ (∀ p, ¬ l[i].sbors p) ∧ ∀ q, l[i] ≠ .tup q := by
      intro d s1 v G1 hv r1 q1 g1 m1 v1 nb nt h
      simp only [Option.map_eq_some_iff, Prod.mk.injEq] at h
      obtain ⟨⟨l1, s2⟩, h2, rfl, rfl⟩ := h
      obtain ⟨vs, G2, k1, k2, k3, k4, k5, k6, k7⟩ := ih (i0 + 1) r1 h2
      refine ⟨v :: vs, G2, ?_, k2, step_trans q1 k3, g1.trans k4, fun i j b hb => ?_, by simp [k6], fun i hi hi' => ?_⟩
      · simp only [List.mapM_cons, Sem.run_bind, hv, Result.andThen_ok, k1, Sem.run_pure]
      · have a := m1 i j b hb
        have c := k5 i j b hb
        exact ⟨fun e => c.1 (a.1 e).1, fun m e => (c.2 m (a.2 m e).1)⟩
      · cases i with
        | zero => exact ⟨v1.move k3 (fun j => k5 _ _) fun p hp => absurd ((sbors_of nt).mpr hp) (nb p), nb, nt⟩
        | succ i =>
          have := k7 i (by simpa using hi) (by simpa using hi')
          rw [show i0 + (i + 1) = i0 + 1 + i by omega]
          exact this
    cases x with
    | tmp t =>
      simp only [resF] at h
      split at h
      · rename_i d s1 h1
        obtain ⟨G1, r1, q1, b1, g1, m1, v1, nb, nt⟩ := take_ok base T 0 i0 r h1
        exact fin (v := tmps.getD t undef) rfl r1 q1 g1 m1 v1 nb nt h
      · cases h
    | cell a ty =>
      simp only [resF] at h
      split at h
      · rename_i loc off ha
        split at h
        · rename_i hc
          split at h
          · rename_i d s1 h1
            have hs : st.see T 0 (.tmp a) = .ptr loc off := by unfold St.see; simp only [St.raw, ha]
            obtain ⟨b, hb, hx⟩ := see_ptr r hs
            obtain ⟨v, G1, hv, r1, q1, b1, g1, m1, v1, nb, nt⟩ := res_cell (base := base) tk i0 r hb hc.1 hc.2 h1
            refine fin (v := v) ?_ r1 q1 g1 m1 v1 nb nt h
            have hx' : tmps.getD a undef = .pointer (some (at_ b off)) := hx
            simp only [resV, hx', asAddr, Sem.run_bind, Sem.run_pure, Result.andThen_ok, hv]
          · cases h
        · cases h
      · cases h

theorem low_of {κ : Key} {d : D} {v : Value} (h : Leaf G w tmps κ d v) (hp : d.plain) : d.low G.bl.length = true := by
  have ro : ∀ {d : D} {v : Value}, Ro G w d v → d.low G.bl.length = true := by
    intro d v h
    induction h with
    | ptr loc off b e => simp [D.low, (List.getElem?_eq_some_iff.mp e).1]
    | fn f a c va vc ha hc h1 h2 hf i1 i2 =>
      simp only [D.low, Bool.and_eq_true]
      exact ⟨low_iff.mpr fun j hj => i1 j hj (by omega), low_iff.mpr fun j hj => i2 j hj (by omega)⟩
    | iface t d v hv ih => simpa only [D.low] using ih
    | agg l vs hs hv ih => simp only [D.low]; exact low_iff.mpr fun j hj => ih j hj (by omega)
    | sl m l b o cap vs hcap hn hc hv ih =>
        simp only [D.low]
        refine lowLL_iff.mpr fun x hx => ?_
        obtain ⟨i, hi, rfl⟩ := List.mem_iff_getElem.mp hx
        exact low_iff.mpr fun j hj => ih i j hi hj
    | nils n => rfl
    | nila n a cap => rfl
    | _ => rfl
  have row : ∀ {n : Nat} {l : List (List D)} {b o : Nat}, Row G w n l b o → lowLL G.bl.length l = true := by
    rintro n l b o ⟨hn, vs, hc, hv⟩
    exact lowLL_iff.mpr fun x hx => by
      obtain ⟨i, hi, rfl⟩ := List.mem_iff_getElem.mp hx
      exact low_iff.mpr fun j hj => ro (hv i j hi hj)
  cases d with
  | sl f m l =>
    simp only [D.low]
    match f, h with
    | 0, h => simpa only [D.low] using ro h
    | 1, h =>
      rcases h with ⟨rfl, _⟩ | ⟨b, o, cap, rfl, r, hf, hc⟩
      · rfl
      · exact row r
    | 2, h =>
      rcases h with ⟨rfl, _⟩ | ⟨rfl, _⟩ | ⟨b, o, cap, rfl, r, hc⟩
      · rfl
      · rfl
      · exact row r
    | _ + 3, h => exact h.elim
  | bor p => exact hp.elim
  | ea p k i off => exact hp.elim
  | rp l => exact hp.elim
  | undef => rfl
  | agg l => exact h.elim
  | tup l => exact h.elim
  | _ => exact ro h

theorem boxes_low {bx : List (List D)} (r : Boxes G w bx) : ∀ loc (h : loc < bx.length), lowL bx.length bx[loc] = true := by
  intro loc hl
  have hb : loc < G.bl.length := by rw [r.len]; exact hl
  rcases e : G.bl[loc]? with _ | _ | b
  · rw [List.getElem?_eq_getElem hb] at e; cases e
  · have := r.bare loc e
    rw [List.getElem?_eq_getElem hl] at this
    rw [Option.some.inj this]
    rfl
  · obtain ⟨_, cs, ty, _, h3, h4⟩ := r.box loc b _ e (List.getElem?_eq_getElem hl)
    refine low_iff.mpr fun j hj => ?_
    obtain ⟨q, h5⟩ := h4 j hj (by omega)
    rw [← r.len]
    exact low_of h5 q

theorem keeps_refl (G : Gh) (w : World) : Keeps G w G w := ⟨fun _ _ _ h k => ⟨h, k⟩, fun _ _ h => h⟩

theorem results_run {fn : Func} {vs : List Value} (h : (fn.results.toList.mapM (resV tmps)).run P w = .ok vs w) :
    (results fn tmps).run P w = .ok (if h : vs.toArray.size = 1 then vs.toArray[0] else .tuple vs.toArray) w := by
  have e : (fn.results.mapM (resV tmps)).run P w = .ok vs.toArray w := by
    rw [Array.mapM_eq_mapM_toList]
    simp only [map_eq_pure_bind, Sem.run_bind, h, Result.andThen_ok, Sem.run_pure]
  have e2 : results fn tmps = (do let vs ← fn.results.mapM (resV tmps); pure (if h : vs.size = 1 then vs[0] else .tuple vs)) := rfl
  rw [e2]
  simp only [Sem.run_bind, e, Result.andThen_ok, Sem.run_pure]

theorem bodyF_ok (tk : TOk P T) (hm : P.follows .mixedOrders = true) (pol : Pol) (k : Nat) (ih : CallOk P C) : CallOk P (bodyF P T pol C k) := by
    intro f ds bx rv bx' dirty up h
    simp only [bodyF] at h
    split at h
    · cases h
    rename_i fn hfn
    split at h
    · cases h
    rename_i c hbody
    split at h
    · cases h
    rename_i hname
    split at h
    · cases h
    rename_i hopen
    refine ⟨⟨fn, c, hfn, hbody, hname⟩, fun G w vs hbx hsz hro => ?_⟩
    split at h
    case h_2 => cases h
    rename_i e st hcode
    split at h
    case isFalse => cases h
    rename_i hexit
    split at h
    case h_2 => cases h
    rename_i l st2 hres
    have r0 : Rel G w { tm := ds ++ List.replicate (fn.ntmps - ds.length) .undef, bx, ln := [], dirty := [], up := false } (vs ++ Array.replicate (fn.ntmps - vs.size) undef) := by
      have slot : ∀ t (h : t < (ds ++ List.replicate (fn.ntmps - ds.length) D.undef).length) (h' : t < (vs ++ Array.replicate (fn.ntmps - vs.size) undef).size),
          (∀ p, ¬ (ds ++ List.replicate (fn.ntmps - ds.length) D.undef)[t].sbors p) ∧ Slot G w (vs ++ Array.replicate (fn.ntmps - vs.size) undef) (fun i j => .s t i j) (ds ++ List.replicate (fn.ntmps - ds.length) D.undef)[t] (vs ++ Array.replicate (fn.ntmps - vs.size) undef)[t] := by
        intro t h h'
        by_cases hl : t < ds.length
        · rw [List.getElem_append_left hl, Array.getElem_append_left (by omega)]
          obtain ⟨ro, fl⟩ := hro t hl (by omega)
          exact ⟨(ro_nobors ro).1, (slot_of (ro_nobors ro).2).mpr (ro_val ro fl)⟩
        · rw [List.getElem_append_right (by omega)]
          simp only [List.getElem_replicate]
          exact ⟨fun p hb => hb, trivial⟩
      exact ⟨by simp; omega, fun t h h' => (slot t h h').2, fun t h p hb => absurd hb ((slot t h (by simp at h ⊢; omega)).1 p), hbx⟩
    have hlow0 : LowInv bx.length { tm := ds ++ List.replicate (fn.ntmps - ds.length) .undef, bx, ln := [], dirty := [], up := false } := fun _ loc hl => lowL_mono (Nat.le_max_left _ _) _ (boxes_low hbx loc hl)
    refine calls_of_wp hfn hbody ?_
    refine code_ok tk ih hm pol f k c (by simpa using hopen) r0 rfl (Nat.le_refl _) hlow0 hcode _ fun x hx tmps1 w1 G1 r1 ln1 f1 l1 => ?_
    obtain rfl := outs_one (by rintro t rfl; cases hexit) hx
    obtain ⟨us, G2, e2, r2, q2, g2, m2, hl2, v2⟩ := res_ok (P := P) (base := bx.length) tk fn.results.toList 0 r1 hres
    have hslot : Slot G2 w1 #[] (fun i j => .r i j) (tupD l) (if h : us.toArray.size = 1 then us.toArray[0] else .tuple us.toArray) ∧ ∀ p, ¬ (tupD l).sbors p := by
      match l, us, hl2, v2 with
      | [d], [u], _, v2 =>
        obtain ⟨a, b, c⟩ := v2 0 (by simp) (by simp)
        simp only [List.getElem_cons_zero] at a b c
        have hs : Slot G2 w1 tmps1 (fun i j => .r i j) d u := (slot_of c).mpr a
        exact ⟨hs.moveK (keeps_refl _ _) (fun i j => .refl_of _) fun p hp => absurd hp (b p), b⟩
      | [], [], _, v2 => exact ⟨⟨fun p hb => by obtain ⟨e, he, _⟩ := hb; simp at he, #[], rfl, rfl, fun i h => by simp at h⟩, fun p hb => by obtain ⟨e, he, _⟩ := hb; simp at he⟩
      | a :: b :: l, x :: y :: us, hl2, v2 =>
        have nb : ∀ p, ¬ (D.tup (a :: b :: l)).sbors p := by
          rintro p ⟨e, he, hb⟩
          obtain ⟨i, hi, rfl⟩ := List.mem_iff_getElem.mp he
          obtain ⟨_, k1, k2⟩ := v2 i hi (by omega)
          exact k1 p ((sbors_of k2).mpr hb)
        refine ⟨⟨nb, (x :: y :: us).toArray, by simp, by simpa using hl2, fun i hi hi' => ?_⟩, nb⟩
        obtain ⟨k0, k1, k2⟩ := v2 i hi (by simpa using hi')
        rw [Nat.zero_add] at k0
        exact k0.moveK (keeps_refl _ _) (fun j => .refl_of _) fun p hp => absurd ((sbors_of k2).mpr hp) (k1 p)
    generalize hv : (if h : us.toArray.size = 1 then us.toArray[0] else Value.tuple us.toArray) = v at hslot
    have hrun : (results fn tmps1).run P w1 = .ok v w1 := by rw [← hv]; exact results_run e2
    have hevo : Evo bx.length G w G2 w1 := f1.evo.trans (.weak q2 _)
    have hunt : Unt bx.length G w w1 st2.dirty := fun loc b hl hb hx => f1.unt loc b hl hb fun hy => hx (g2.dirty _ hy)
    have hold : ∀ loc, loc < bx.length → loc ∉ st2.dirty → st2.bx[loc]? = bx[loc]? := fun loc hl hx => (g2.old loc hl hx).trans (f1.old loc hl fun hy => hx (g2.dirty _ hy))
    have hlen : bx.length ≤ st2.bx.length := Nat.le_trans l1 g2.len
    have hlow : ∀ n, LowInv n { tm := ds ++ List.replicate (fn.ntmps - ds.length) .undef, bx, ln := [], dirty := [], up := false } → LowInv n st2 := fun n hn => g2.low n (f1.low n hn)
    have fin : ∃ v' G', Ending.returned v = .returned v' ∧ Came G w bx rv bx' dirty v' G' w1 ∧ Kept bx rv bx' dirty up := by
      split at h
      · rename_i hc
        obtain ⟨hc1, hc2⟩ := hc
        simp only [Option.some.injEq, Prod.mk.injEq] at h
        obtain ⟨rfl, rfl, rfl, rfl⟩ := h
        have hb : ∀ loc (h : loc < st2.bx.length), loc < bx.length → lowL bx.length st2.bx[loc] = true := fun loc h hl => lowL_mono (by omega) _ (hlow bx.length hlow0 hc2 loc h)
        refine ⟨v, G2.cut bx.length, rfl, ⟨cut_boxes r2.bx hb, cut_slot hslot.1 hc1, hevo.trans (cut_evo (Nat.le_refl _)), hunt⟩, ⟨hslot.2, by simp; omega, fun loc hl hx => ?_, fun n hn _ loc hl => ?_⟩⟩
        · rw [List.getElem?_take, if_pos hl]
          exact hold loc hl hx
        · simp only [List.getElem_take]
          exact hlow n (fun _ loc hl => hn loc hl) hc2 loc (by simp at hl; omega)
      · simp only [Option.some.injEq, Prod.mk.injEq] at h
        obtain ⟨rfl, rfl, rfl, rfl⟩ := h
        exact ⟨v, G2, rfl, ⟨r2.bx, hslot.1, hevo, hunt⟩, ⟨hslot.2, hlen, hold, fun n hn hu loc hl => hlow n (fun _ loc hl => hn loc hl) hu loc hl⟩⟩
    cases e with
    | normal => exact ⟨rfl, v, hrun, fin⟩
    | ret => exact ⟨rfl, v, hrun, fin⟩
    | exit id => cases hexit
    | fork s => cases hexit

theorem callF_ok (tk : TOk P T) (hm : P.follows .mixedOrders = true) (pol : Pol) {ovr : CallT} (ho : CallOk P ovr) : ∀ k, CallOk P (callF P T pol ovr k)
  | 0 => fun _ _ _ _ _ _ _ h => by cases h
  | k + 1 => by
    intro f ds bx rv bx' dirty up h
    simp only [callF] at h
    split at h
    · rename_i r hr
      cases h
      exact ho _ _ _ _ _ _ _ hr
    · exact bodyF_ok tk hm pol k (callF_ok tk hm pol ho k) _ _ _ _ _ _ _ h

end Go.PI
