/- Functions of typed values. -/
import Derived.Test.YtoaadbakbfphgaaVg
namespace Go.PI
open Go

variable {P : Program} {sig : Sigs} {C : TyC sig} {C' : CallT} {T : Nat → TV}

/-- What is claimed of a function at typed arguments. -/
def EntOk (P : Program) (s : Sig) (x : s.inT.den) (y : s.outT.den) : Prop :=
  (∃ fn c, P.funcs[s.g]? = some fn ∧ fn.body = some c ∧ fn.name ≠ "runtime.NumGoroutine") ∧
    ∀ (G : Gh) (w : World) (vs : Array Value), Boxes G w (s.bxs x) → vs.size = (s.ds x).length → (∀ i (h : i < (s.ds x).length) (h' : i < vs.size), Ro G w (s.ds x)[i] vs[i] ∧ Flat (s.ds x)[i]) →
      Calls P s.g vs w (fun e w' => ∃ v G', e = .returned v ∧ Came G w (s.bxs x) (s.res y) (s.bxs' y) s.dirty v G' w' ∧ Kept (s.bxs x) (s.res y) (s.bxs' y) s.dirty s.up)

/-- What a typed callee says at plain arguments. -/
def Says (C : TyC sig) (inst : Nat → Nat) (g : Nat) (ds : List D) (bx : List (List D)) (q : D × List (List D) × List Nat × Bool) : Prop :=
  ∃ x y, (sig (inst g)).g = g ∧ C (inst g) x = some y ∧ (sig (inst g)).ds x = ds ∧ (sig (inst g)).bxs x = bx ∧ cellsD (sig (inst g)).inT x = ds ++ bx.map .agg ∧
    q = ((sig (inst g)).res y, (sig (inst g)).bxs' y, (sig (inst g)).dirty, (sig (inst g)).up)

open Classical in
/-- Typed callees as plain ones. -/
noncomputable def plainC (C : TyC sig) (inst : Nat → Nat) : CallT := fun g ds bx =>
  if h : ∃ q, Says C inst g ds bx q then some h.choose else none

theorem plain_matches (C : TyC sig) (inst : Nat → Nat) : Matches C inst (plainC C inst) := by
  refine ⟨fun g x y hg hy hx => ?_, fun g ds bx q hq => ?_⟩
  case refine_2 =>
    unfold plainC at hq
    split at hq
    · rename_i hex
      obtain ⟨x, y, _, _, _, h4, _⟩ := hex.choose_spec
      exact ⟨x, h4⟩
    · cases hq
  unfold plainC
  have h : ∃ q, Says C inst g ((sig (inst g)).ds x) ((sig (inst g)).bxs x) q := ⟨_, x, y, hg, hy, rfl, rfl, hx, rfl⟩
  rw [dif_pos h]
  obtain ⟨x', y', _, h2, _, _, h5, h6⟩ := h.choose_spec
  rw [h6]
  obtain rfl := cellsD_inj _ _ _ (h5.trans hx.symm)
  rw [hy] at h2
  obtain rfl := Option.some.inj h2
  rfl

theorem plain_ok (hT : ∀ j x y, C j x = some y → EntOk P (sig j) x y) (inst : Nat → Nat) : CallOk P (plainC C inst) := by
  intro g ds bx r bx' dirty up h
  unfold plainC at h
  split at h
  · rename_i hex
    have hs := hex.choose_spec
    rw [Option.some.inj h] at hs
    obtain ⟨x, y, h1, h2, rfl, rfl, h5, h6⟩ := hs
    obtain ⟨rfl, rfl, rfl, rfl⟩ := by simpa only [Prod.mk.injEq] using h6
    obtain ⟨k1, k2⟩ := hT _ _ _ h2
    rw [h1] at k1 k2
    exact ⟨k1, k2⟩
  · cases h

theorem tup_er (l : List V) : (tupV l).er = tupD (l.map V.er) := by
  match l with
  | [] => rfl
  | [d] => rfl
  | a :: b :: r => simp only [tupV, tupD, List.map_cons, V.er, erL_map]

theorem res_er {base : Nat} : ∀ (rs : List ResultVar) {st s : VS} {l : List V}, resVV T base st rs = some (l, s) → resF (erTs T) base st.er rs = some (l.map V.er, s.er)
  | [], st, s, l, h => by
    simp only [resVV, Option.some.injEq, Prod.mk.injEq] at h
    obtain ⟨rfl, rfl⟩ := h
    rfl
  | .tmp t :: r, st, s, l, h => by
    simp only [resVV] at h
    split at h
    · rename_i h1
      split at h
      · rename_i h2
        cases h
        simp only [resF, vtake_er h1, res_er r h2, Option.map_some, List.map_cons]
      · cases h
    · cases h
  | .cell a ty :: r, st, s, l, h => by
    simp only [resVV] at h
    simp only [resF, ← er_get]
    split at h
    · rename_i loc off hs
      simp only [hs, V.er, er_box_len]
      have hz : (erTs T ty).size = (T ty).size := er_size _
      have ha : (erTs T ty).agg = (T ty).agg := er_agg _
      split at h
      · rename_i hc
        split at h
        · rename_i d s1 h1
          split at h
          · rename_i h2
            cases h
            have e1 := take_er h1
            have e2 := er_borLeaves (Pl.b loc) (((st.box loc).drop off).take (T ty).size) off
            simp only [List.map_take, List.map_drop, er_box] at e2
            rw [er_mk] at e1
            simp only [hz, ha]
            rw [if_pos hc, ← e2]
            simp only [e1, res_er r h2, Option.map_some, List.map_cons]
          · cases h
        · cases h
      · cases h
    · cases h

theorem bodyV_ok {C' : Nat → CallT} (tk : TOk P (erTs T)) (hm : P.follows .mixedOrders = true) (p : VP) (hC : ∀ id, CallOk P (C' id)) (hM : ∀ id, Matches C (p.inst id) (C' id)) {fn : Func} {c : Code} {k j : Nat} {x : (sig j).inT.den} {y : (sig j).outT.den}
    (hfn : P.funcs[(sig j).g]? = some fn) (hbody : fn.body = some c) (hname : fn.name ≠ "runtime.NumGoroutine") (h : bodyV std C T p fn k j x = some y) : EntOk P (sig j) x y := by
  refine ⟨⟨fn, c, hfn, hbody, hname⟩, fun G w vs hbx hsz hro => ?_⟩
  unfold bodyV at h
  simp only [hbody] at h
  have eds : ((vals (sig j).inT x).take (sig j).na).map V.er = (sig j).ds x := by rw [List.map_take, vals_er]; rfl
  have ebx : (((vals (sig j).inT x).drop (sig j).na).map V.cells).map (List.map V.er) = (sig j).bxs x := by
    rw [← map_cells_agg, List.map_drop, vals_er]
    rfl
  have elen : ((vals (sig j).inT x).take (sig j).na).length = ((sig j).ds x).length := by rw [← eds, List.length_map]
  generalize hst : ({ tm := (vals (sig j).inT x).take (sig j).na ++ List.replicate (fn.ntmps - ((vals (sig j).inT x).take (sig j).na).length) .undef, bx := ((vals (sig j).inT x).drop (sig j).na).map V.cells, ln := [], dirty := [], up := false } : VS) = st at h
  have est : st.er = { tm := (sig j).ds x ++ List.replicate (fn.ntmps - ((sig j).ds x).length) .undef, bx := (sig j).bxs x, ln := [], dirty := [], up := false } := by
    subst hst
    simp only [VS.er, List.map_append, eds, ebx, List.map_replicate, V.er, elen]
  have hbl : (((vals (sig j).inT x).drop (sig j).na).map V.cells).length = ((sig j).bxs x).length := by rw [← ebx, List.length_map (f := List.map V.er)]
  rw [hbl] at h
  generalize (sig j).ds x = ds at *
  generalize hbxg : (sig j).bxs x = bx at *
  have r0 : Rel G w st.er (vs ++ Array.replicate (fn.ntmps - vs.size) undef) := by
    rw [est]
    have slot : ∀ t (h : t < (ds ++ List.replicate (fn.ntmps - ds.length) D.undef).length) (h' : t < (vs ++ Array.replicate (fn.ntmps - vs.size) undef).size),
        (∀ p, ¬ (ds ++ List.replicate (fn.ntmps - ds.length) D.undef)[t].sbors p) ∧ Slot G w (vs ++ Array.replicate (fn.ntmps - vs.size) undef) (fun i j => .s t i j) (ds ++ List.replicate (fn.ntmps - ds.length) D.undef)[t] (vs ++ Array.replicate (fn.ntmps - vs.size) undef)[t] := by
      intro t h h'
      by_cases hl : t < ds.length
      · rw [List.getElem_append_left hl, Array.getElem_append_left (by omega)]
        obtain ⟨ro, fl⟩ := hro t hl (by omega)
        exact ⟨(ro_nobors ro).1, (slot_of (ro_nobors ro).2).mpr (ro_val ro fl)⟩
      · rw [List.getElem_append_right (by omega)]
        simp only [List.getElem_replicate]
        exact ⟨fun p hb => hb, trivial⟩
    exact ⟨by simp; omega, fun t h h' => (slot t h h').2, fun t h p hb => absurd hb ((slot t h (by simp at h ⊢; omega)).1 p), hbx⟩
  have hlow0 : LowInv bx.length st.er := by
    rw [est]
    exact fun _ loc hl => lowL_mono (Nat.le_max_left _ _) _ (boxes_low hbx loc hl)
  have hln : st.ln = [] := by subst hst; rfl
  have hb0 : bx.length ≤ st.bx.length := by
    subst hst
    rw [hbl]
    exact Nat.le_refl _
  refine calls_of_wp hfn hbody ?_
  refine codeK_ok tk hm p hC hM k c (sig j).outT.den h r0 hln hb0 hlow0 _ fun e s tmps1 w1 G1 h1 r1 ln1 f1 => ?_
  have hend : e.ex = .normal ∨ e.ex = .ret := by
    cases e with
    | normal => exact .inl rfl
    | ret => exact .inr rfl
    | exit id => cases h1
  have h1' : (match resVV T bx.length (s.frost bx.length p.fin) fn.results.toList with
      | some (l, st) =>
        match (tupV l).lowO bx.length with
        | some low =>
          if (sig j).up = (if low = true ∧ st.up = false then false else st.up) ∧ st.dirty.all (fun x => (sig j).dirty.contains x) = true then
            ofVal (sig j).outT (tupV l :: (if low = true ∧ st.up = false then st.bx.take bx.length else st.bx).map .agg)
          else none
        | none => none
      | none => none) = some y := by
    cases e with
    | normal => exact h1
    | ret => exact h1
    | exit id => cases h1
  clear h1
  obtain ⟨Ga, ra, qa, ga, la⟩ := frost_ok bx.length p.fin r1
  rw [← er_frost] at ra ga
  split at h1'
  case h_2 => cases h1'
  rename_i l st2 hres
  split at h1'
  case h_2 => cases h1'
  rename_i low hlow
  have hres' := res_er _ hres
  have hlow' := low_er _ _ _ hlow
  rw [tup_er] at hlow'
  obtain ⟨us, G2, e2, r2, q2, g2, m2, hl2, v2⟩ := res_ok (P := P) (base := bx.length) tk fn.results.toList 0 ra hres'
  have ev : cellsD (sig j).outT y = tupD (l.map V.er) :: ((if low = true ∧ st2.up = false then st2.bx.take bx.length else st2.bx).map V.agg).map V.er ∧ (sig j).up = (if low = true ∧ st2.up = false then false else st2.up) ∧ ∀ z ∈ st2.dirty, z ∈ (sig j).dirty := by
    generalize (if low = true ∧ st2.up = false then st2.bx.take bx.length else st2.bx) = bb at h1' ⊢
    generalize (if low = true ∧ st2.up = false then false else st2.up) = uu at h1' ⊢
    split at h1'
    · rename_i hc
      refine ⟨?_, hc.1, fun z hz => by simpa using List.all_eq_true.mp hc.2 z hz⟩
      rw [← vals_er, ← ofVal_ok h1', List.map_cons, tup_er]
    · cases h1'
  obtain ⟨ev, hup, hdir⟩ := ev
  have er1 : (sig j).res y = tupD (l.map V.er) := by unfold Sig.res; rw [ev]; rfl
  have er2 : (sig j).bxs' y = (if low = true ∧ st2.up = false then st2.bx.take bx.length else st2.bx).map (List.map V.er) := by
    unfold Sig.bxs'
    rw [ev, List.drop_one, List.tail_cons, map_agg_cells]
  generalize hL : l.map V.er = L at *
  have hslot : Slot G2 w1 #[] (fun i j => .r i j) (tupD L) (if h : us.toArray.size = 1 then us.toArray[0] else .tuple us.toArray) ∧ ∀ p, ¬ (tupD L).sbors p := by
    match L, us, hl2, v2 with
    | [d], [u], _, v2 =>
      obtain ⟨a, b, c⟩ := v2 0 (by simp) (by simp)
      simp only [List.getElem_cons_zero] at a b c
      have hs : Slot G2 w1 tmps1 (fun i j => .r i j) d u := (slot_of c).mpr a
      exact ⟨hs.moveK (keeps_refl _ _) (fun i j => .refl_of _) fun p hp => absurd hp (b p), b⟩
    | [], [], _, v2 => exact ⟨⟨fun p hb => by obtain ⟨e, he, _⟩ := hb; simp at he, #[], rfl, rfl, fun i h => by simp at h⟩, fun p hb => by obtain ⟨e, he, _⟩ := hb; simp at he⟩
    | a :: b :: l, x :: y :: us, hl2, v2 =>
      have nb : ∀ p, ¬ (D.tup (a :: b :: l)).sbors p := by
        rintro p ⟨e, he, hb⟩
        obtain ⟨i, hi, rfl⟩ := List.mem_iff_getElem.mp he
        obtain ⟨_, k1, k2⟩ := v2 i hi (by omega)
        exact k1 p ((sbors_of k2).mpr hb)
      refine ⟨⟨nb, (x :: y :: us).toArray, by simp, by simpa using hl2, fun i hi hi' => ?_⟩, nb⟩
      obtain ⟨k0, k1, k2⟩ := v2 i hi (by simpa using hi')
      rw [Nat.zero_add] at k0
      exact k0.moveK (keeps_refl _ _) (fun j => .refl_of _) fun p hp => absurd ((sbors_of k2).mpr hp) (k1 p)
  generalize hv : (if h : us.toArray.size = 1 then us.toArray[0] else Value.tuple us.toArray) = v at hslot
  have hrun : (results fn tmps1).run P w1 = .ok v w1 := by rw [← hv]; exact results_run e2
  have f2 : Far bx.length G w st.er G2 w1 st2.er := by
    have b1 : bx.length ≤ s.er.bx.length := f1.len
    have a1 := f1.trans (.of qa (unt_refl _ _ _ _) ga b1)
    exact a1.trans (.of q2 (unt_refl _ _ _ _) g2 (Nat.le_trans b1 ga.len))
  have hunt : Unt bx.length G w w1 (sig j).dirty := fun loc b hl hb hx => f2.unt loc b hl hb fun hy => hx (hdir _ hy)
  have hold : ∀ loc, loc < bx.length → loc ∉ (sig j).dirty → st2.er.bx[loc]? = bx[loc]? := fun loc hl hx => by
    have := f2.old loc hl fun hy => hx (hdir _ hy)
    rw [est] at this
    exact this
  have hlen : bx.length ≤ st2.er.bx.length := f2.len
  have hlowF : ∀ n, LowInv n st.er → LowInv n st2.er := f2.low
  have fin : ∃ v' G', Ending.returned v = .returned v' ∧ Came G w bx ((sig j).res y) ((sig j).bxs' y) (sig j).dirty v' G' w1 ∧ Kept bx ((sig j).res y) ((sig j).bxs' y) (sig j).dirty (sig j).up := by
    rw [er1, er2]
    by_cases hc : low = true ∧ st2.up = false
    · obtain ⟨hc1, hc2⟩ := hc
      rw [if_pos ⟨hc1, hc2⟩] at hup ⊢
      rw [hup]
      have ebb : (st2.bx.take bx.length).map (List.map V.er) = st2.er.bx.take bx.length := by simp [VS.er, List.map_take]
      rw [ebb]
      rw [hc1] at hlow'
      have hb : ∀ loc (h : loc < st2.er.bx.length), loc < bx.length → lowL bx.length st2.er.bx[loc] = true := fun loc h hl => lowL_mono (by omega) _ (hlowF bx.length hlow0 hc2 loc h)
      refine ⟨v, G2.cut bx.length, rfl, ⟨cut_boxes r2.bx hb, cut_slot hslot.1 hlow', f2.evo.trans (cut_evo (Nat.le_refl _)), hunt⟩, ⟨hslot.2, by simp; omega, fun loc hl hx => ?_, fun n hn _ loc hl => ?_⟩⟩
      · rw [List.getElem?_take, if_pos hl]
        exact hold loc hl hx
      · simp only [List.getElem_take]
        refine hlowF n ?_ hc2 loc (by simp at hl; omega)
        rw [est]
        exact fun _ loc hl => hn loc hl
    · rw [if_neg hc] at hup ⊢
      have ebb : st2.bx.map (List.map V.er) = st2.er.bx := rfl
      rw [ebb]
      refine ⟨v, G2, rfl, ⟨r2.bx, hslot.1, f2.evo, hunt⟩, ⟨hslot.2, hlen, hold, fun n hn hu loc hl => ?_⟩⟩
      refine hlowF n ?_ (by rw [hup] at hu; exact hu) loc hl
      rw [est]
      exact fun _ loc hl => hn loc hl
  rcases hend with he | he
  · rw [he]
    exact ⟨rfl, v, hrun, fin⟩
  · rw [he]
    exact ⟨rfl, v, hrun, fin⟩

end Go.PI
