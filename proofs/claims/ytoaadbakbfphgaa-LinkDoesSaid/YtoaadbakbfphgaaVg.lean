/- Code of typed values. -/
import Derived.Test.YtoaadbakbfphgaaVf
namespace Go.PI
open Go

variable {P : Program} {sig : Sigs} {C : TyC sig} {C' : CallT} {T : Nat → TV} {base : Nat} {G : Gh} {w : World} {tmps : Array Value}

theorem onlyV_len (live : List Nat) : ∀ (l : List V) (i : Nat), (onlyV live i l).length = l.length
  | [], _ => rfl
  | v :: r, i => by simp only [onlyV, List.length_cons, onlyV_len live r]

theorem onlyV_get (live : List Nat) : ∀ (l : List V) (i j : Nat) (h : j < l.length), (onlyV live i l)[j]'(by rw [onlyV_len]; exact h) = if live.contains (i + j) then l[j] else .undef
  | v :: r, i, 0, _ => by simp only [onlyV, List.getElem_cons_zero, Nat.add_zero]
  | v :: r, i, j + 1, h => by
    have := onlyV_get live r (i + 1) j (by simpa using h)
    simp only [onlyV, List.getElem_cons_succ, this]
    rw [show i + 1 + j = i + (j + 1) by omega]

theorem findV_live (tm : List V) (t : Nat) (rest : List V) : ∀ live : List (Nat × Ty), t ∈ live.map (·.1) → findV t live (live.map (fun x => tm.getD x.1 .undef) ++ rest) = tm.getD t .undef
  | [], h => by simp at h
  | (u, ty) :: r, h => by
    simp only [List.map_cons, List.cons_append, findV]
    split
    · rename_i e; rw [e]
    · rename_i e
      simp only [List.map_cons, List.mem_cons] at h
      rcases h with h | h
      · exact (e h.symm).elim
      · exact findV_live tm t rest r h

theorem findV_dead (t : Nat) : ∀ (live : List (Nat × Ty)) (vs : List V), t ∉ live.map (·.1) → findV t live vs = .undef
  | [], _, _ => by simp [findV]
  | (u, ty) :: r, [], h => by simp [findV]
  | (u, ty) :: r, v :: vs, h => by
    simp only [List.map_cons, List.mem_cons, not_or] at h
    simp only [findV, if_neg (Ne.symm h.1)]
    exact findV_dead t r vs h.2

theorem pack_ok {sh : Sh} {st : VS} {x : sh.ty.den} (h : packS base sh st = some x) (r : Rel G w st.er tmps) (hb : base ≤ st.bx.length) (hlow : LowInv base st.er) :
    ∃ G', Rel G' w (unpackS sh x).er tmps ∧ Far base G w st.er G' w (unpackS sh x).er := by
  unfold packS at h
  simp only at h
  split at h
  · cases h
  rename_i low hlw
  split at h
  case isFalse => cases h
  rename_i hc
  obtain ⟨htm, hbx, hln, hup, hdir⟩ := hc
  have hv := ofVal_ok h
  obtain ⟨G1, r1, q1, g1, l1⟩ := frost_ok base sh.cold r
  rw [← er_frost] at r1 g1 l1
  generalize hs : st.frost base sh.cold = s at *
  generalize htmv : onlyV (sh.live.map (·.1)) 0 s.tm = tm at *
  have hlen1 : tm.length = s.tm.length := by rw [← htmv, onlyV_len]
  have r2 : Rel G1 w ({ s with tm := tm } : VS).er tmps := by
    have := r1.cleared (tm.map V.er) s.er.ln (by simp [hlen1, VS.er]) fun t ht ht' => by
      have ht2 : t < s.tm.length := by simpa [VS.er] using ht'
      simp only [List.getElem_map, VS.er]
      subst htmv
      rw [onlyV_get _ _ _ _ ht2]
      split
      · exact .inr ⟨rfl, fun _ hp => hp⟩
      · exact .inl rfl
    exact this
  have hb1 : base ≤ s.bx.length := by
    have := g1.len
    simp only [VS.er, List.length_map] at this
    omega
  have f1 : Far base G w st.er G1 w ({ s with tm := tm } : VS).er := by
    have a := Far.of q1 (unt_refl _ _ _ _) g1 (by simpa [VS.er] using hb)
    exact ⟨a.evo, a.unt, a.dirty, a.old, a.low, a.len⟩
  have hlow1 : LowInv base ({ s with tm := tm } : VS).er := f1.low base hlow
  -- the boxes
  have cut : ∃ G2, Rel G2 w ({ s with tm := tm, bx := cutV base sh.bx.length low s } : VS).er tmps ∧
      Far base G1 w ({ s with tm := tm } : VS).er G2 w ({ s with tm := tm, bx := cutV base sh.bx.length low s } : VS).er := by
    unfold cutV at hbx ⊢
    split at hbx
    · rename_i hcut
      rw [if_pos hcut]
      have hn : sh.bx.length ≤ s.bx.length := by
        rw [List.length_take] at hbx
        omega
      have hln1 : ({ s with tm := tm } : VS).er.ln = [] := by
        have : s.ln = [] := by simpa using hln
        exact this
      obtain ⟨G2, r3, _, f3, _⟩ := round_ok r2 hln1 hcut.2.2 (by simpa [VS.er] using hn) hlow1 []
      have e : roundStart sh.bx.length [] ({ s with tm := tm } : VS).er = ({ s with tm := tm, bx := s.bx.take sh.bx.length } : VS).er := by
        unfold roundStart
        have c1 : ({ s with tm := tm } : VS).er.up = false := hcut.1
        have c2 : lowL sh.bx.length (clearSlots [] ({ s with tm := tm } : VS).er.tm) = true := by
          rw [hcut.2.1] at hlw
          exact lowL_map hlw
        simp only
        rw [if_pos ⟨c1, c2⟩]
        simp only [VS.er, clearSlots, List.map_take]
      rw [e] at r3 f3
      exact ⟨G2, r3, f3⟩
    · rename_i hcut
      rw [if_neg hcut]
      exact ⟨G1, r2, .refl (by simpa [VS.er] using hb1)⟩
  generalize hbxv : cutV base sh.bx.length low s = bx at *
  obtain ⟨G2, r3, f3⟩ := cut
  have e : unpackS sh x = { s with tm := tm, bx := bx, dirty := sh.dirty } := by
    unfold unpackS
    simp only
    rw [← hv]
    have e1 : (List.range sh.n).map (fun t => findV t sh.live (sh.live.map (fun x => tm.getD x.1 .undef) ++ bx.map .agg)) = tm := by
      refine List.ext_getElem (by simp [hlen1, htm]) fun t h1 h2 => ?_
      simp only [List.getElem_map, List.getElem_range]
      by_cases hl : t ∈ sh.live.map (·.1)
      · rw [findV_live _ _ _ _ hl, List.getD_eq_getElem?_getD, List.getElem?_eq_getElem h2, Option.getD_some]
      · rw [findV_dead _ _ _ hl]
        subst htmv
        rw [onlyV_get _ _ _ _ (by rw [← onlyV_len (sh.live.map (·.1)) s.tm 0]; exact h2)]
        rw [if_neg (by simpa using hl)]
    have e2 : ((sh.live.map (fun x => tm.getD x.1 .undef) ++ bx.map V.agg).drop sh.live.length).map V.cells = bx := by
      rw [List.drop_left' (by simp)]
      simp [Function.comp_def, V.cells]
    rw [e1, e2]
    have : s.ln = [] := by simpa using hln
    cases s
    simp_all
  rw [e]
  have hsub : ∀ y ∈ s.dirty, y ∈ sh.dirty := by
    intro y hy
    have := List.all_eq_true.mp hdir y hy
    simpa using this
  refine ⟨G2, ⟨r3.len, r3.slot, r3.ln, r3.bx⟩, ?_⟩
  have f13 := f1.trans f3
  exact ⟨f13.evo, fun loc b hl hb hx => f13.unt loc b hl hb fun hy => hx (hsub _ hy), fun y hy => hsub _ (f13.dirty y hy), fun loc hl hx => f13.old loc hl fun hy => hx (hsub _ hy), f13.low, f13.len⟩

def XE.ex : XE → Exit
  | .normal => .normal
  | .exit id => .exit id
  | .ret => .ret

theorem unpack_ln (sh : Sh) (x : sh.ty.den) : (unpackS sh x).ln = [] := rfl

theorem map_inl {α β : Type} {x : Option α} {z : α ⊕ β} (h : x.map Sum.inl = some z) : ∃ a, x = some a ∧ z = .inl a := by
  cases x with
  | none => cases h
  | some a => cases h; exact ⟨a, rfl, rfl⟩

theorem map_inr {α β : Type} {x : Option β} {z : α ⊕ β} (h : x.map Sum.inr = some z) : ∃ a, x = some a ∧ z = .inr a := by
  cases x with
  | none => cases h
  | some a => cases h; exact ⟨a, rfl, rfl⟩

/-- What code is shown to do. -/
def CodeVOk (P : Program) (base : Nat) (c : Code) (F : (β : Type) → VS → (XE → VS → Option β) → Option β) : Prop :=
  ∀ (β : Type) {st : VS} {K : XE → VS → Option β} {y : β}, F β st K = some y → ∀ {G : Gh} {w : World} {tmps : Array Value}, Rel G w st.er tmps → st.ln = [] → base ≤ st.bx.length → LowInv base st.er → ∀ Q : Exit → Act → World → Prop,
    (∀ e s tmps1 w' G', K e s = some y → Rel G' w' s.er tmps1 → s.ln = [] → Far base G w st.er G' w' s.er → Q e.ex ⟨tmps1, []⟩ w') → c.wp P Q ⟨tmps, []⟩ w

theorem er_bx_len (st : VS) : st.er.bx.length = st.bx.length := by simp [VS.er]

theorem far_len {st s : VS} {G' : Gh} {w' : World} (f : Far base G w st.er G' w' s.er) : base ≤ s.bx.length := by
  have := f.len
  rwa [er_bx_len] at this

theorem codeK_ok {C' : Nat → CallT} (tk : TOk P (erTs T)) (hm : P.follows .mixedOrders = true) (p : VP) (hC : ∀ id, CallOk P (C' id)) (hM : ∀ id, Matches C (p.inst id) (C' id)) (k : Nat) : ∀ c : Code, CodeVOk P base c (codeK std C T p base k c) := by
  intro c
  induction c with
  | skip =>
    intro β st K y h G w tmps r hln hb hlow Q hq
    simp only [codeK] at h
    exact wp_skip (hq .normal _ _ _ _ h r hln (.refl (by simpa [er_bx_len] using hb)))
  | label l =>
    intro β st K y h G w tmps r hln hb hlow Q hq
    simp only [codeK] at h
    exact wp_label (hq .normal _ _ _ _ h r hln (.refl (by simpa [er_bx_len] using hb)))
  | exit id =>
    intro β st K y h G w tmps r hln hb hlow Q hq
    simp only [codeK] at h
    exact wp_exit (hq (.exit id) _ _ _ _ h r hln (.refl (by simpa [er_bx_len] using hb)))
  | ret =>
    intro β st K y h G w tmps r hln hb hlow Q hq
    simp only [codeK] at h
    exact wp_ret (hq .ret _ _ _ _ h r hln (.refl (by simpa [er_bx_len] using hb)))
  | region id ops draw =>
    intro β st K y h G w tmps r hln hb hlow Q hq
    simp only [codeK] at h
    have hb' : base ≤ st.er.bx.length := by rwa [er_bx_len]
    split at h
    · obtain ⟨s, h1, h2, h3⟩ := regionK_er p (hM id) h
      exact region_ok tk (hC id) hm r hln hb' h3 h1 Q fun tmps1 w' G' r1 ln1 q1 u1 g1 => hq .normal s _ _ _ h2 r1 ln1 (.of q1 u1 g1 hb')
    · rename_i sh hsh
      obtain ⟨x, hx, h⟩ := optK_some h
      obtain ⟨s, h1, h2, h3⟩ := regionK_er p (hM id) hx
      refine region_ok tk (hC id) hm r hln hb' h3 h1 Q fun tmps1 w' G' r1 ln1 q1 u1 g1 => ?_
      have f1 : Far base G w st.er G' w' s.er := .of q1 u1 g1 hb'
      obtain ⟨G2, r2, f2⟩ := pack_ok h2 r1 (far_len f1) (f1.low base hlow)
      exact hq .normal _ _ _ _ h r2 rfl (f1.trans f2)
  | seq a b iha ihb =>
    intro β st K y h G w tmps r hln hb hlow Q hq
    simp only [codeK] at h
    refine wp_seq ?_
    split at h
    · refine iha β h r hln hb hlow _ fun e s tmps1 w1 G1 h1 r1 ln1 f1 => ?_
      cases e with
      | normal => exact ihb β h1 r1 ln1 (far_len f1) (f1.low base hlow) Q fun e2 s2 tmps2 w2 G2 h2 r2 ln2 f2 => hq e2 s2 _ _ _ h2 r2 ln2 (f1.trans f2)
      | exit id => exact hq (.exit id) s _ _ _ h1 r1 ln1 f1
      | ret => exact hq .ret s _ _ _ h1 r1 ln1 f1
    · rename_i sh hsh
      obtain ⟨z, hz, h⟩ := optK_some h
      refine iha _ hz r hln hb hlow _ fun e s tmps1 w1 G1 h1 r1 ln1 f1 => ?_
      cases e with
      | normal =>
        obtain ⟨x, hx, rfl⟩ := map_inl h1
        obtain ⟨G2, r2, f2⟩ := pack_ok hx r1 (far_len f1) (f1.low base hlow)
        have f12 := f1.trans f2
        exact ihb β h r2 rfl (far_len f12) (f12.low base hlow) Q fun e2 s2 tmps2 w2 G3 h2 r3 ln3 f3 => hq e2 s2 _ _ _ h2 r3 ln3 (f12.trans f3)
      | exit id =>
        obtain ⟨x, hx, rfl⟩ := map_inr h1
        cases h
        exact hq (.exit id) s _ _ _ hx r1 ln1 f1
      | ret =>
        obtain ⟨x, hx, rfl⟩ := map_inr h1
        cases h
        exact hq .ret s _ _ _ hx r1 ln1 f1
  | cond c a b iha ihb =>
    intro β st K y h G w tmps r hln hb hlow Q hq
    simp only [codeK] at h
    split at h
    · rename_i hu
      have hs : st.see T 0 c = .unk := by
        cases hs : st.see T 0 c <;> rw [hs] at hu <;> first | rfl | cases hu
      obtain ⟨t, hv⟩ := see_unk r (show st.er.see (erTs T) 0 c = .unk by rw [← er_see, hs]; rfl)
      have he : codeK std C T p base k a β st K = some y ∧ codeK std C T p base k b β st K = some y := by
        simp only [std, bothT] at h
        split at h
        · rename_i e
          exact ⟨h, e ▸ h⟩
        · cases h
      cases t with
      | true => exact wp_cond_true (by rw [eval_eq]; exact hv) (iha β he.1 r hln hb hlow Q hq)
      | false => exact wp_cond_false (by rw [eval_eq]; exact hv) (ihb β he.2 r hln hb hlow Q hq)
    obtain ⟨t, ht, h⟩ := boolK_some h
    have ht' : st.er.see (erTs T) 0 c = .bool t := by rw [← er_see, ht]; rfl
    have hv := see_bool r ht'
    cases t with
    | true => exact wp_cond_true (by rw [eval_eq]; exact hv) (iha β h r hln hb hlow Q hq)
    | false => exact wp_cond_false (by rw [eval_eq]; exact hv) (ihb β h r hln hb hlow Q hq)
  | block id c ih =>
    intro β st K y h G w tmps r hln hb hlow Q hq
    simp only [codeK] at h
    refine wp_block ?_
    refine ih β h r hln hb hlow _ fun e s tmps1 w1 G1 h1 r1 ln1 f1 => ?_
    cases e with
    | normal => exact hq .normal s _ _ _ h1 r1 ln1 f1
    | exit id' =>
      show if id' = id then _ else _
      simp only at h1
      split at h1
      · rename_i hid
        rw [if_pos hid]
        exact hq .normal s _ _ _ h1 r1 ln1 f1
      · rename_i hid
        rw [if_neg hid]
        exact hq (.exit id') s _ _ _ h1 r1 ln1 f1
    | ret => exact hq .ret s _ _ _ h1 r1 ln1 f1
  | loop c ih =>
    intro β st K y h G w tmps r hln hb hlow Q hq
    simp only [codeK] at h
    split at h
    · cases h
    rename_i sh hl
    obtain ⟨x0, hx0, h⟩ := optK_some h
    obtain ⟨G1, r1, f1⟩ := pack_ok hx0 r hb hlow
    have hL : ∃ n, loopT n (fun x => codeK std C T p base k c (sh.ty.den ⊕ β) (unpackS sh x) fun e s => match e with
          | .normal => (packS base sh s).map .inl
          | e => (K e s).map .inr) x0 = some y := by
      simp only [std, loopL] at h
      split at h
      · rename_i hex
        obtain ⟨n, hn⟩ := hex.choose_spec
        rw [Option.some.inj h] at hn
        exact ⟨n, hn⟩
      · cases h
    obtain ⟨n0, hL⟩ := hL
    refine wp_loop_rounds n0 ?_
    have go : ∀ (n : Nat) (x : sh.ty.den) (G1 : Gh) (w1 : World) (tmps1 : Array Value), Rel G1 w1 (unpackS sh x).er tmps1 → Far base G w st.er G1 w1 (unpackS sh x).er →
        loopT n (fun x => codeK std C T p base k c (sh.ty.den ⊕ β) (unpackS sh x) fun e s => match e with
          | .normal => (packS base sh s).map .inl
          | e => (K e s).map .inr) x = some y → Code.rounds P c Q n ⟨tmps1, []⟩ w1 := by
      intro n
      induction n with
      | zero => intro x G1 w1 tmps1 _ _ h; cases h
      | succ n ihn =>
        intro x G1 w1 tmps1 r1 f1 h
        simp only [loopT] at h
        show c.wp P (Exit.then (Code.rounds P c Q n) Q) ⟨tmps1, []⟩ w1
        split at h
        · rename_i x' hx'
          refine ih _ hx' r1 rfl (far_len f1) (f1.low base hlow) _ fun e s tmps2 w2 G2 h2 r2 ln2 f2 => ?_
          cases e with
          | normal =>
            obtain ⟨a, ha, e⟩ := map_inl h2
            cases e
            have f12 := f1.trans f2
            obtain ⟨G3, r3, f3⟩ := pack_ok ha r2 (far_len f12) (f12.low base hlow)
            exact ihn _ _ _ _ r3 (f12.trans f3) h
          | exit id => obtain ⟨a, ha, e⟩ := map_inr h2; cases e
          | ret => obtain ⟨a, ha, e⟩ := map_inr h2; cases e
        · rename_i b hb'
          cases h
          refine ih _ hb' r1 rfl (far_len f1) (f1.low base hlow) _ fun e s tmps2 w2 G2 h2 r2 ln2 f2 => ?_
          cases e with
          | normal => obtain ⟨a, ha, e⟩ := map_inl h2; cases e
          | exit id =>
            obtain ⟨a, ha, e⟩ := map_inr h2
            cases e
            exact hq (.exit id) s _ _ _ ha r2 ln2 (f1.trans f2)
          | ret =>
            obtain ⟨a, ha, e⟩ := map_inr h2
            cases e
            exact hq .ret s _ _ _ ha r2 ln2 (f1.trans f2)
        · cases h
    exact go n0 x0 G1 w tmps r1 f1 hL
  | _ =>
    intro β st K y h G w tmps r hln hb hlow Q hq
    simp only [codeK] at h
    cases h

end Go.PI
