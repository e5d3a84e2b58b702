/- Steps of open regions change places: two neighbours. -/
import Derived.Test.YtoaadbakbfphgaaJe
namespace Go.PI
open Go

variable {C : CallT} {T : Nat → TI} {base al : Nat} {s : St} {ops : List Oper} {tk : List Nat} {ob : Option (List Nat)} {pc om : Bool}

theorem st_ext {a b : St} (hl : a.tm.length = b.tm.length) (hg : ∀ t, a.get t = b.get t) (hn : a.ln = b.ln) (hm : a.mem = b.mem) : a = b := by
  cases a
  cases b
  simp only [St.mem, Prod.mk.injEq] at hm hn hl
  obtain ⟨rfl, rfl, rfl⟩ := hm
  subst hn
  congr 1
  refine List.ext_getElem hl fun i h1 h2 => ?_
  have := hg i
  simpa [St.get, List.getD_eq_getElem?_getD, List.getElem?_eq_getElem h1, List.getElem?_eq_getElem h2] using this

theorem apart_not {a b : List Nat} (h : apartL a b = true) {t : Nat} (ht : t ∈ b) : t ∉ a := by
  intro hta
  have := List.all_eq_true.mp h t hta
  simp [ht] at this

theorem cond_of_mem {o : Oper} {s s2 : St} (h : s2.mem = s.mem) : Cond T o pc s s2 := by
  have hb : s2.bx = s.bx := by simp only [St.mem, Prod.mk.injEq] at h; exact h.1
  exact ⟨fun _ _ => h, fun _ _ loc _ _ _ _ => by simp only [St.box, hb], fun _ al e => by rw [hb]; exact e, fun _ => h⟩

theorem stepQ_out {i : Nat} {o : Oper} {s s1 : St} (hi : ops[i]? = some o) (h : stepQ C T base ops tk al ob pc i s = some s1) : outOk T ob o s = true := by
  unfold stepQ at h
  simp only [hi] at h
  split at h
  · rename_i hc
    exact hc.2
  · cases h

theorem swap_free (hom : om = true → ∃ l, ob = some l) {a x : Nat} {oa ox : Oper} (ha : ops[a]? = some oa) (hx : ops[x]? = some ox) (hka : opKind oa.op ≤ 4) (hkx : opKind ox.op ≤ 4) (hk : kindsApart pc om (opKind oa.op) (opKind ox.op) = true) (h1 : apartL (footW tk ops oa) (footR ops ox) = true) (h2 : apartL (footW tk ops oa) (footW tk ops ox) = true) (h3 : apartL (footW tk ops ox) (footR ops oa) = true)
    (hl : s.ln = []) {sa r : St} (e1 : stepQ C T base ops tk al ob pc a s = some sa) (e2 : stepQ C T base ops tk al ob pc x sa = some r) : ∃ sx, stepQ C T base ops tk al ob pc x s = some sx ∧ stepQ C T base ops tk al ob pc a sx = some r := by
  obtain ⟨sa', e1', fa⟩ := stepQ_cg ha hka hl hl ⟨rfl, fun _ _ => rfl⟩ (cond_of_mem rfl) e1
  rw [e1] at e1'
  cases e1'
  have kl : ∀ {o : Oper}, opKind o.op ≠ 2 → ∀ ty x, o.op ≠ .load ty x := fun {o} h ty x e => h (by rw [e]; rfl)
  have hk' : (om = true ∧ opKind oa.op = 2 ∧ opKind ox.op = 4) ∨ opKind oa.op = 0 ∨ opKind ox.op = 0 ∨ (pc = true ∧ (opKind oa.op = 1 ∨ opKind ox.op = 1)) ∨ ((opKind oa.op = 1 ∨ opKind oa.op = 2) ∧ (opKind ox.op = 1 ∨ opKind ox.op = 2)) ∨ (opKind oa.op = 2 ∧ opKind ox.op = 3) := by
    simpa [kindsApart, or_assoc, and_assoc] using hk
  have hcx : Cond T ox pc sa s := by
    by_cases h : opKind oa.op ≤ 2
    · exact cond_of_mem (fa.m2 h).1.symm
    · have : opKind ox.op = 0 ∨ (pc = true ∧ opKind ox.op = 1) := by
        rcases hk' with ⟨hom', h', h''⟩ | h' | h' | ⟨hp, h' | h'⟩ | ⟨h', h''⟩ | ⟨h', h''⟩ <;> first | (exfalso; omega) | exact .inl (by omega) | exact .inr ⟨hp, h'⟩
      rcases this with h0 | ⟨hp, h1⟩
      · exact ⟨fun h => by omega, fun ty x loc off e => absurd e (kl (by omega) ty x), fun h => by omega, fun h => by omega⟩
      · exact ⟨fun _ h => (by rw [hp] at h; cases h), fun ty x loc off e => absurd e (kl (by omega) ty x), fun h => by omega, fun h => by omega⟩
  obtain ⟨sx, e3, fx⟩ := stepQ_cg hx hkx fa.ln1 hl ⟨fa.l1, fun t ht => fa.o1 t (apart_not h1 ht)⟩ hcx e2
  have hca : Cond T oa pc s sx := by
    by_cases h : opKind ox.op ≤ 2
    · exact cond_of_mem (fx.m2 h).2
    · by_cases hx3 : opKind ox.op = 3
      · by_cases ha2 : opKind oa.op = 2
        · refine ⟨fun h => by omega, fun _ _ loc _ _ _ hne => ?_, fun h => by omega, fun h => by omega⟩
          rcases fx.m3 hx3 with ⟨_, hm⟩ | ⟨al', z, _, hb, _, hm⟩
          · simp only [St.mem, Prod.mk.injEq] at hm
            simp only [St.box, hm.1]
          · simp only [St.mem, Prod.mk.injEq] at hm
            have hsa := (fa.m2 (by omega)).1
            simp only [St.mem, Prod.mk.injEq] at hsa
            rw [hsa.1] at hb
            by_cases hal : al' = loc
            · subst hal
              exfalso
              apply hne
              simp [St.box, List.getD_eq_getElem?_getD, hb]
            · simp only [St.box, hm.1, List.getD_eq_getElem?_getD, List.getElem?_set_ne hal]
        · have : opKind oa.op = 0 ∨ (pc = true ∧ opKind oa.op = 1) := by
            rcases hk' with ⟨hom', h', h''⟩ | h' | h' | ⟨hp, h' | h'⟩ | ⟨h', h''⟩ | ⟨h', h''⟩ <;> first | (exfalso; omega) | exact .inl (by omega) | exact .inr ⟨hp, h'⟩
          rcases this with h0 | ⟨hp, h1⟩
          · exact ⟨fun h => by omega, fun ty x loc off e => absurd e (kl (by omega) ty x), fun h => by omega, fun h => by omega⟩
          · exact ⟨fun _ h => (by rw [hp] at h; cases h), fun ty x loc off e => absurd e (kl (by omega) ty x), fun h => by omega, fun h => by omega⟩
      · by_cases h24 : om = true ∧ opKind oa.op = 2
        · obtain ⟨l, hl'⟩ := hom h24.1
          refine ⟨fun h => by omega, fun ty y loc off e hsee _ => ?_, fun h => by omega, fun h => by omega⟩
          have hout := stepQ_out ha e1
          simp only [outOk, hl', e, hsee] at hout
          exact fx.m5 (by omega) l hl' loc (by simpa using hout)
        have : opKind oa.op = 0 ∨ (pc = true ∧ opKind oa.op = 1) := by
          rcases hk' with ⟨hom', h', h''⟩ | h' | h' | ⟨hp, h' | h'⟩ | ⟨h', h''⟩ | ⟨h', h''⟩ <;> first | (exfalso; omega) | exact .inl (by omega) | exact .inr ⟨hp, h'⟩ | exact absurd ⟨hom', h'⟩ h24
        rcases this with h0 | ⟨hp, h1⟩
        · exact ⟨fun h => by omega, fun ty x loc off e => absurd e (kl (by omega) ty x), fun h => by omega, fun h => by omega⟩
        · exact ⟨fun _ h => (by rw [hp] at h; cases h), fun ty x loc off e => absurd e (kl (by omega) ty x), fun h => by omega, fun h => by omega⟩
  obtain ⟨r', e4, ga⟩ := stepQ_cg ha hka hl fx.ln3 ⟨fx.l3.symm, fun t ht => (fx.o3 t (apart_not h3 ht)).symm⟩ hca e1
  have hr : r' = r := by
    refine st_ext (by rw [ga.l3, fx.l3, fx.l1, fa.l1]) (fun t => ?_) (by rw [ga.ln3, fx.ln1]) ?_
    · by_cases hx : t ∈ footW tk ops ox
      · rw [fx.ag t hx]
        exact ga.o3 t (apart_not h2 hx)
      · rw [fx.o1 t hx]
        by_cases ha : t ∈ footW tk ops oa
        · exact (ga.ag t ha).symm
        · rw [ga.o3 t ha, fx.o3 t hx, fa.o1 t ha]
    · by_cases hx2 : opKind ox.op ≤ 2
      · obtain ⟨m1, m2⟩ := fx.m2 hx2
        rw [m1]
        by_cases ha2 : opKind oa.op ≤ 2
        · rw [(ga.m2 ha2).2, m2, (fa.m2 ha2).1]
        · by_cases ha3 : opKind oa.op = 3
          · rcases ga.m3 ha3 with ⟨g1, g2⟩ | ⟨al', z, _, _, g1, g2⟩
            · rw [g2, m2, g1]
            · rw [g2, g1]
              simp only [St.mem, Prod.mk.injEq] at m2 ⊢
              simp [m2]
          · exact (ga.m4 (by omega)).symm
      · have ha2 : opKind oa.op ≤ 2 := by
          rcases hk' with ⟨hom', h', h''⟩ | h' | h' | ⟨hp, h' | h'⟩ | ⟨h', h''⟩ | ⟨h', h''⟩ <;> omega
        rw [(ga.m2 ha2).2]
        by_cases hx3 : opKind ox.op = 3
        · have hsa := (fa.m2 ha2).1
          simp only [St.mem, Prod.mk.injEq] at hsa
          rcases fx.m3 hx3 with ⟨g1, g2⟩ | ⟨al', z, _, _, g1, g2⟩
          · rw [g1, g2, (fa.m2 ha2).1]
          · rw [g2, g1, hsa.1, hsa.2.1, hsa.2.2]
        · exact (fx.m4 (by omega)).symm
  subst hr
  exact ⟨sx, e3, e4⟩

theorem ext_step {i t u j : Nat} {o : Oper} (hi : ops[i]? = some o) (ho : o.op = .extract (.tmp t) j) (hg : o.guard = none) (hd : o.dst = some u) (hl : s.ln = []) :
    stepQ C T base ops tk al ob pc i s = match s.get t with
      | .tup l => (l[j]?).map fun d => { s with tm := (s.tm.set t (.tup (l.set j .undef))).set u d }
      | _ => none := by
  have hp : pureCall C T base o s = true := by simp [pureCall, ho]
  have hr : footR ops o = [t] := by simp [footR, guardRd, hg, ho, opRd, tmpsL, tmpOf]
  have hw : wantedD ops o s = some true := by simp [wantedD, hg]
  have hk : opKind o.op = 0 := by rw [ho]; rfl
  have ho2 : outOk T ob o s = true := by cases ob <;> simp [outOk, ho]
  unfold stepQ
  simp only [hi, hr, hw, hp, hk, ho2, and_true, List.all_cons, List.all_nil, Bool.and_true, implies_true, if_true]
  have hop : opF C T base (ownOf ops ++ tk) (al + allocsOf (ops.take i)) o s = match s.get t with
      | .tup l => (l[j]?).map fun d => { s with tm := (s.tm.set t (.tup (l.set j .undef))).set u d }
      | _ => none := by
    unfold opF
    simp only [ho]
    unfold opV
    simp only [ho, hd]
    split
    · rename_i d ps s' e
      split at e
      · rename_i l hl'
        cases hj : l[j]? with
        | none => rw [hj] at e; cases e
        | some d' =>
          rw [hj] at e
          simp only [Option.some.injEq, Prod.mk.injEq] at e
          obtain ⟨rfl, rfl, rfl⟩ := e
          cases s
          simp only at hl
          subst hl
          simp [hl', hj, St.set, St.forget]
      · cases e
    · rename_i e
      split at e
      · rename_i l hl'
        cases hj : l[j]? with
        | none => simp [hl', hj]
        | some d' => rw [hj] at e; cases e
      · rename_i hnt
        split
        · rename_i l hl'
          exact absurd hl' (hnt l)
        · rfl
  rw [hop]
  cases hget : s.get t with
  | tup l =>
    simp only [D.nb, D.nbl, if_true]
    cases l[j]? with
    | none => rfl
    | some d => simp [hl]
  | _ => simp

theorem swap_parts {a x : Nat} {oa ox : Oper} (ha : ops[a]? = some oa) (hx : ops[x]? = some ox) (h : twoParts oa ox = true) (hl : s.ln = []) {sa r : St} (e1 : stepQ C T base ops tk al ob pc a s = some sa) (e2 : stepQ C T base ops tk al ob pc x sa = some r) :
    ∃ sx, stepQ C T base ops tk al ob pc x s = some sx ∧ stepQ C T base ops tk al ob pc a sx = some r := by
  unfold twoParts at h
  split at h
  · rename_i t i u j h1 h2
    simp only [Bool.and_eq_true, beq_iff_eq, bne_iff_ne, ne_eq, Option.isNone_iff_eq_none, Option.isSome_iff_exists] at h
    obtain ⟨⟨⟨⟨⟨⟨⟨⟨rfl, hij⟩, ga⟩, gx⟩, hne⟩, hat⟩, hxt⟩, ⟨ua, hua⟩⟩, ⟨ux, hux⟩⟩ := h
    have hne : ua ≠ ux := fun e => hne (by rw [hua, hux, e])
    have hat : ua ≠ t := fun e => hat (by rw [hua, e])
    have hxt : ux ≠ t := fun e => hxt (by rw [hux, e])
    rw [ext_step ha h1 ga hua hl] at e1
    cases hget : s.get t with
    | tup l =>
      rw [hget] at e1
      simp only [Option.map_eq_some_iff] at e1
      obtain ⟨d, hd, rfl⟩ := e1
      have ht : t < s.tm.length := by
        rcases Nat.lt_or_ge t s.tm.length with ht | ht
        · exact ht
        · rw [get_out (Nat.not_lt.mpr ht)] at hget; cases hget
      have g2 : ({ s with tm := (s.tm.set t (.tup (l.set i .undef))).set ua d } : St).get t = .tup (l.set i .undef) := by
        simp [St.get, List.getD_eq_getElem?_getD, hat, ht]
      rw [ext_step (s := { s with tm := (s.tm.set t (.tup (l.set i .undef))).set ua d }) hx h2 gx hux hl, g2] at e2
      simp only [Option.map_eq_some_iff] at e2
      obtain ⟨d', hd', rfl⟩ := e2
      have hd2 : l[j]? = some d' := by rwa [List.getElem?_set_ne hij] at hd'
      refine ⟨{ s with tm := (s.tm.set t (.tup (l.set j .undef))).set ux d' }, by rw [ext_step hx h2 gx hux hl, hget]; simp [hd2], ?_⟩
      have g3 : ({ s with tm := (s.tm.set t (.tup (l.set j .undef))).set ux d' } : St).get t = .tup (l.set j .undef) := by
        simp [St.get, List.getD_eq_getElem?_getD, hxt, ht]
      rw [ext_step (s := { s with tm := (s.tm.set t (.tup (l.set j .undef))).set ux d' }) ha h1 ga hua hl, g3]
      have hd3 : (l.set j .undef)[i]? = some d := by rw [List.getElem?_set_ne (fun e => hij e.symm)]; exact hd
      simp only [hd3, Option.map_some, Option.some.injEq]
      congr 1
      have hc : (l.set i D.undef).set j D.undef = (l.set j D.undef).set i D.undef := List.set_comm _ _ hij
      rw [hc]
      refine List.ext_getElem (by simp) fun k k1 k2 => ?_
      simp only [List.getElem_set]
      by_cases q1 : ua = k
      · subst q1
        simp [hne.symm, hat.symm]
      · by_cases q2 : ux = k
        · subst q2
          simp [hne, hxt.symm]
        · simp only [q1, q2, if_false]
          split <;> rfl
    | _ => rw [hget] at e1; cases e1
  · cases h

theorem swap_ok (hom : om = true → ∃ l, ob = some l) {a x : Nat} {oa ox : Oper} (ha : ops[a]? = some oa) (hx : ops[x]? = some ox) (hka : opKind oa.op ≤ 4) (hkx : opKind ox.op ≤ 4) (h : freeB pc om tk ops oa ox = true) (hl : s.ln = []) {sa r : St} (e1 : stepQ C T base ops tk al ob pc a s = some sa) (e2 : stepQ C T base ops tk al ob pc x sa = some r) :
    ∃ sx, stepQ C T base ops tk al ob pc x s = some sx ∧ stepQ C T base ops tk al ob pc a sx = some r := by
  unfold freeB at h
  simp only [Bool.or_eq_true, Bool.and_eq_true] at h
  rcases h with h | ⟨⟨⟨h1, h2⟩, h3⟩, h4⟩
  · exact swap_parts ha hx h hl e1 e2
  · exact swap_free hom ha hx hka hkx h1 h2 h3 h4 hl e1 e2

end Go.PI
