/- Steps of open regions change places: the step. -/
import Derived.Test.YtoaadbakbfphgaaJd
namespace Go.PI
open Go

variable {C : CallT} {T : Nat → TI} {base al : Nat} {ob : Option (List Nat)} {ds : List Nat} {o : Oper} {s s2 s1 : St} {d : D} {ps : List Pl}

/-- What a step did, at one state and at one that agrees with it. -/
structure Eff (ob : Option (List Nat)) (k : Nat) (W : List Nat) (s s1 s2 s3 : St) : Prop where
  ln1 : s1.ln = []
  ln3 : s3.ln = []
  ag : ∀ t ∈ W, s1.get t = s3.get t
  l1 : s1.tm.length = s.tm.length
  l3 : s3.tm.length = s2.tm.length
  o1 : ∀ t, t ∉ W → s1.get t = s.get t
  o3 : ∀ t, t ∉ W → s3.get t = s2.get t
  m2 : k ≤ 2 → s1.mem = s.mem ∧ s3.mem = s2.mem
  m3 : k = 3 → (s1.mem = s.mem ∧ s3.mem = s2.mem) ∨ ∃ al z, z ≠ [] ∧ s.bx[al]? = some [] ∧ s1.mem = (s.bx.set al z, s.dirty, s.up) ∧ s3.mem = (s2.bx.set al z, s2.dirty, s2.up)
  m4 : k = 4 → s1.mem = s3.mem
  m5 : k = 4 → ∀ l, ob = some l → ∀ loc, loc ∉ l → s3.box loc = s2.box loc

/-- What the other state must share of the boxes. -/
structure Cond (T : Nat → TI) (o : Oper) (pc : Bool) (s s2 : St) : Prop where
  call : opKind o.op = 1 → pc = false → s2.mem = s.mem
  load : ∀ ty x loc off, o.op = .load ty x → s.see T ty x = .ptr loc off → s.box loc ≠ [] → s2.box loc = s.box loc
  alloc : opKind o.op = 3 → ∀ al : Nat, s.bx[al]? = some [] → s2.bx[al]? = some []
  store : opKind o.op = 4 → s2.mem = s.mem

theorem only_set {s : St} (t : Nat) (d : D) (hl : s.ln = []) : Only [t] s (s.set t d) ∧ (s.set t d).ln = [] ∧ (t < s.tm.length → (s.set t d).get t = d) ∧ (¬ t < s.tm.length → (s.set t d).get t = .undef) := by
  have e : s.set t d = { s with tm := s.tm.set t d } := by
    unfold St.set St.forget
    rw [hl]
    cases s
    simp_all
  rw [e]
  refine ⟨⟨by simp, rfl, rfl, rfl, rfl, fun u hu => ?_⟩, hl, fun h => by rw [get_set h, if_pos rfl], fun h => ?_⟩
  · by_cases h : t < s.tm.length
    · rw [get_set h, if_neg (by simpa using hu)]
    · simp [List.set_eq_of_length_le (Nat.le_of_not_lt h)]
  · rw [List.set_eq_of_length_le (Nat.le_of_not_lt h)]
    exact get_out h

theorem only_setO {s : St} (t : Option Nat) (d : D) (hl : s.ln = []) : Only t.toList s (s.setO t d) ∧ (s.setO t d).ln = [] := by
  cases t with
  | none => exact ⟨.refl _ _, hl⟩
  | some t => exact ⟨(only_set t d hl).1, (only_set t d hl).2.1⟩

theorem setO_get {s s2 : St} (o : Option Nat) (d : D) (hl : s.ln = []) (hl2 : s2.ln = []) (h : s.tm.length = s2.tm.length) : ∀ t ∈ o.toList, (s.setO o d).get t = (s2.setO o d).get t := by
  cases o with
  | none => simp
  | some u =>
    intro t ht
    simp only [Option.toList, List.mem_singleton] at ht
    subst ht
    by_cases hu : t < s.tm.length
    · exact ((only_set t d hl).2.2.1 hu).trans ((only_set t d hl2).2.2.1 (by omega)).symm
    · exact ((only_set t d hl).2.2.2 hu).trans ((only_set t d hl2).2.2.2 (by omega)).symm

theorem Only.mem {W : List Nat} {a b : St} (h : Only W a b) : b.mem = a.mem := by simp [St.mem, h.bx, h.dirty, h.up]

/-- Operations of the common kind. -/
theorem opF_cg2 {pc : Bool} (hk : opKind o.op ≤ 2) (hl : s.ln = []) (hl2 : s2.ln = []) (hp : pc = true → pureCall C T base o s = true) (hd : Cond T o pc s s2) (hq1 : s1.ln = []) (hq : s1.mem = s.mem)
    (ha : Ag (opRd o.op) s s2) (hn : NB (opRd o.op) s) (h : opF C T base ds al o s = some s1) :
    ∃ s3, opF C T base ds al o s2 = some s3 ∧ Eff ob (opKind o.op) (o.dst.toList ++ opWr ds o.op) s s1 s2 s3 := by
  have hV : ∀ s, opF C T base ds al o s = match opV C T base ds o s with
    | some (d, ps, s) => match o.dst with
      | some t => if ps.any (Pl.inSlot t) then none else some { s.set t d with ln := ps.map (t, ·) ++ (s.set t d).ln }
      | none => some s
    | none => none := by
    intro s
    unfold opF
    cases ho : o.op <;> first | rfl | (rw [ho] at hk; simp [opKind] at hk)
  rw [hV] at h ⊢
  split at h
  · rename_i d ps a hv
    have main : a.mem = s.mem → Vg C T base ds o s s2 a d ps := fun hm => opV_cg hk hl hl2 hp hd.call hd.load hm ha hn hv
    cases hdst : o.dst with
    | none =>
      simp only [hdst, Option.some.injEq] at h
      subst h
      obtain ⟨s3, e, h1, h2, h3⟩ := main hq
      rw [e]
      exact ⟨s3, rfl, hq1, h3.ln.trans hl2, fun t ht => h1 t (wr_rd t (by simpa using ht)), h2.len, h3.len, fun t ht => h2.get t (by simpa using ht), fun t ht => h3.get t (by simpa using ht), fun _ => ⟨h2.mem, h3.mem⟩, by omega, by omega, by omega⟩
    | some t =>
      simp only [hdst] at h
      split at h
      · cases h
      · rename_i hany
        simp only [Option.some.injEq] at h
        subst h
        have hps : ps = [] := by
          simp only [List.append_eq_nil_iff, List.map_eq_nil_iff] at hq1
          exact hq1.1
        subst hps
        have hmem : (a.set t d).mem = a.mem := by
          unfold St.set St.forget St.mem
          split <;> rfl
        obtain ⟨s3, e, h1, h2, h3⟩ := main (by rw [← hmem]; exact hq)
        have hla : a.ln = [] := h2.ln.trans hl
        have hl3 : s3.ln = [] := h3.ln.trans hl2
        obtain ⟨p1, p2, p3, p4⟩ := only_set t d hla
        obtain ⟨q1, q2, q3, q4⟩ := only_set t d hl3
        have hlen : a.tm.length = s3.tm.length := by rw [h2.len, h3.len]; exact ha.1
        have hsame : ∀ x : St, x.ln = [] → ({ x with ln := ([] : List Pl).map (t, ·) ++ x.ln } : St) = x := fun x hx => by cases x; simp_all
        rw [e]
        simp only [hsame _ p2, hsame _ q2, List.any_nil, Bool.false_eq_true, if_false]
        refine ⟨_, rfl, p2, q2, fun u hu => ?_, p1.len.trans h2.len, q1.len.trans h3.len, fun u hu => ?_, fun u hu => ?_, fun _ => ⟨p1.mem.trans h2.mem, q1.mem.trans h3.mem⟩, by omega, by omega, by omega⟩
        · by_cases hut : u = t
          · subst hut
            by_cases hlt : u < a.tm.length
            · rw [p3 hlt, q3 (by omega)]
            · rw [p4 hlt, q4 (by omega)]
          · rw [p1.get u (by simpa using hut), q1.get u (by simpa using hut)]
            refine h1 u (wr_rd (ds := ds) u ?_)
            simpa [hut] using hu
        · simp only [Option.toList, List.mem_append, List.mem_singleton, not_or] at hu
          rw [p1.get u (by simpa using hu.1)]
          exact h2.get u hu.2
        · simp only [Option.toList, List.mem_append, List.mem_singleton, not_or] at hu
          rw [q1.get u (by simpa using hu.1)]
          exact h3.get u hu.2
  · cases h

theorem opF_cg3 {ty : Nat} (ho : o.op = .alloc ty) {pc : Bool} (hl : s.ln = []) (hl2 : s2.ln = []) (hlen : s.tm.length = s2.tm.length) (hd : Cond T o pc s s2) (h : opF C T base ds al o s = some s1) :
    ∃ s3, opF C T base ds al o s2 = some s3 ∧ Eff ob (opKind o.op) (o.dst.toList ++ opWr ds o.op) s s1 s2 s3 := by
  have hk : opKind o.op = 3 := by rw [ho]; rfl
  have hw : opWr ds o.op = [] := by rw [ho]; rfl
  have hd3 := hd.alloc hk
  rw [hk, hw, List.append_nil]
  unfold opF at h ⊢
  simp only [ho] at h ⊢
  split at h
  · rename_i x z hz hb
    rw [hz, hd3 al hb]
    simp only [Option.some.injEq] at h ⊢
    subst h
    obtain ⟨p1, p2⟩ := only_setO (s := { s with bx := s.bx.set al (x :: z) }) o.dst (.ptr al 0) hl
    obtain ⟨q1, q2⟩ := only_setO (s := { s2 with bx := s2.bx.set al (x :: z) }) o.dst (.ptr al 0) hl2
    exact ⟨_, rfl, p2, q2, setO_get (s := { s with bx := s.bx.set al (x :: z) }) (s2 := { s2 with bx := s2.bx.set al (x :: z) }) _ _ hl hl2 hlen, p1.len, q1.len, p1.get, q1.get, by omega, fun _ => .inr ⟨al, x :: z, by simp, hb, p1.mem, q1.mem⟩, by omega, by omega⟩
  · cases h

theorem box_of_set {y s2 : St} {bx : List (List D)} {loc loc' : Nat} {z : List D} (h : y.bx = bx.set loc z) (hne : loc ≠ loc') (e : bx = s2.bx) : y.box loc' = s2.box loc' := by
  simp only [St.box, h, e, List.getD_eq_getElem?_getD, List.getElem?_set_ne hne]

theorem opF_cg4 {ty : Nat} {a x : Operand} (ho : o.op = .store ty a x) {pc : Bool} (hout : outOk T ob o s = true) (hl : s.ln = []) (hl2 : s2.ln = []) (hd : Cond T o pc s s2) (ha : Ag (opRd o.op) s s2) (hn : NB (opRd o.op) s) (h : opF C T base ds al o s = some s1) :
    ∃ s3, opF C T base ds al o s2 = some s3 ∧ Eff ob (opKind o.op) (o.dst.toList ++ opWr ds o.op) s s1 s2 s3 := by
  have hk : opKind o.op = 4 := by rw [ho]; rfl
  have hw : opWr ds o.op = tmpsL [x] := by rw [ho]; rfl
  have hr : opRd o.op = tmpsL [a, x] := by rw [ho]; rfl
  have hm := hd.store hk
  rw [hk, hw]
  rw [hr] at ha hn
  obtain ⟨e1, _, _⟩ := see_cg T 0 a (fun t ht => tmpsL_cons.mpr (.inl ht)) ha hn
  unfold opF at h ⊢
  simp only [ho] at h ⊢
  rw [e1]
  split at h
  · rename_i loc off hs
    split at h
    · rename_i d b ht
      obtain ⟨s3, f1, f2, f3, f4, f5⟩ := take_cg (X := tmpsL [a, x]) (W := tmpsL [x]) base T ty x (fun t ht => ⟨tmpsL_cons.mpr (.inr (tmpsL_cons.mpr (.inl ht))), tmpsL_cons.mpr (.inl ht)⟩) s s2 _ _ ha hn ht
      simp only at f1
      simp only [f1]
      split at h
      · rename_i hc
        rw [if_pos hc]
        simp only [Option.map_eq_some_iff] at h ⊢
        obtain ⟨c, h1, h2⟩ := h
        have m1 : b.mem = s.mem := f4.mem
        have m2 : s3.mem = s.mem := f5.mem.trans hm
        have fg : ∀ (s : St) (q : Pl → Bool), s.ln = [] → s.forget q = s := by
          intro s q h
          unfold St.forget
          rw [h]
        have lb : b.ln = [] := f4.ln.trans hl
        have l3 : s3.ln = [] := f5.ln.trans hl2
        have b1 : s3.bx = b.bx := by have := m2.trans m1.symm; simp only [St.mem, Prod.mk.injEq] at this; exact this.1
        have b2 : s3.dirty = b.dirty := by have := m2.trans m1.symm; simp only [St.mem, Prod.mk.injEq] at this; exact this.2.1
        have b3 : s3.up = b.up := by have := m2.trans m1.symm; simp only [St.mem, Prod.mk.injEq] at this; exact this.2.2
        have hb : s3.box loc = b.box loc := by simp only [St.box, b1]
        unfold St.store at h1 ⊢
        simp only [fg _ _ lb, fg _ _ l3] at h1 ⊢
        rw [hb, b1, b2, b3]
        split at h1
        · rename_i hc2
          simp only [Option.some.injEq] at h1
          subst h1
          rw [if_pos hc2]
          simp only [Option.some.injEq, exists_eq_left']
          obtain ⟨p1, p2⟩ := only_setO (s := { b with bx := b.bx.set loc ((b.box loc).take off ++ d.cells ++ (b.box loc).drop (off + d.cells.length)), dirty := if loc < base then loc :: b.dirty else b.dirty, up := b.up || !lowL (loc + 1) d.cells }) o.dst .undef lb
          obtain ⟨q1, q2⟩ := only_setO (s := { s3 with bx := b.bx.set loc ((b.box loc).take off ++ d.cells ++ (b.box loc).drop (off + d.cells.length)), dirty := if loc < base then loc :: b.dirty else b.dirty, up := b.up || !lowL (loc + 1) d.cells }) o.dst .undef l3
          have hlen : b.tm.length = s3.tm.length := by rw [f4.len, f5.len]; exact ha.1
          have hg := setO_get (s := { b with bx := b.bx.set loc ((b.box loc).take off ++ d.cells ++ (b.box loc).drop (off + d.cells.length)), dirty := if loc < base then loc :: b.dirty else b.dirty, up := b.up || !lowL (loc + 1) d.cells }) (s2 := { s3 with bx := b.bx.set loc ((b.box loc).take off ++ d.cells ++ (b.box loc).drop (off + d.cells.length)), dirty := if loc < base then loc :: b.dirty else b.dirty, up := b.up || !lowL (loc + 1) d.cells }) o.dst .undef lb l3 hlen
          rw [← h2]
          refine ⟨p2, q2, fun u hu => ?_, p1.len.trans f4.len, q1.len.trans f5.len, fun u hu => ?_, fun u hu => ?_, by omega, by omega, fun _ => ?_, fun _ l hl loc' hloc => ?_⟩
          · by_cases hud : u ∈ o.dst.toList
            · exact hg u hud
            · rw [p1.get u hud, q1.get u hud]
              refine f2.2 u ?_
              rcases List.mem_append.mp hu with hu | hu
              · exact absurd hu hud
              · exact tmpsL_cons.mpr (.inr hu)
          · simp only [List.mem_append, not_or] at hu
            rw [p1.get u hu.1]
            exact f4.get u hu.2
          · simp only [List.mem_append, not_or] at hu
            rw [q1.get u hu.1]
            exact f5.get u hu.2
          · rw [p1.mem, q1.mem]
            rfl
          · have hin : loc ∈ l := by
              simp only [outOk, hl, ho, hs] at hout
              simpa using hout
            have hne : loc ≠ loc' := fun e => hloc (e ▸ hin)
            have e6 : b.bx = s2.bx := b1.symm.trans f5.bx
            exact box_of_set q1.bx hne e6
        · cases h1
      · cases h
    · cases h
  · rename_i p n i off hs
    exfalso
    cases a with
    | tmp t =>
      have hb := hn t (tmpsL_cons.mpr (.inl rfl))
      simp only [St.see, St.raw] at hs
      revert hs hb
      cases s.get t <;> simp [D.nb, D.nbl]
    | const v =>
      obtain ⟨hc, hl⟩ := constD_plain T 0 v
      simp only [St.see, St.raw] at hs
      revert hs hc
      cases constD T 0 v <;> simp [D.nbl]
    | func f => cases hs
    | global g => cases hs
  · cases h

/-- A step. -/
theorem stepQ_cg {ops : List Oper} {tk : List Nat} {pc : Bool} {i : Nat} (hi : ops[i]? = some o) (hk : opKind o.op ≤ 4) (hl : s.ln = []) (hl2 : s2.ln = []) (ha : Ag (footR ops o) s s2) (hd : Cond T o pc s s2) (h : stepQ C T base ops tk al ob pc i s = some s1) :
    ∃ s3, stepQ C T base ops tk al ob pc i s2 = some s3 ∧ Eff ob (opKind o.op) (footW tk ops o) s s1 s2 s3 := by
  unfold stepQ at h ⊢
  simp only [hi] at h ⊢
  split at h
  · rename_i hall0
    obtain ⟨hall, hout⟩ := hall0
    have hn : NB (footR ops o) s := by
      intro t ht
      exact List.all_eq_true.mp hall t ht
    have hn2 : ((footR ops o).all fun t => (s2.get t).nb) = true := by
      rw [List.all_eq_true]
      intro t ht
      rw [← ha.2 t ht]
      exact hn t ht
    have hout2 : outOk T ob o s2 = true := by
      unfold outOk at hout ⊢
      split
      · rfl
      · rename_i l
        simp only at hout
        have haR : Ag (opRd o.op) s s2 := ⟨ha.1, fun t ht => ha.2 t (List.mem_append.mpr (.inr ht))⟩
        have hnR : NB (opRd o.op) s := fun t ht => hn t (List.mem_append.mpr (.inr ht))
        split
        · rename_i ty a ho
          rw [ho] at haR hnR
          rw [(see_cg T ty a (fun t ht => tmpsL_cons.mpr (.inl ht)) haR hnR).1]
          simpa only [ho] using hout
        · rename_i ty a x ho
          rw [ho] at haR hnR
          rw [(see_cg T 0 a (fun t ht => tmpsL_cons.mpr (.inl ht)) haR hnR).1]
          simpa only [ho] using hout
        · rfl
    rw [if_pos ⟨hn2, hout2⟩]
    have haR : Ag (opRd o.op) s s2 := ⟨ha.1, fun t ht => ha.2 t (List.mem_append.mpr (.inr ht))⟩
    have hnR : NB (opRd o.op) s := fun t ht => hn t (List.mem_append.mpr (.inr ht))
    have hw : wantedD ops o s2 = wantedD ops o s := by
      unfold wantedD
      split
      · rfl
      · rename_i j want hg
        split
        · rename_i t ht
          rw [ha.2 t (List.mem_append.mpr (.inl (by simp only [guardRd, hg, ht, Option.toList, List.mem_singleton])))]
        · rfl
    rw [hw]
    split at h
    · rename_i hwt
      split at h
      · rename_i hp
        split at h
        · rename_i s' hop
          split at h
          · rename_i hq
            simp only [Option.some.injEq] at h
            subst h
            have fin : ∃ s3, opF C T base (ownOf ops ++ tk) (al + allocsOf (ops.take i)) o s2 = some s3 ∧ Eff ob (opKind o.op) (footW tk ops o) s s' s2 s3 := by
              by_cases h2 : opKind o.op ≤ 2
              · have := hq.2 h2
                exact opF_cg2 h2 hl hl2 hp hd hq.1 (by simp [St.mem, this]) haR hnR hop
              · cases ho : o.op with
                | alloc ty => rw [← ho]; exact opF_cg3 ho hl hl2 ha.1 hd hop
                | store ty a x => rw [← ho]; exact opF_cg4 ho hout hl hl2 hd haR hnR hop
                | call c =>
                  exfalso
                  rw [ho] at h2 hk
                  cases hf : c.callee <;> simp [opKind, hf] at h2 hk
                | _ => exfalso; rw [ho] at h2 hk; simp [opKind] at h2 hk
            obtain ⟨s3, h3, he⟩ := fin
            have hp2 : pc = true → pureCall C T base o s2 = true := by
              intro hpc
              have hp := hp hpc
              unfold pureCall at hp ⊢
              split
              · rename_i c ho
                rw [ho] at haR hnR
                simp only [ho] at hp
                split
                · rename_i f hf
                  simp only [hf] at hp
                  simp only [opRd, hf] at haR hnR
                  rw [(see_cg T 0 f (fun k hk => List.mem_append.mpr (.inl (tmpsL_cons.mpr (.inl hk)))) haR hnR).1]
                  split
                  · rename_i g first cap hs
                    simp only [hs] at hp
                    split at hp
                    · rename_i vs a hu
                      obtain ⟨s4, f1, _⟩ := uses_cg base T (c.args.toList.zip c.argTypes.toList) (X := tmpsL [f] ++ tmpsL c.args.toList) (W := tmpsL c.args.toList) (fun t ht => ⟨List.mem_append.mpr (.inr (args_mem _ _ _ ht)), args_mem _ _ _ ht⟩) s s2 _ _ haR hnR hu
                      simp only at f1
                      simp only [f1]
                      exact hp
                    · cases hp
                  · rename_i hs
                    split at hp
                    · rename_i g first cap hs'
                      exact absurd hs' (hs g first cap)
                    · cases hp
                · rfl
              · rfl
            refine ⟨s3, ?_, he⟩
            simp only [if_pos hp2, h3]
            rw [if_pos]
            exact ⟨he.ln3, fun h2 => by have := (he.m2 h2).2; simp only [St.mem, Prod.mk.injEq] at this; exact this⟩
          · cases h
        · cases h
      · cases h
    · rename_i hwt
      simp only [Option.some.injEq] at h
      subst h
      obtain ⟨p1, p2⟩ := only_setO o.dst (.tup []) hl
      obtain ⟨q1, q2⟩ := only_setO o.dst (.tup []) hl2
      have sub : ∀ t, t ∉ footW tk ops o → t ∉ o.dst.toList := fun t ht h => ht (List.mem_append.mpr (.inl h))
      refine ⟨_, rfl, p2, q2, fun t ht => ?_, p1.len, q1.len, fun t ht => p1.get t (sub t ht), fun t ht => q1.get t (sub t ht), fun _ => ⟨p1.mem, q1.mem⟩, fun _ => .inl ⟨p1.mem, q1.mem⟩, fun h4 => by rw [p1.mem, q1.mem, hd.store h4], fun _ _ _ loc _ => by simp only [St.box, q1.bx]⟩
      by_cases hd : t ∈ o.dst.toList
      · exact setO_get _ _ hl hl2 ha.1 t hd
      · rw [p1.get t hd, q1.get t hd]
        rcases List.mem_append.mp ht with h | h
        · exact absurd h hd
        · exact haR.2 t (wr_rd t h)
    · cases h
  · cases h

end Go.PI
