/- One operation; operations in an order. -/
import Derived.Test.YtoaadbakbfphgaaIu
namespace Go.PI
open Go

variable {P : Program} {base : Nat} {G : Gh} {w w' : World} {st : St} {tmps : Array Value} {T : Nat → TI} {C : CallT}

theorem forget_bx (st : St) (c : Pl → Bool) : (st.forget c).bx = st.bx := by unfold St.forget; split <;> rfl
theorem forget_dirty (st : St) (c : Pl → Bool) : (st.forget c).dirty = st.dirty := by unfold St.forget; split <;> rfl
theorem forget_up (st : St) (c : Pl → Bool) : (st.forget c).up = st.up := by unfold St.forget; split <;> rfl

def Ros (G : Gh) (w : World) (ds : List D) (vs : List Value) : Prop := ds.length = vs.length ∧ ∀ i (h : i < ds.length) (h' : i < vs.length), Ro G w ds[i] vs[i] ∧ Flat ds[i]

theorem Ros.app {a b : List D} {x y : List Value} (h : Ros G w a x) (k : Ros G w b y) : Ros G w (a ++ b) (x ++ y) := by
  refine ⟨by simp [h.1, k.1], fun i hi hi' => ?_⟩
  by_cases hl : i < a.length
  · rw [List.getElem_append_left hl, List.getElem_append_left (by rw [← h.1]; exact hl)]
    exact h.2 i hl _
  · have e : x.length = a.length := h.1.symm
    rw [List.getElem_append_right (by omega), List.getElem_append_right (by omega)]
    simp only [e]
    exact k.2 _ _ _

theorem see_fn (r : Rel G w st tmps) {ty : Nat} {x : Operand} {f : Fn} {a c : List D} (h : st.see T ty x = .fn f a c) : ∃ va vc, ev tmps x = .func f va vc ∧ Ros G w a va.toList ∧ Ros G w c vc.toList := by
  rcases see_ok T ty r h (by simp) (by simp) with ⟨l, e, _⟩ | ⟨_, _, κ, hl⟩
  · cases e
  · have ro : Ro G w (.fn f a c) (ev tmps x) := hl
    generalize ev tmps x = u at ro
    cases ro with
    | fn _ _ _ va vc ha hc h1 h2 hf =>
      exact ⟨va, vc, rfl, ⟨by simp [ha], fun i hi hi' => ⟨by simpa using h1 i hi (by simpa using hi'), hf _ (List.mem_append_left _ (List.getElem_mem hi))⟩⟩,
        ⟨by simp [hc], fun i hi hi' => ⟨by simpa using h2 i hi (by simpa using hi'), hf _ (List.mem_append_right _ (List.getElem_mem hi))⟩⟩⟩

theorem ros_step {G' : Gh} (h : Step G w G' w') {ds : List D} {vs : List Value} (r : Ros G w ds vs) : Ros G' w' ds vs :=
  ⟨r.1, fun i hi hi' => ⟨(r.2 i hi hi').1.evo h.evo h.bl, (r.2 i hi hi').2⟩⟩

theorem step_trans' {G1 G2 : Gh} {w1 w2 : World} (h : Step G w G1 w1) (k : Step G1 w1 G2 w2) : Step G w G2 w2 := ⟨h.evo.trans k.evo, fun l b e => k.bl l b (h.bl l b e)⟩

/-- What a call comes to. -/
def Goes (P : Program) (base : Nat) (G : Gh) (w : World) (st : St) (tmps : Array Value) (g : Nat) (vs : Array Value) (d : D) (ps : List Pl) (s : St) : Prop :=
  (∃ fn c, P.funcs[g]? = some fn ∧ fn.body = some c ∧ fn.name ≠ "runtime.NumGoroutine") ∧ ∀ R : Ending → World → Prop,
    (∀ v w' G', Rel G' w' s tmps → Slot G' w' tmps (fun i j => .r i j) d v → Step G w G' w' → Unt base G w w' s.dirty → (∀ p, d.sbors p → p ∈ ps) → Grew base st s → R (.returned v) w') → Calls P g vs w R

theorem callG_ok (hC : CallOk P C) {g : Nat} {args : List D} {vs : Array Value} {d : D} {ps : List Pl} {s : St} (r : Rel G w st tmps) (hbase : base ≤ st.bx.length) (ros : Ros G w args vs.toList) (h : callG C base g args st = some (d, ps, s)) : Goes P base G w st tmps g vs d ps s := by
  unfold callG at h
  split at h
  · rename_i rv bx' dirty up hcall
    simp only [Option.some.injEq, Prod.mk.injEq] at h
    obtain ⟨rfl, rfl, rfl⟩ := h
    obtain ⟨hfn, hcalls⟩ := hC _ _ _ _ _ _ _ hcall
    have hsz : vs.size = args.length := by simpa using ros.1.symm
    have hc := hcalls G.shut w vs (shut_boxes r.bx) hsz (fun i hi hi' => by
      have := ros.2 i hi (by simpa using hi')
      refine ⟨?_, this.2⟩
      have h1 := this.1.keep (shut_keeps G w)
      rwa [Array.getElem_toList] at h1)
    refine ⟨hfn, fun R hR => hc.mono fun e w2 he => ?_⟩
    obtain ⟨v, G', rfl, came, hk⟩ := he
    obtain ⟨r3, v3, q3⟩ := back_rel r came hk rfl
    refine hR v w2 _ ⟨r3.len, r3.slot, r3.ln, r3.bx⟩ v3 q3 (fun loc b hl hb hd => ?_) (fun p hb => absurd hb (hk.bors p))
      ((forget_grew base st _).trans ⟨fun x hx => List.mem_append_right _ hx, fun loc hl hd => ?_, fun h => (by show (_ || _) = true; rw [h]; rfl), ?_, fun k hlow hup loc hl => ?_, rfl⟩)
    · have hlt : loc < st.bx.length := by rw [← r.bx.len]; exact (List.getElem?_eq_some_iff.mp hb).1
      refine came.unt loc b hlt hb fun hx => hd ?_
      exact List.mem_append_left _ (List.mem_filter.mpr ⟨hx, by simpa using hl⟩)
    · simp only [List.mem_append, List.mem_filter, not_or, decide_eq_true_eq] at hd
      rw [forget_bx]
      exact hk.old loc (by omega) fun hx => hd.1 ⟨hx, hl⟩
    · rw [forget_bx]; exact hk.len
    · simp only [Bool.or_eq_false_iff] at hup
      refine hk.low k (fun loc hl => ?_) hup.2 loc hl
      have := hlow hup.1 loc (by rw [forget_bx]; exact hl)
      simpa only [forget_bx] using this
  · cases h

theorem callS_ok (hC : CallOk P C) {g : Nat} {args : List D} {vs : Array Value} {d : D} {ps : List Pl} {s : St} (r : Rel G w st tmps) (hbase : base ≤ st.bx.length) (ros : Ros G w args vs.toList) (h : callS C base g args st = some (d, ps, s)) : Goes P base G w st tmps g vs d ps s := by
  unfold callS at h
  split at h
  · rename_i hlow
    split at h
    · rename_i rv bx' dirty up hcall
      split at h
      · rename_i hrl
        simp only [Option.some.injEq, Prod.mk.injEq] at h
        obtain ⟨rfl, rfl, rfl⟩ := h
        obtain ⟨hfn, hcalls⟩ := hC _ _ _ _ _ _ _ hcall
        have hsz : vs.size = args.length := by simpa using ros.1.symm
        have hc := hcalls G.shutA w vs (shutA_boxes G w) hsz (fun i hi hi' => by
          have := ros.2 i hi (by simpa using hi')
          refine ⟨?_, this.2⟩
          have h1 := (cut_ro (n := 0) this.1 (low_get hlow hi)).keep (shutA_keeps G w)
          rwa [Array.getElem_toList] at h1)
        refine ⟨hfn, fun R hR => hc.mono fun e w2 he => ?_⟩
        obtain ⟨v, G', rfl, came, hk⟩ := he
        obtain ⟨r3, v3, q3, u3⟩ := backA_rel (base := base) r came hk hrl
        exact hR v w2 _ r3 v3 q3 (u3 _) (fun p hb => absurd hb (hk.bors p)) (.refl _ _)
      · exact callG_ok hC r hbase ros h
    · exact callG_ok hC r hbase ros h
  · exact callG_ok hC r hbase ros h

theorem call_ok (hC : CallOk P C) {ds : List Nat} {o : Oper} {c : Call} {d : D} {ps : List Pl} {s : St} (r : Rel G w st tmps) (hbase : base ≤ st.bx.length) (ho : o.op = .call c) (hv : ∀ b, c.callee ≠ .builtin b) (h : opV C T base ds o st = some (d, ps, s)) : Gives P base G w st tmps o d ps s := by
  unfold opV at h
  simp only [ho] at h
  unfold callV at h
  split at h
  · rename_i b e; exact absurd e (hv b)
  · rename_i f hf
    split at h
    · rename_i g first cap hs
      split at h
      · rename_i as s1 hu
        split at h
        · rename_i hsz
          obtain ⟨va, vc, hfv, ra, rc⟩ := see_fn r hs
          obtain ⟨G1, r1, q1, b1, g1, hl, hr⟩ := uses_ok base T _ r hu
          have hlen : as.length = c.args.size := by
            rw [hl]; simp [List.length_zip, hsz]
          have ras : Ros G1 w as (c.args.map (ev tmps)).toList := by
            refine ⟨by simp [hlen], fun i hi hi' => ?_⟩
            have := hr i hi (by rw [← hl]; exact hi)
            refine ⟨by simpa using this.1, this.2⟩
          have rall := ((ros_step q1 ra).app ras).app (ros_step q1 rc)
          have e : va.toList ++ (c.args.map (ev tmps)).toList ++ vc.toList = (va ++ c.args.map (ev tmps) ++ vc).toList := by simp only [← Array.toList_append]
          rw [e] at rall
          have hsl := g1.len
          obtain ⟨⟨fn, code, hfn, hbody, hname⟩, hgo⟩ := callS_ok (base := base) hC r1 (by omega) rall h
          have run : (execOp (ev tmps) o).run P w = .ok (.enter g (va ++ c.args.map (ev tmps) ++ vc)) w := by
            simp [execOp, ho, resolve, hf, hfv, Deferred.ofValue, invoke, callFunc, hfn, hbody, hname]
          refine ⟨fun next Q hn => ?_⟩
          unfold Oper.wp
          rw [eval_eq, run, Oper.upon_enter]
          refine hgo _ fun v w' G' a1 a2 a3 a4 a5 a6 => ?_
          exact hn v w' G' a1 a2 (step_trans' q1 a3) (fun loc b hl hb hx => a4 loc b hl (by rw [b1]; exact hb) hx) a5 (g1.trans a6)
        · cases h
      · cases h
    · cases h
  · cases h

theorem opV_ok (tk : TOk P T) (hC : CallOk P C) {ds : List Nat} {o : Oper} {d : D} {ps : List Pl} {s : St} (r : Rel G w st tmps) (hbase : base ≤ st.bx.length) (h : opV C T base ds o st = some (d, ps, s)) : Gives P base G w st tmps o d ps s := by
  cases ho : o.op with
  | move x => exact (move_ok r ho h).gives
  | assign x => exact (assign_ok r ho h).gives
  | pick c a b => exact (pick_ok r ho h).gives
  | box ty x => exact (box_ok hbase r ho h).gives
  | load ty a => exact (load_ok tk r ho h).gives
  | fieldAddr sT x f => exact (fieldAddr_ok tk r ho h).gives
  | field ty x f => exact (field_ok tk r ho h).gives
  | indexAddr ty x i => exact (indexAddr_ok tk r ho h).gives
  | index ty x i => exact (index_ok tk r ho h).gives
  | slice ty x lo hi mx => exact (slice_ok tk r ho h).gives
  | makeSlice ty len cap => exact (makeSlice_ok tk r ho h).gives
  | buildSlice ty len parts => exact (buildSlice_ok tk r ho h).gives
  | build ty parts => exact (build_ok tk r ho h).gives
  | extract x i => exact (extract_ok r ho h).gives
  | makeFunc fn first cap => exact (makeFunc_ok r ho h).gives
  | binOp op ty x y yt => exact (binOp_ok tk r ho h).gives
  | unOp op ty x => exact (unOp_ok r ho h).gives
  | convert src dst x => exact (convert_ok tk r ho h).gives
  | nilCheck x => exact (nilCheck_ok r ho h).gives
  | call c =>
    by_cases hb : ∃ b, c.callee = .builtin b
    · obtain ⟨b, hb⟩ := hb
      have h' := h
      unfold opV at h'
      simp only [ho] at h'
      unfold callV at h'
      simp only [hb] at h'
      generalize ha : c.args.toList = as at h'
      generalize ht : c.argTypes.toList = ts at h'
      unfold builtinV at h'
      split at h'
      · exact (len_ok tk r ho hb ha ht h').gives
      · exact (minmax_ok (tys := []) r ho ha (.inl ⟨hb, h'⟩)).gives
      · exact (minmax_ok (tys := []) r ho ha (.inr ⟨hb, h'⟩)).gives
      · exact (append_ok tk r ho hb ha ht h').gives
      · cases h'
    · exact call_ok hC r hbase ho (fun b e => hb ⟨b, e⟩) h
  | _ =>
    exfalso
    unfold opV at h
    simp only [ho] at h
    cases h

/-- An operation, whatever the world behind it. -/
structure Does (P : Program) (base : Nat) (G : Gh) (w : World) (st : St) (tmps : Array Value) (o : Oper) (st1 : St) : Prop where
  ex : ∀ (next : Act → World → Prop) (Q : Exit → Act → World → Prop), (∀ tmps1 w' G', Rel G' w' st1 tmps1 → Step G w G' w' → Unt base G w w' st1.dirty → Grew base st st1 → next ⟨tmps1, []⟩ w') → o.wp P ⟨tmps, []⟩ w next Q

theorem step_trans {G1 G2 : Gh} {w1 w2 : World} (h : Step G w G1 w1) (k : Step G1 w1 G2 w2) : Step G w G2 w2 := ⟨h.evo.trans k.evo, fun l b e => k.bl l b (h.bl l b e)⟩

theorem Gives.does {o : Oper} {d : D} {ps : List Pl} {s s1 : St} (h : Gives P base G w st tmps o d ps s)
    (hs : (match o.dst with | some t => if ps.any (Pl.inSlot t) then none else let s := s.set t d; some { s with ln := ps.map (t, ·) ++ s.ln } | none => some s) = some s1) : Does P base G w st tmps o s1 := by
  cases hd : o.dst with
  | none =>
    simp only [hd, Option.some.injEq] at hs
    subst hs
    refine ⟨fun next Q hn => h.ex next Q fun v w' G' h1 h2 h3 h4 h5 h6 => ?_⟩
    simp only [hd, Act.put]
    exact hn _ _ _ h1 h3 h4 h6
  | some t =>
    simp only [hd] at hs
    split at hs
    · cases hs
    · rename_i hp
      simp only [Option.some.injEq] at hs
      subst hs
      refine ⟨fun next Q hn => h.ex next Q fun v w' G' h1 h2 h3 h4 h5 h6 => ?_⟩
      simp only [hd, Act.put]
      refine hn _ _ _ (set_ok h1 h2 h5 (by simpa using hp)) (step_trans h3 (step_land G' w' t)) (fun loc b hl hb hx => h4 loc b hl hb fun hy => hx ?_) (h6.trans (set_grew base s t d _))
      simp only [St.set, forget_dirty]
      exact hy

theorem setO_ok (r : Rel G w st tmps) (dst : Option Nat) {d : D} {v : Value} (hv : Slot G w tmps (fun i j => .r i j) d v) (hb : ∀ p, ¬ d.sbors p) :
    ∃ G', Rel G' w (st.setO dst d) (Act.put ⟨tmps, []⟩ dst v).tmps ∧ Step G w G' w := by
  cases dst with
  | none => exact ⟨G, r, step_refl _ _⟩
  | some t =>
    have := set_ok r (ps := []) (t := t) hv (fun p h => absurd h (hb p)) rfl
    exact ⟨_, this, step_land G w t⟩

theorem setO_grew (base : Nat) (st : St) (dst : Option Nat) (d : D) : Grew base st (st.setO dst d) := by
  cases dst with
  | none => exact .refl _ _
  | some t => exact set_grew base st t d _

theorem setO_dirty (st : St) (dst : Option Nat) (d : D) : (st.setO dst d).dirty = st.dirty := by
  cases dst with
  | none => rfl
  | some t => simp only [St.setO, St.set, forget_dirty]

theorem put_defers (tmps : Array Value) (dst : Option Nat) (v : Value) : Act.put ⟨tmps, []⟩ dst v = ⟨(Act.put ⟨tmps, []⟩ dst v).tmps, []⟩ := by
  cases dst <;> rfl

theorem Done.does {o : Oper} {s : St} (h : Done P base G w st tmps o s) : Does P base G w st tmps o (s.setO o.dst .undef) := by
  obtain ⟨⟨w', G', h1, h2, h3, h4⟩, h5⟩ := h
  refine ⟨fun next Q hn => ?_⟩
  unfold Oper.wp
  rw [eval_eq, h1, Oper.upon_skip, put_defers]
  obtain ⟨G2, k1, k2⟩ := setO_ok h2 o.dst (d := .undef) (v := undef) trivial (fun p hb => hb)
  exact hn _ _ _ k1 (step_trans h3 k2) (fun loc b hl hb hx => h4 loc b hl hb (by rwa [setO_dirty] at hx)) (h5.trans (setO_grew _ _ _ _))

theorem opF_ok (tk : TOk P T) (hC : CallOk P C) {ds : List Nat} {al : Nat} {o : Oper} {s : St} (r : Rel G w st tmps) (hbase : base ≤ st.bx.length) (hal : base ≤ al) (h : opF C T base ds al o st = some s) : Does P base G w st tmps o s := by
  have val : ∀ {s}, (match opV C T base ds o st with
      | some (d, ps, s) => (match o.dst with
        | some t => if ps.any (Pl.inSlot t) then none else let s := s.set t d; some { s with ln := ps.map (t, ·) ++ s.ln }
        | none => some s)
      | none => none) = some s → Does P base G w st tmps o s := by
    intro s h
    split at h
    · rename_i d ps s' hv
      exact (opV_ok tk hC r hbase hv).does h
    · cases h
  unfold opF at h
  split at h
  · rename_i ty a x ho
    split at h
    · rename_i loc off hs
      split at h
      · rename_i d s0 ht
        split at h
        · rename_i hc
          simp only [Option.map_eq_some_iff] at h
          obtain ⟨s1, h1, rfl⟩ := h
          exact (store_ok tk r ho hs ht hc h1).does
        · cases h
      · cases h
    · rename_i p n i off hs
      split at h
      · rename_i d s0 ht
        split at h
        · rename_i m l hp
          split at h
          · rename_i hc
            obtain ⟨rfl, hc⟩ := hc
            simp only [Option.some.injEq] at h
            subst h
            exact (eastore_ok tk r ho hs ht hp hc).does
          · cases h
        · cases h
      · cases h
    · cases h
  · rename_i ty ho
    split at h
    · rename_i x z hz hx
      simp only [Option.some.injEq] at h
      subst h
      have := (alloc_ok tk r ho hz hx hal).gives.does (s1 := St.setO { st with bx := st.bx.set al (x :: z) } o.dst (.ptr al 0)) (by cases o.dst <;> rfl)
      exact this
    · cases h
  · exact val h

theorem get_of {t : Nat} {d : D} (h : st.get t = d) (hd : d ≠ .undef) : ∃ ht : t < st.tm.length, st.tm[t] = d := by
  rcases Nat.lt_or_ge t st.tm.length with ht | ht
  · exact ⟨ht, by rw [← St.get_lt ht]; exact h⟩
  · refine absurd ?_ hd
    rw [← h]
    simp [St.get, List.getD, List.getElem?_eq_none ht]

theorem wanted_ok {ops : Array Oper} {o : Oper} {b : Bool} (r : Rel G w st tmps) (h : wantedD ops.toList o st = some b) : Region.wanted o (yielded ops tmps) = b := by
  unfold wantedD at h
  unfold Region.wanted
  split at h
  · rename_i hg
    cases h
    simp [hg]
  · rename_i j want hg
    simp only [hg]
    unfold yielded
    have ej : ops.toList[j]? = ops[j]? := by simp
    rw [ej] at h
    generalize ((ops[j]?).bind (·.dst)) = od at h
    cases od with
    | none => cases h; rfl
    | some t =>
      simp only at h
      split at h
      · rename_i c hc
        cases h
        obtain ⟨ht, e⟩ := get_of hc (by simp)
        have ht2 : t < tmps.size := by rw [← r.len]; exact ht
        have hs := r.slot t ht ht2
        rw [e] at hs
        have ro : Ro G w (.bool c) tmps[t] := hs
        generalize hv : tmps[t] = v at ro
        cases ro
        simp [ht2, hv]
      · rename_i hc
        cases h
        obtain ⟨ht, e⟩ := get_of hc (by simp)
        have ht2 : t < tmps.size := by rw [← r.len]; exact ht
        have hs := r.slot t ht ht2
        rw [e] at hs
        obtain ⟨_, vs, hv, _⟩ := hs
        simp [ht2, hv]
      · cases h

theorem unt_trans {G1 : Gh} {w1 w2 : World} {d1 d2 : List Nat} (h : Unt base G w w1 d1) (s : Step G w G1 w1) (k : Unt base G1 w1 w2 d2) (hd : ∀ x ∈ d1, x ∈ d2) : Unt base G w w2 d2 :=
  fun loc b hl hb hx => (k loc b hl (s.bl loc b hb) hx).trans (h loc b hl hb fun hy => hx (hd _ hy))

theorem opsF_ok (tko : TOk P T) (hC : CallOk P C) {ops : Array Oper} {tk : List Nat} {al : Nat} (hal : base ≤ al) (Q : Exit → Act → World → Prop) : ∀ (l : List Nat) {G : Gh} {w : World} {st s : St} {tmps : Array Value}, Rel G w st tmps → base ≤ st.bx.length → opsF C T base ops.toList tk al l st = some s →
    (∀ tmps1 w' G', Rel G' w' s tmps1 → Step G w G' w' → Unt base G w w' s.dirty → Grew base st s → Q .normal ⟨tmps1, []⟩ w') → wpOps P ops Q l ⟨tmps, []⟩ w
  | [], G, w, st, s, tmps, r, _, h, hq => by
    cases h
    exact hq _ _ _ r (step_refl _ _) (unt_refl _ _ _ _) (.refl _ _)
  | i :: l, G, w, st, s, tmps, r, hbase, h, hq => by
    simp only [opsF] at h
    split at h
    · cases h
    · rename_i o ho
      have ho' : ops[i]? = some o := by simpa using ho
      split at h
      · rename_i hw
        split at h
        · rename_i s1 h1
          simp only [wpOps, ho', wanted_ok r hw, if_true]
          refine .inl ((opF_ok tko hC r hbase (by omega) h1).ex _ _ fun tmps1 w1 G1 k1 k2 k3 k4 => ?_)
          have hlen := k4.len
          exact opsF_ok tko hC hal Q l k1 (by omega) h fun tmps2 w2 G2 j1 j2 j3 j4 => hq _ _ _ j1 (step_trans k2 j2) (unt_trans k3 k2 j3 j4.dirty) (k4.trans j4)
        · cases h
      · rename_i hw
        have hg := setO_grew base st o.dst (.tup [])
        obtain ⟨G1, k1, k2⟩ := setO_ok r o.dst (d := .tup []) (v := undef) ⟨fun p hb => by obtain ⟨e, he, _⟩ := hb; simp at he, #[], rfl, rfl, fun i h => by simp at h⟩ (fun p hb => by obtain ⟨e, he, _⟩ := hb; simp at he)
        simp only [wpOps, ho', wanted_ok r hw, Bool.false_eq_true, if_false]
        rw [put_defers]
        have hlen := hg.len
        exact opsF_ok tko hC hal Q l k1 (by omega) h fun tmps2 w2 G2 j1 j2 j3 j4 => hq _ _ _ j1 (step_trans k2 j2) (unt_trans (unt_refl base G w []) k2 j3 (by simp)) (hg.trans j4)
      · cases h

end Go.PI
