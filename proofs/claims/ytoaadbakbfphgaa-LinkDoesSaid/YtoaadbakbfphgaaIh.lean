/- What single operations do: those that leave memory as it is. -/
import Derived.Test.YtoaadbakbfphgaaIg
import Derived.Laws.Sem
import Derived.Laws.Cells
import Derived.Laws.Rows
import Derived.Laws.Slices
import Derived.Laws.MakeOwn
import Derived.Laws.AppendOwn
import Derived.Laws.BytesString
import Derived.Lib.ConvBytes
import Derived.Laws.IdiomCopy
namespace Go.PI
open Go

/-- Old boxes that are not told as touched hold what they held. -/
def Unt (base : Nat) (G : Gh) (w w' : World) (dirty : List Nat) : Prop := ∀ (loc b : Nat), loc < base → G.bl[loc]? = some (some b) → loc ∉ dirty → w'.heap[b]? = w.heap[b]?

structure Good (P : Program) (base : Nat) (G : Gh) (w : World) (st : St) (tmps : Array Value) (o : Oper) (d : D) (ps : List Pl) (st1 : St) : Prop where
  ex : ∃ v w' G', (execOp (ev tmps) o).run P w = .ok (.value v) w' ∧ Rel G' w' st1 tmps ∧ Slot G' w' tmps (fun i j => .r i j) d v ∧ Step G w G' w' ∧ Unt base G w w' st1.dirty
  bors : ∀ p, d.sbors p → p ∈ ps
  grew : Grew base st st1

theorem unt_refl (base : Nat) (G : Gh) (w : World) (l : List Nat) : Unt base G w w l := fun _ _ _ _ _ => rfl

theorem step_refl (G : Gh) (w : World) : Step G w G w := ⟨.refl _ _ _, fun _ _ h => h⟩

theorem ro_nolbor {G : Gh} {w : World} {d : D} {v : Value} (h : Ro G w d v) (p : Pl) : ¬ d.lbors p := by
  cases h <;> exact fun hb => hb

theorem ro_nobors {G : Gh} {w : World} {d : D} {v : Value} (h : Ro G w d v) : (∀ p, ¬ d.sbors p) ∧ ∀ l, d ≠ .tup l := by
  cases h with
  | agg l vs hs hv =>
    refine ⟨?_, by simp⟩
    rintro p ⟨e, he, hb⟩
    obtain ⟨i, hi, rfl⟩ := List.mem_iff_getElem.mp he
    exact ro_nolbor (hv i hi (by omega)) p hb
  | _ => exact ⟨fun p hb => hb, by simp⟩

/-- What is told for good is a leaf, or leaves, at any place. -/
theorem ro_leaf {G : Gh} {w : World} {tmps : Array Value} {κ : Key} {d : D} {v : Value} (h : Ro G w d v) (ha : ∀ l, d ≠ .agg l) : Leaf G w tmps κ d v := by
  cases h with
  | agg l vs hs hv => exact absurd rfl (ha l)
  | int k n => exact .int k n
  | bool b => exact .bool b
  | unk b => exact .unk b
  | str s => exact .str s
  | nilp => exact .nilp
  | nilf => exact .nilf
  | nili => exact .nili
  | ptr loc off b e => exact .ptr loc off b e
  | fn f a c va vc ha' hc h1 h2 hf => exact .fn f a c va vc ha' hc h1 h2 hf
  | iface t d v hv => exact .iface t d v hv
  | nils n => exact .nils n
  | nila n a cap => exact .nila n a cap
  | sl n l b o cap vs hcap hn hc hv => exact .sl n l b o cap vs hcap hn hc hv

theorem ro_val {G : Gh} {w : World} {tmps : Array Value} {κ : Nat → Key} {d : D} {v : Value} (h : Ro G w d v) (hf : ∀ l, d = .agg l → ∀ x ∈ l, ∀ q, x ≠ .agg q) : Val G w tmps κ d v := by
  rcases agg_or d with ⟨l, rfl⟩ | ha
  · have hl := hf l rfl
    cases h with
    | agg _ vs hs hv => exact ⟨vs, rfl, hs, fun j hj hj' => ro_leaf (hv j hj hj') (hl _ (List.getElem_mem _))⟩
  · exact (val_of ha).mpr (ro_leaf h ha)

variable {P : Program} {base : Nat} {G : Gh} {w : World} {st : St} {tmps : Array Value} {T : Nat → TI}

theorem good_use {o : Oper} {x : Operand} {ty : Nat} {d : D} {s : St} (r : Rel G w st tmps) (he : (execOp (ev tmps) o).run P w = .ok (.value (ev tmps x)) w) (h : st.use base T ty x = some (d, s)) :
    Good P base G w st tmps o d [] s := by
  obtain ⟨G', r', s', b', g', ro, fl⟩ := use_ok base T ty r h
  exact ⟨⟨_, w, G', he, r', (slot_of (ro_nobors ro).2).mpr (ro_val ro fl), s', unt_refl _ _ _ _⟩, fun p hb => absurd hb ((ro_nobors ro).1 p), g'⟩

theorem good_take {o : Oper} {x : Operand} {ty : Nat} {d : D} {s : St} (r : Rel G w st tmps) (he : (execOp (ev tmps) o).run P w = .ok (.value (ev tmps x)) w) (h : st.take base T ty x = some (d, s)) :
    Good P base G w st tmps o d [] s := by
  obtain ⟨G', r', s', b', g', m', v', nb, nt⟩ := take_ok base T ty 0 r h
  exact ⟨⟨_, w, G', he, r', (slot_of nt).mpr v', s', unt_refl _ _ _ _⟩, fun p hb => absurd hb (nb p), g'⟩

/-- A value told for good, memory left alone. -/
theorem good_ro {o : Oper} {d : D} {v : Value} (r : Rel G w st tmps) (he : (execOp (ev tmps) o).run P w = .ok (.value v) w) (h : Ro G w d v) (ha : ∀ l, d ≠ .agg l) : Good P base G w st tmps o d [] st :=
  ⟨⟨v, w, G, he, r, (slot_of (ro_nobors h).2).mpr ((val_of ha).mpr (ro_leaf h ha)), step_refl _ _, unt_refl _ _ _ _⟩, fun p hb => absurd hb ((ro_nobors h).1 p), .refl _ _⟩

theorem exec_move {o : Oper} {x : Operand} (ho : o.op = .move x ∨ o.op = .assign x) : (execOp (ev tmps) o).run P w = .ok (.value (ev tmps x)) w := by
  rcases ho with ho | ho <;> simp [execOp, ho]

/-- A slot's tuple taken whole. -/
def liftP (t : Nat) : Perm → Perm
  | .ex (.s u i j) => if u = t then .ex (.r i j) else .ex (.s u i j)
  | .tip m (.s u i j) => if u = t then .tip m (.r i j) else .tip m (.s u i j)
  | q => q

def Gh.lift (G : Gh) (t : Nat) : Gh := { G with pm := fun b => liftP t (G.pm b) }

theorem step_lift (G : Gh) (w : World) (t : Nat) : Step G w (G.lift t) w := by
  refine ⟨⟨rfl, rfl, rfl, Nat.le_refl _, fun b _ e => ⟨by simp [Gh.lift, e, liftP], rfl⟩, fun b _ _ e => ⟨by simp [Gh.lift, e, liftP], rfl⟩, fun b m k _ e => ⟨.inl ?_, fun _ _ => rfl⟩, fun _ _ _ h => h⟩, fun _ _ h => h⟩
  cases k with
  | r i j => exact ⟨m, .r i j, Nat.le_refl _, by simp [Gh.lift, e, liftP]⟩
  | s u i j =>
    by_cases hu : u = t
    · exact ⟨m, .r i j, Nat.le_refl _, by simp [Gh.lift, e, liftP, hu]⟩
    · exact ⟨m, .s u i j, Nat.le_refl _, by simp [Gh.lift, e, liftP, hu]⟩
  | b l j => exact ⟨m, .b l j, Nat.le_refl _, by simp [Gh.lift, e, liftP]⟩

theorem moves_lift (G : Gh) (w : World) (t : Nat) (κ : Key) (h : ∀ i j, κ ≠ .s t i j) : Moves G w (G.lift t) w κ κ := by
  intro b _
  cases κ with
  | r i j => exact ⟨fun e => ⟨by simp [Gh.lift, e, liftP], rfl⟩, fun m e => ⟨by simp [Gh.lift, e, liftP], rfl⟩⟩
  | s u i j =>
    have hu : u ≠ t := by rintro rfl; exact h i j rfl
    exact ⟨fun e => ⟨by simp [Gh.lift, e, liftP, hu], rfl⟩, fun m e => ⟨by simp [Gh.lift, e, liftP, hu], rfl⟩⟩
  | b l j => exact ⟨fun e => ⟨by simp [Gh.lift, e, liftP], rfl⟩, fun m e => ⟨by simp [Gh.lift, e, liftP], rfl⟩⟩

theorem moves_lifted (G : Gh) (w : World) (t i j : Nat) : Moves G w (G.lift t) w (.s t i j) (.r i j) :=
  fun b _ => ⟨fun e => ⟨by simp [Gh.lift, e, liftP], rfl⟩, fun m e => ⟨by simp [Gh.lift, e, liftP], rfl⟩⟩

/-- A slot's value goes into flight; the slot is left with less. -/
theorem lift_ok (r : Rel G w st tmps) {t : Nat} (ht : t < st.tm.length) (x : D) (hx : Slot (G.lift t) w tmps (fun i j => .s t i j) x (tmps.getD t undef)) (hxb : ∀ p, ¬ x.sbors p) :
    Rel (G.lift t) w { st with tm := st.tm.set t x } tmps := by
  have ht' : t < tmps.size := by rw [← r.len]; exact ht
  refine ⟨by simpa using r.len, fun u hu hu' => ?_, fun u hu p hb => ?_, r.bx.keep (step_lift G w t) rfl (fun loc b e => ⟨by simp [Gh.lift, r.bx.var loc b e, liftP], rfl⟩) fun loc j => moves_lift G w t _ (by simp)⟩
  · rw [set_tm_get]
    split
    · rename_i e; subst e
      simpa [Array.getD, ht'] using hx
    · rename_i e
      have hu2 : u < st.tm.length := by simpa using hu
      exact (r.slot u hu2 hu').move (step_lift G w t) (fun i j => moves_lift G w t _ (by simp; intro e'; exact absurd e'.symm e)) fun p _ => placeV_bl rfl p
  · rw [set_tm_get] at hb
    split at hb
    · exact absurd hb (hxb p)
    · exact r.ln u (by simpa using hu) p hb

theorem borLeaf_ok {p : Pl} {d : D} {v : Value} {κ κ' : Key} (h : Leaf G w tmps κ d v) (hp : (∃ f n l, d = .sl f n l) → placeV G w tmps p = some v) :
    Leaf G w tmps κ' (borLeaf p d).1 v ∧ ∀ q, (borLeaf p d).1.lbors q → q ∈ (borLeaf p d).2 := by
  cases d with
  | sl f n l =>
    match f, h with
    | 0, h => exact ⟨h, fun q hb => hb.elim⟩
    | 1, h => exact ⟨hp ⟨_, _, _, rfl⟩, fun q hb => by cases hb; simp [borLeaf]⟩
    | 2, h => exact ⟨hp ⟨_, _, _, rfl⟩, fun q hb => by cases hb; simp [borLeaf]⟩
    | _ + 3, h => exact h.elim
  | bor q => exact ⟨h, fun q hb => by cases hb; simp [borLeaf]⟩
  | ea p n i off => exact ⟨trivial, fun q hb => hb.elim⟩
  | agg l => exact h.elim
  | tup l => exact h.elim
  | _ => exact ⟨Leaf.nonsl (step_refl _ _) (by simp [borLeaf]) (fun _ _ => rfl) h, fun q hb => hb.elim⟩

theorem borLeaves_length (p : Nat → Pl) : ∀ (l : List D) (j : Nat), (borLeaves p j l).1.length = l.length
  | [], _ => rfl
  | d :: r, j => by simp [borLeaves, borLeaves_length p r (j + 1)]

theorem borLeaves_get (p : Nat → Pl) : ∀ (l : List D) (j i : Nat) (h : i < (borLeaves p j l).1.length),
    (borLeaves p j l).1[i] = (borLeaf (p (j + i)) (l[i]'(by rw [borLeaves_length] at h; exact h))).1 ∧ ∀ q ∈ (borLeaf (p (j + i)) (l[i]'(by rw [borLeaves_length] at h; exact h))).2, q ∈ (borLeaves p j l).2
  | [], _, i, h => by simp [borLeaves] at h
  | d :: r, j, 0, h => ⟨rfl, fun q hq => by simp only [borLeaves]; exact List.mem_append_left _ (by simpa using hq)⟩
  | d :: r, j, i + 1, h => by
    have := borLeaves_get p r (j + 1) i (by simpa [borLeaves] using h)
    simp only [borLeaves, List.getElem_cons_succ]
    rw [show j + (i + 1) = j + 1 + i by omega]
    exact ⟨this.1, fun q hq => List.mem_append_right _ (this.2 q hq)⟩

theorem slot_leaves (r : Rel G w st tmps) (t : Nat) : (st.get t = .undef) ∨ (∃ l, st.get t = .tup l) ∨
    (∃ l vs, st.get t = .agg l ∧ tmps.getD t undef = .agg vs ∧ vs.size = l.length ∧ ∀ j (h : j < l.length) (h' : j < vs.size), Leaf G w tmps (.s t 0 j) l[j] vs[j] ∧ placeV G w tmps (.s t j) = some vs[j]) ∨
      ((∀ l, st.get t ≠ .agg l) ∧ Leaf G w tmps (.s t 0 0) (st.get t) (tmps.getD t undef) ∧ ((∃ f n l, st.get t = .sl f n l) → placeV G w tmps (.s t 0) = some (tmps.getD t undef))) := by
  rcases Nat.lt_or_ge t st.tm.length with ht | ht
  · have ht' : t < tmps.size := by rw [← r.len]; exact ht
    have hs := r.slot t ht ht'
    have eg : tmps.getD t undef = tmps[t] := by simp [Array.getD, ht']
    rw [St.get_lt ht, eg]
    have hpv : ∀ j, placeV G w tmps (.s t j) = tmps[t].cells[j]? := fun j => by simp [placeV, Array.getElem?_eq_getElem ht']
    generalize st.tm[t] = d at *
    generalize tmps[t] = u at *
    rcases tup_or d with ⟨q, rfl⟩ | htu
    · exact .inr (.inl ⟨q, rfl⟩)
    have hs := (slot_of htu).mp hs
    rcases agg_or d with ⟨q, rfl⟩ | ha
    · obtain ⟨vs, rfl, hl, hq⟩ := hs
      refine .inr (.inr (.inl ⟨q, vs, rfl, rfl, hl, fun j hj hj' => ⟨hq j hj hj', ?_⟩⟩))
      rw [hpv]
      simp [Value.cells, hj']
    · have hl := (val_of ha).mp hs
      refine .inr (.inr (.inr ⟨ha, hl, fun ⟨f, n, l, e⟩ => ?_⟩))
      subst e
      obtain ⟨a, len, cap, rfl⟩ := leaf_slice hl
      rw [hpv]; rfl
  · left
    simp [St.get, List.getD, List.getElem?_eq_none ht]

theorem borD_ok (r : Rel G w st tmps) (t : Nat) (hn : ∀ l, st.get t ≠ .tup l) : Slot G w tmps (fun i j => .r i j) (borD t (st.get t)).1 (tmps.getD t undef) ∧ ∀ p, (borD t (st.get t)).1.sbors p → p ∈ (borD t (st.get t)).2 := by
  rcases slot_leaves r t with e | ⟨l, e⟩ | ⟨l, vs, e, ev', hl, hq⟩ | ⟨ha, hl, hp⟩
  · rw [e]; exact ⟨trivial, fun p hb => hb.elim⟩
  · exact absurd e (hn l)
  · rw [e, ev']
    refine ⟨⟨vs, rfl, by rw [borLeaves_length]; exact hl, fun j hj hj' => ?_⟩, ?_⟩
    · obtain ⟨h1, _⟩ := borLeaves_get (Pl.s t) l 0 j hj
      have hj2 : j < l.length := by rw [borLeaves_length] at hj; exact hj
      have := (borLeaf_ok (p := .s t (0 + j)) (κ' := .r 0 j) (hq j hj2 hj').1 fun _ => by rw [Nat.zero_add]; exact (hq j hj2 hj').2).1
      rw [← h1] at this
      exact this
    · rintro p ⟨x, hx, hb⟩
      obtain ⟨j, hj, rfl⟩ := List.mem_iff_getElem.mp hx
      obtain ⟨h1, h2⟩ := borLeaves_get (Pl.s t) l 0 j hj
      have hj2 : j < l.length := by rw [borLeaves_length] at hj; exact hj
      have hj3 : j < vs.size := by omega
      change D.lbors (borLeaves (Pl.s t) 0 l).1[j] p at hb
      rw [h1] at hb
      exact h2 p ((borLeaf_ok (p := .s t (0 + j)) (κ' := .r 0 j) (hq j hj2 hj3).1 fun _ => by rw [Nat.zero_add]; exact (hq j hj2 hj3).2).2 p hb)
  · generalize hd : st.get t = d at *
    have key : (borD t d = borLeaf (.s t 0) d) ∨ ∃ p n i off, d = .ea p n i off := by
      cases d <;> first | exact .inl rfl | exact absurd rfl (ha _) | exact .inr ⟨_, _, _, _, rfl⟩
    rcases key with e | ⟨p, n, i, off, rfl⟩
    · rw [e]
      obtain ⟨h1, h2⟩ := borLeaf_ok (p := .s t 0) (κ' := .r 0 0) hl hp
      have h3 : ∀ l, (borLeaf (.s t 0) d).1 ≠ .agg l := by
        intro l e; rw [e] at h1; exact h1
      have h4 : ∀ l, (borLeaf (.s t 0) d).1 ≠ .tup l := by
        intro l e; rw [e] at h1; exact h1
      exact ⟨(slot_of h4).mpr ((val_of h3).mpr h1), fun p hb => h2 p ((bors_of h3).mp ((sbors_of h4).mp hb))⟩
    · exact ⟨hl, fun q hb => by cases hb; simp [borD]⟩

theorem move_ok {C : CallT} {ds : List Nat} {o : Oper} {x : Operand} {d : D} {ps : List Pl} {s : St} (r : Rel G w st tmps) (ho : o.op = .move x) (h : opV C T base ds o st = some (d, ps, s)) : Good P base G w st tmps o d ps s := by
  have he := exec_move (P := P) (w := w) (tmps := tmps) (Or.inl ho : o.op = .move x ∨ o.op = .assign x)
  have tk : (st.take base T o.type x).map (fun (d, s) => (d, ([] : List Pl), s)) = some (d, ps, s) → Good P base G w st tmps o d ps s := by
    intro h
    simp only [Option.map_eq_some_iff] at h
    obtain ⟨⟨d', s'⟩, h1, h2⟩ := h
    simp only [Prod.mk.injEq] at h2
    obtain ⟨rfl, rfl, rfl⟩ := h2
    exact good_take r he h1
  unfold opV at h
  simp only [ho] at h
  cases x with
  | tmp t =>
    cases hds : ds.contains t <;> cases ht' : (st.get t).isTup <;> simp only [hds, ht'] at h
    · simp only [Option.some.injEq, Prod.mk.injEq] at h
      obtain ⟨rfl, rfl, rfl⟩ := h
      obtain ⟨h1, h2⟩ := borD_ok r t (by intro l e; rw [e] at ht'; cases ht')
      exact ⟨⟨_, w, G, he, r, h1, step_refl _ _, unt_refl _ _ _ _⟩, h2, .refl _ _⟩
    · cases h
    · exact tk h
    · rename_i l
      simp only [Option.some.injEq, Prod.mk.injEq] at h
      obtain ⟨rfl, rfl, rfl⟩ := h
      have e : st.get t = .tup l := by
        revert ht'
        cases st.get t <;> simp [D.isTup]
      have ht : t < st.tm.length := by
        rcases Nat.lt_or_ge t st.tm.length with ht | ht
        · exact ht
        · simp [St.get, List.getD, List.getElem?_eq_none ht] at e
      have ht2 : t < tmps.size := by rw [← r.len]; exact ht
      rw [St.get_lt ht] at e
      have hs := r.slot t ht ht2
      rw [e] at hs
      have eg : ev tmps (.tmp t) = tmps[t] := by simp [ev, Array.getD, ht2]
      refine ⟨⟨_, w, G.lift t, he, lift_ok r ht .undef trivial (fun p hb => hb), ?_, step_lift G w t, unt_refl _ _ _ _⟩, fun p hb => absurd hb (hs.1 p), ⟨fun _ h => h, fun _ _ _ => rfl, fun h => h, Nat.le_refl _, fun _ h => h, by simp⟩⟩
      rw [eg]
      exact hs.move (step_lift G w t) (fun i j => moves_lifted G w t i j) fun p _ => placeV_bl rfl p
  | const v => exact tk h
  | func f => exact tk h
  | global g => exact tk h

theorem assign_ok {C : CallT} {ds : List Nat} {o : Oper} {x : Operand} {d : D} {ps : List Pl} {s : St} (r : Rel G w st tmps) (ho : o.op = .assign x) (h : opV C T base ds o st = some (d, ps, s)) : Good P base G w st tmps o d ps s := by
  have he := exec_move (P := P) (w := w) (tmps := tmps) (Or.inr ho : o.op = .move x ∨ o.op = .assign x)
  have tk : (st.take base T o.type x).map (fun (d, s) => (d, ([] : List Pl), s)) = some (d, ps, s) → Good P base G w st tmps o d ps s := by
    intro h
    simp only [Option.map_eq_some_iff] at h
    obtain ⟨⟨d', s'⟩, h1, h2⟩ := h
    simp only [Prod.mk.injEq] at h2
    obtain ⟨rfl, rfl, rfl⟩ := h2
    exact good_take r he h1
  have us : (st.use base T o.type x).map (fun (d, s) => (d, ([] : List Pl), s)) = some (d, ps, s) → Good P base G w st tmps o d ps s := by
    intro h
    simp only [Option.map_eq_some_iff] at h
    obtain ⟨⟨d', s'⟩, h1, h2⟩ := h
    simp only [Prod.mk.injEq] at h2
    obtain ⟨rfl, rfl, rfl⟩ := h2
    exact good_use r he h1
  unfold opV at h
  simp only [ho] at h
  cases x with
  | tmp t =>
    cases hb : (ds.contains t && !(st.get t).isBor) <;> simp only [hb] at h
    · exact us h
    · exact tk h
  | const v => exact tk h
  | func f => exact tk h
  | global g => exact tk h

/-- What a look says of plain values. -/
theorem see_int (r : Rel G w st tmps) {ty : Nat} {x : Operand} {k : IntKind} {n : Int} (h : st.see T ty x = .int k n) : ev tmps x = .int k n := by
  rcases see_ok T ty r h (by simp) (by simp) with ⟨l, e, _⟩ | ⟨_, _, κ, hl⟩
  · cases e
  · have hl : Ro G w (.int k n) _ := hl
    generalize ev tmps x = v at hl ⊢; cases hl; rfl

theorem see_bool (r : Rel G w st tmps) {ty : Nat} {x : Operand} {b : Bool} (h : st.see T ty x = .bool b) : ev tmps x = .bool b := by
  rcases see_ok T ty r h (by simp) (by simp) with ⟨l, e, _⟩ | ⟨_, _, κ, hl⟩
  · cases e
  · have hl : Ro G w (.bool b) _ := hl
    generalize ev tmps x = v at hl ⊢; cases hl; rfl

theorem see_unk (r : Rel G w st tmps) {ty : Nat} {x : Operand} (h : st.see T ty x = .unk) : ∃ b, ev tmps x = .bool b := by
  rcases see_ok T ty r h (by simp) (by simp) with ⟨l, e, _⟩ | ⟨_, _, κ, hl⟩
  · cases e
  · have hl : Ro G w .unk _ := hl
    generalize ev tmps x = v at hl ⊢
    cases hl with
    | unk b => exact ⟨b, rfl⟩

theorem see_str (r : Rel G w st tmps) {ty : Nat} {x : Operand} {b : ByteArray} (h : st.see T ty x = .str b) : ev tmps x = .string b := by
  rcases see_ok T ty r h (by simp) (by simp) with ⟨l, e, _⟩ | ⟨_, _, κ, hl⟩
  · cases e
  · have hl : Ro G w (.str b) _ := hl
    generalize ev tmps x = v at hl ⊢; cases hl; rfl

theorem see_ptr (r : Rel G w st tmps) {ty : Nat} {x : Operand} {loc off : Nat} (h : st.see T ty x = .ptr loc off) : ∃ b, G.bl[loc]? = some (some b) ∧ ev tmps x = .pointer (some (at_ b off)) := by
  rcases see_ok T ty r h (by simp) (by simp) with ⟨l, e, _⟩ | ⟨_, _, κ, hl⟩
  · cases e
  · have hl : Ro G w (.ptr loc off) _ := hl
    generalize ev tmps x = v at hl
    cases hl with
    | ptr _ _ b e => exact ⟨b, e, rfl⟩

theorem see_nilp (r : Rel G w st tmps) {ty : Nat} {x : Operand} (h : st.see T ty x = .nilp) : ev tmps x = .pointer none := by
  rcases see_ok T ty r h (by simp) (by simp) with ⟨l, e, _⟩ | ⟨_, _, κ, hl⟩
  · cases e
  · have hl : Ro G w .nilp _ := hl
    generalize ev tmps x = v at hl ⊢; cases hl; rfl

theorem see_rp (r : Rel G w st tmps) {ty : Nat} {x : Operand} {l : List D} (h : st.see T ty x = .rp l) : ∃ b o, ev tmps x = .pointer (some (at_ b o)) ∧ ∃ vs : Nat → Value, ∀ j (h : j < l.length), w.cell? (at_ b (o + j)) = some (vs j) ∧ G.fz b (o + j) ∧ Ro G w l[j] (vs j) ∧ ∀ q, l[j] ≠ .agg q := by
  rcases see_ok T ty r h (by simp) (by simp) with ⟨l, e, _⟩ | ⟨_, _, κ, hl⟩
  · cases e
  · exact hl

theorem see_ea (r : Rel G w st tmps) {ty : Nat} {x : Operand} {p : Pl} {n i off : Nat} (h : st.see T ty x = .ea p n i off) : ∃ b o len cap, placeV G w tmps p = some (.slice (some (at_ b o)) len cap) ∧ ev tmps x = .pointer (some (at_ b (o + i * n + off))) := by
  rcases see_ok T ty r h (by simp) (by simp) with ⟨l, e, _⟩ | ⟨_, _, κ, hl⟩
  · cases e
  · exact hl

/-- A slice that is looked at: nil and empty, or a row. -/
theorem see_sl (r : Rel G w st tmps) {ty : Nat} {x : Operand} {f n : Nat} {l : List (List D)} (h : st.see T ty x = .sl f n l) : (l = [] ∧ ∃ a cap, ev tmps x = .slice a 0 cap) ∨ ∃ b o cap, ev tmps x = .slice (some (at_ b o)) l.length cap ∧ Row G w n l b o := by
  rcases see_ok T ty r h (by simp) (by simp) with ⟨l, e, _⟩ | ⟨_, _, κ, hl⟩
  · cases e
  · generalize ev tmps x = v at hl
    match f, hl with
    | 0, hl =>
      cases hl with
      | nils n => exact .inl ⟨rfl, none, 0, rfl⟩
      | nila n a cap => exact .inl ⟨rfl, some a, cap, rfl⟩
      | sl n l b o cap vs hcap hn hc hv => exact .inr ⟨b, o, cap, rfl, hn, vs, fun i j hi hj => (hc i j hi hj).1, hv⟩
    | 1, hl =>
      rcases hl with ⟨rfl, rfl⟩ | ⟨b, o, cap, rfl, hr, _⟩
      · exact .inl ⟨rfl, none, 0, rfl⟩
      · exact .inr ⟨b, o, cap, rfl, hr⟩
    | 2, hl =>
      rcases hl with ⟨rfl, rfl⟩ | ⟨rfl, b, o, rfl⟩ | ⟨b, o, cap, rfl, hr, _⟩
      · exact .inl ⟨rfl, none, 0, rfl⟩
      · exact .inl ⟨rfl, _, 0, rfl⟩
      · exact .inr ⟨b, o, cap, rfl, hr⟩
    | _ + 3, hl => exact hl.elim

end Go.PI
