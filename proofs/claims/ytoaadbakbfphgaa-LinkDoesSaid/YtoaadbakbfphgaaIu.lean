/- Calls: what is asked of a callee, what the caller keeps. -/
import Derived.Test.YtoaadbakbfphgaaIt
namespace Go.PI
open Go

variable {P : Program} {base : Nat} {G : Gh} {w w' : World} {st : St} {tmps : Array Value} {T : Nat → TI}

def Gh.cut (G : Gh) (n : Nat) : Gh := { G with bl := G.bl.take n }

theorem cut_bl {n loc : Nat} (h : loc < n) : (G.cut n).bl[loc]? = G.bl[loc]? := by
  simp only [Gh.cut, List.getElem?_take, if_pos h]

theorem cut_bl' {n loc b : Nat} (h : (G.cut n).bl[loc]? = some (some b)) : loc < n ∧ G.bl[loc]? = some (some b) := by
  simp only [Gh.cut, List.getElem?_take] at h
  split at h
  · exact ⟨by assumption, h⟩
  · cases h

theorem cut_ro {n : Nat} {d : D} {v : Value} (h : Ro G w d v) : d.low n = true → Ro (G.cut n) w d v := by
  induction h with
  | int k n => exact fun _ => .int k n
  | bool b => exact fun _ => .bool b
  | unk b => exact fun _ => .unk b
  | str s => exact fun _ => .str s
  | nilp => exact fun _ => .nilp
  | nilf => exact fun _ => .nilf
  | nili => exact fun _ => .nili
  | ptr loc off b e => exact fun h => .ptr loc off b (by rw [cut_bl (by simpa [D.low] using h)]; exact e)
  | fn f a c va vc ha hc h1 h2 hf i1 i2 =>
    intro h
    simp only [D.low, Bool.and_eq_true] at h
    exact .fn f a c va vc ha hc (fun i hi hi' => i1 i hi hi' (low_get h.1 hi)) (fun i hi hi' => i2 i hi hi' (low_get h.2 hi)) hf
  | iface t d v hv ih => exact fun h => .iface t d v (ih (by simpa only [D.low] using h))
  | agg l vs hs hv ih => exact fun h => .agg l vs hs fun i hi hi' => ih i hi hi' (low_get (by simpa only [D.low] using h) hi)
  | nils n => exact fun _ => .nils n
  | nila n a cap => exact fun _ => .nila n a cap
  | sl m l b o cap vs hcap hn hc hv ih =>
    intro h
    simp only [D.low] at h
    exact .sl m l b o cap vs hcap hn hc fun i j hi hj => ih i j hi hj (low_get (lowLL_iff.mp h _ (List.getElem_mem hi)) hj)

theorem cut_row {n m : Nat} {l : List (List D)} {b o : Nat} (h : Row G w m l b o) (hl : lowLL n l = true) : Row (G.cut n) w m l b o := by
  obtain ⟨hn, vs, hc, hv⟩ := h
  exact ⟨hn, vs, hc, fun i j hi hj => cut_ro (hv i j hi hj) (low_get (lowLL_iff.mp hl _ (List.getElem_mem hi)) hj)⟩

theorem cut_place {n : Nat} {p : Pl} (h : (D.bor p).low n = true) : placeV (G.cut n) w tmps p = placeV G w tmps p := by
  cases p with
  | s t j => rfl
  | b loc j =>
    simp only [D.low, decide_eq_true_eq] at h
    simp only [placeV, cut_bl h]

theorem cut_leaf {n : Nat} {κ : Key} {d : D} {v : Value} (h : Leaf G w tmps κ d v) (hl : d.low n = true) : Leaf (G.cut n) w tmps κ d v := by
  cases d with
  | sl f m l =>
    have hl' : lowLL n l = true := by simpa only [D.low] using hl
    match f, h with
    | 0, h => exact cut_ro h hl
    | 1, h =>
      rcases h with h | ⟨b, o, cap, rfl, r, hf, hc⟩
      · exact .inl h
      · exact .inr ⟨b, o, cap, rfl, cut_row r hl', hf, hc⟩
    | 2, h =>
      rcases h with h | h | ⟨b, o, cap, rfl, r, hc⟩
      · exact .inl h
      · exact .inr (.inl h)
      · exact .inr (.inr ⟨b, o, cap, rfl, cut_row r hl', hc⟩)
    | _ + 3, h => exact h.elim
  | bor p => exact (cut_place hl).trans h
  | ea p k i off =>
    obtain ⟨b, o, len, cap, h1, h2⟩ := h
    refine ⟨b, o, len, cap, (cut_place ?_).trans h1, h2⟩
    cases p with
    | s t j => rfl
    | b loc j => simpa only [D.low] using hl
  | rp l =>
    obtain ⟨b, o, e, vs, hv⟩ := h
    simp only [D.low] at hl
    refine ⟨b, o, e, vs, fun j hj => ?_⟩
    obtain ⟨h1, h2, h3, h4⟩ := hv j hj
    exact ⟨h1, h2, cut_ro h3 (low_get hl hj), h4⟩
  | undef => trivial
  | agg l => exact h.elim
  | tup l => exact h.elim
  | _ => exact cut_ro h hl

theorem cut_val {n : Nat} {κ : Nat → Key} {d : D} {v : Value} (h : Val G w tmps κ d v) (hl : d.low n = true) : Val (G.cut n) w tmps κ d v := by
  rcases agg_or d with ⟨l, rfl⟩ | ha
  · obtain ⟨vs, e, hs, hv⟩ := h
    exact ⟨vs, e, hs, fun j hj hj' => cut_leaf (hv j hj hj') (low_get (by simpa only [D.low] using hl) hj)⟩
  · exact (val_of ha).mpr (cut_leaf ((val_of ha).mp h) hl)

theorem cut_slot {n : Nat} {κ : Nat → Nat → Key} {d : D} {v : Value} (h : Slot G w tmps κ d v) (hl : d.low n = true) : Slot (G.cut n) w tmps κ d v := by
  rcases tup_or d with ⟨l, rfl⟩ | ha
  · obtain ⟨nb, vs, e, hs, hv⟩ := h
    exact ⟨nb, vs, e, hs, fun i hi hi' => cut_val (hv i hi hi') (low_get (by simpa only [D.low] using hl) hi)⟩
  · exact (slot_of ha).mpr (cut_val ((slot_of ha).mp h) hl)

def Flat (d : D) : Prop := ∀ l, d = .agg l → ∀ e ∈ l, ∀ q, e ≠ .agg q

structure Came (G : Gh) (w : World) (bx : List (List D)) (r : D) (bx' : List (List D)) (dirty : List Nat) (v : Value) (G' : Gh) (w' : World) : Prop where
  boxes : Boxes G' w' bx'
  val : Slot G' w' #[] (fun i j => .r i j) r v
  evo : Evo bx.length G w G' w'
  unt : Unt bx.length G w w' dirty

structure Kept (bx : List (List D)) (r : D) (bx' : List (List D)) (dirty : List Nat) (up : Bool) : Prop where
  bors : ∀ p, ¬ r.sbors p
  len : bx.length ≤ bx'.length
  old : ∀ loc, loc < bx.length → loc ∉ dirty → bx'[loc]? = bx[loc]?
  low : ∀ k, (∀ loc (h : loc < bx.length), lowL (max k (loc + 1)) bx[loc] = true) → up = false → ∀ loc (h : loc < bx'.length), lowL (max k (loc + 1)) bx'[loc] = true

/-- A callee. -/
def CallOk (P : Program) (C : CallT) : Prop :=
  ∀ f ds bx r bx' dirty up, C f ds bx = some (r, bx', dirty, up) → (∃ fn c, P.funcs[f]? = some fn ∧ fn.body = some c ∧ fn.name ≠ "runtime.NumGoroutine") ∧
    ∀ (G : Gh) (w : World) (vs : Array Value), Boxes G w bx → vs.size = ds.length → (∀ i (h : i < ds.length) (h' : i < vs.size), Ro G w ds[i] vs[i] ∧ Flat ds[i]) →
      Calls P f vs w (fun e w' => ∃ v G', e = .returned v ∧ Came G w bx r bx' dirty v G' w' ∧ Kept bx r bx' dirty up)

/-- An operation's value, whatever the world behind it. -/
structure Gives (P : Program) (base : Nat) (G : Gh) (w : World) (st : St) (tmps : Array Value) (o : Oper) (d : D) (ps : List Pl) (st1 : St) : Prop where
  ex : ∀ (next : Act → World → Prop) (Q : Exit → Act → World → Prop), (∀ v w' G', Rel G' w' st1 tmps → Slot G' w' tmps (fun i j => .r i j) d v → Step G w G' w' → Unt base G w w' st1.dirty → (∀ p, d.sbors p → p ∈ ps) → Grew base st st1 → next (Act.put ⟨tmps, []⟩ o.dst v) w') → o.wp P ⟨tmps, []⟩ w next Q

theorem eval_eq (tmps : Array Value) (ds : List Deferred) : Act.eval ⟨tmps, ds⟩ = ev tmps := funext fun x => ev_eq tmps ds x

theorem Good.gives {o : Oper} {d : D} {ps : List Pl} {st1 : St} (h : Good P base G w st tmps o d ps st1) : Gives P base G w st tmps o d ps st1 := by
  obtain ⟨⟨v, w', G', h1, h2, h3, h4, h5⟩, h6, h7⟩ := h
  refine ⟨fun next Q hn => ?_⟩
  unfold Oper.wp
  rw [eval_eq, h1]
  exact hn v w' G' h2 h3 h4 h5 h6 h7

/-- What the caller's slots own is shut away. -/
def shutP : Perm → Perm
  | .ex (.s ..) | .ex (.r ..) => .held 0
  | .tip m (.s ..) | .tip m (.r ..) => .held m
  | q => q

def ownP : Perm → Bool
  | .ex (.s ..) | .ex (.r ..) | .tip _ (.s ..) | .tip _ (.r ..) => true
  | _ => false

def Gh.shut (G : Gh) : Gh := { G with pm := fun b => shutP (G.pm b) }

open Classical in
/-- .. and comes back. -/
noncomputable def Gh.back (G : Gh) (n : Nat) (G1 : Gh) : Gh := { bl := G1.bl, pm := fun b => if b < n ∧ ownP (G.pm b) = true then G.pm b else G1.pm b }

theorem shut_keeps (G : Gh) (w : World) : Keeps G w G.shut w := by
  refine ⟨fun b i v hc hf => ⟨hc, ?_⟩, fun _ _ h => h⟩
  rcases hf with hf | ⟨m, k, hf, hi⟩ | ⟨m, hf, hi⟩
  · exact .inl (by simp [Gh.shut, hf, shutP])
  · cases k with
    | b l j => exact .inr (.inl ⟨m, _, by simp [Gh.shut, hf, shutP]; rfl, hi⟩)
    | s t i j => exact .inr (.inr ⟨m, by simp [Gh.shut, hf, shutP], hi⟩)
    | r i j => exact .inr (.inr ⟨m, by simp [Gh.shut, hf, shutP], hi⟩)
  · exact .inr (.inr ⟨m, by simp [Gh.shut, hf, shutP], hi⟩)

theorem shut_boxes {bx : List (List D)} (r : Boxes G w bx) : Boxes G.shut w bx := by
  refine ⟨r.len, fun loc b ls e1 e2 => ?_, r.virt, r.bare⟩
  obtain ⟨h1, cs, ty, h2, h3, h4⟩ := r.box loc b ls e1 e2
  refine ⟨by simp [Gh.shut, h1, shutP], cs, ty, h2, h3, fun j hj hj' => ?_⟩
  obtain ⟨q, h5⟩ := h4 j hj hj'
  exact ⟨q, h5.moveK (shut_keeps G w) (fun x _ => ⟨fun e => ⟨by simp [Gh.shut, e, shutP], rfl⟩, fun m e => ⟨by simp [Gh.shut, e, shutP], rfl⟩⟩) fun p hb => (lbors_plain q p hb).elim⟩

theorem own_shut {q : Perm} (h : ownP q = true) : ∃ m, shutP q = .held m ∧ ((∃ κ, q = .ex κ ∧ m = 0) ∨ ∃ κ, q = .tip m κ) := by
  cases q with
  | ex k => cases k <;> first | exact ⟨0, rfl, .inl ⟨_, rfl, rfl⟩⟩ | cases h
  | tip m k => cases k <;> first | exact ⟨m, rfl, .inr ⟨_, rfl⟩⟩ | cases h
  | _ => cases h

theorem not_own_shut {q : Perm} (h : ownP q = false) : shutP q = q := by
  cases q with
  | ex k => cases k <;> first | rfl | cases h
  | tip m k => cases k <;> first | rfl | cases h
  | _ => rfl


theorem back_own {G1 : Gh} {n : Nat} (h : Evo n G.shut w G1 w') {b : Nat} (hb : b < w.heap.size) (ho : ownP (G.pm b) = true) : (G.back w.heap.size G1).pm b = G.pm b ∧ w'.heap[b]? = w.heap[b]? ∧ ∃ m, G1.pm b = .held m ∧ ((∃ κ, G.pm b = .ex κ ∧ m = 0) ∨ ∃ κ, G.pm b = .tip m κ) := by
  obtain ⟨m, h1, h2⟩ := own_shut ho
  obtain ⟨h3, h4⟩ := h.held b m hb h1
  exact ⟨by simp [Gh.back, hb, ho], h4, m, h3, h2⟩

theorem back_not {G1 : Gh} {b : Nat} (ho : b < w.heap.size → ownP (G.pm b) = false) : (G.back w.heap.size G1).pm b = G1.pm b := by
  simp only [Gh.back]
  rw [if_neg]
  rintro ⟨hb, h2⟩
  rw [ho hb] at h2
  cases h2

theorem back_step {G1 : Gh} {n : Nat} (h : Evo n G.shut w G1 w') (hbl : ∀ (loc b : Nat), G.bl[loc]? = some (some b) → G1.bl[loc]? = some (some b)) : Step G w (G.back w.heap.size G1) w' := by
  have hn : ∀ b, b < w.heap.size → ownP (G.pm b) = false → G.shut.pm b = G.pm b ∧ (G.back w.heap.size G1).pm b = G1.pm b := fun b hb ho => ⟨not_own_shut ho, back_not fun _ => ho⟩
  refine ⟨⟨h.os, h.tape, h.output, h.size, fun b hb e => ?_, fun b m hb e => ?_, fun b m k hb e => ?_, fun _ _ h0 => absurd h0 (Nat.not_lt_zero _)⟩, hbl⟩
  · obtain ⟨h1, h2⟩ := hn b hb (by rw [e]; rfl)
    obtain ⟨h3, h4⟩ := h.fr b hb (h1.trans e)
    exact ⟨h2.trans h3, h4⟩
  · obtain ⟨h1, h2⟩ := hn b hb (by rw [e]; rfl)
    obtain ⟨h3, h4⟩ := h.held b m hb (h1.trans e)
    exact ⟨h2.trans h3, h4⟩
  · by_cases ho : ownP (G.pm b) = true
    · obtain ⟨h1, h2, _⟩ := back_own h hb ho
      exact ⟨.inl ⟨m, k, Nat.le_refl _, h1.trans e⟩, fun i _ => cell_of_heap h2 i⟩
    · obtain ⟨h1, h2⟩ := hn b hb (by simpa using ho)
      obtain ⟨h3, h4⟩ := h.tip b m k hb (h1.trans e)
      rw [h2]
      exact ⟨h3, h4⟩

theorem back_keeps {G1 : Gh} {n : Nat} (h : Evo n G.shut w G1 w') : Keeps G1 w' (G.back w.heap.size G1) w' := by
  refine ⟨fun b i v hc hf => ⟨hc, ?_⟩, fun _ _ h => h⟩
  by_cases ho : b < w.heap.size ∧ ownP (G.pm b) = true
  · obtain ⟨h1, h2, m, h3, h4⟩ := back_own h ho.1 ho.2
    rcases hf with hf | ⟨m', k, hf, hi⟩ | ⟨m', hf, hi⟩
    · rw [h3] at hf; cases hf
    · rw [h3] at hf; cases hf
    · rw [h3] at hf; cases hf
      rcases h4 with ⟨κ, _, h4⟩ | ⟨κ, h4⟩
      · omega
      · exact .inr (.inl ⟨m, κ, h1.trans h4, hi⟩)
  · have : (G.back w.heap.size G1).pm b = G1.pm b := back_not fun hb => by
      cases hx : ownP (G.pm b) with
      | false => rfl
      | true => exact absurd ⟨hb, hx⟩ ho
    unfold Gh.fz
    rw [this]
    exact hf

theorem back_moves {G1 : Gh} {n : Nat} (h : Evo n G.shut w G1 w') (κ : Key) : Moves G1 w' (G.back w.heap.size G1) w' κ κ := by
  have key : ∀ b q, G1.pm b = q → (∀ m, q ≠ .held m) → (G.back w.heap.size G1).pm b = q := by
    intro b q e hq
    rw [back_not fun hb => ?_]
    · exact e
    · cases hx : ownP (G.pm b) with
      | false => rfl
      | true =>
        obtain ⟨_, _, m, h3, _⟩ := back_own h hb hx
        rw [h3] at e
        exact absurd e.symm (hq m)
  exact fun b _ => ⟨fun e => ⟨key b _ e (by simp), rfl⟩, fun m e => ⟨key b _ e (by simp), rfl⟩⟩

/-- The caller behind a call. -/
theorem back_rel (r : Rel G w st tmps) {bx' : List (List D)} {rv : D} {dirty : List Nat} {v : Value} {G1 : Gh} {up : Bool} (c : Came G.shut w st.bx rv bx' dirty v G1 w') (k : Kept st.bx rv bx' dirty up) {s : St}
    (hs : s = st.forget fun p => match p with | .s .. => false | .b loc _ => dirty.contains loc) :
    Rel (G.back w.heap.size G1) w' { s with bx := bx' } tmps ∧ Slot (G.back w.heap.size G1) w' tmps (fun i j => .r i j) rv v ∧ Step G w (G.back w.heap.size G1) w' := by
  subst hs
  obtain ⟨r1, hnb⟩ := forget_ok r fun p => match p with | .s .. => false | .b loc _ => dirty.contains loc
  have hlt : ∀ (loc b : Nat), G.bl[loc]? = some (some b) → loc < st.bx.length := fun loc b e => by rw [← r.bx.len]; exact (List.getElem?_eq_some_iff.mp e).1
  have hbl : ∀ (loc b : Nat), G.bl[loc]? = some (some b) → G1.bl[loc]? = some (some b) := fun loc b e => c.evo.bl loc b (hlt loc b e) e
  have stp := back_step c.evo hbl
  refine ⟨⟨r1.len, fun t h h' => (r1.slot t h h').move stp (fun i j b hb => ?_) fun p hp => ?_, r1.ln, ?_⟩, ?_, stp⟩
  · refine ⟨fun e => ?_, fun m e => ?_⟩
    · obtain ⟨h1, h2, _⟩ := back_own c.evo hb (by rw [e]; rfl)
      exact ⟨h1.trans e, h2⟩
    · obtain ⟨h1, h2, _⟩ := back_own c.evo hb (by rw [e]; rfl)
      exact ⟨h1.trans e, h2⟩
  · cases p with
    | s t j => rfl
    | b l j =>
      have hd := hnb t h _ hp
      simp only [List.contains_eq_mem, decide_eq_false_iff_not] at hd
      obtain ⟨u, hu⟩ := slot_place (r1.slot t h h') hp
      rcases e : G.bl[l]? with _ | _ | b
      · simp [placeV, e] at hu
      · simp [placeV, e] at hu
      · have e' : (G.back w.heap.size G1).bl[l]? = some (some b) := hbl l b e
        simp only [placeV, e, e']
        exact cell_of_heap (c.unt l b (hlt l b e) e hd) j
  · have rb := c.boxes
    refine ⟨rb.len, fun loc b ls e1 e2 => ?_, rb.virt, rb.bare⟩
    obtain ⟨h1, cs, ty, h2, h3, h4⟩ := rb.box loc b ls e1 e2
    refine ⟨?_, cs, ty, h2, h3, fun j hj hj' => ?_⟩
    · rw [back_not fun hb => ?_]
      · exact h1
      · cases hx : ownP (G.pm b) with
        | false => rfl
        | true =>
          obtain ⟨_, _, m, h3, _⟩ := back_own c.evo hb hx
          rw [h1] at h3
          cases h3
    · obtain ⟨q, h5⟩ := h4 j hj hj'
      exact ⟨q, h5.moveK (back_keeps c.evo) (back_moves c.evo _) fun p hb => (lbors_plain q p hb).elim⟩
  · exact c.val.moveK (back_keeps c.evo) (fun i j => back_moves c.evo _) fun p hp => absurd hp (k.bors p)

/-- Everything is shut away: for a callee that sees no box. -/
def shutA : Perm → Perm
  | .ex _ | .var _ => .held 0
  | .tip m _ => .held m
  | q => q

def ownA : Perm → Bool
  | .ex _ | .var _ | .tip .. => true
  | _ => false

def Gh.shutA (G : Gh) : Gh := { bl := [], pm := fun b => Go.PI.shutA (G.pm b) }

open Classical in
noncomputable def Gh.backA (G : Gh) (n : Nat) (G1 : Gh) : Gh := { bl := G.bl, pm := fun b => if b < n ∧ ownA (G.pm b) = true then G.pm b else G1.pm b }

theorem shutA_keeps (G : Gh) (w : World) : Keeps (G.cut 0) w G.shutA w := by
  refine ⟨fun b i v hc hf => ⟨hc, ?_⟩, fun l b h => absurd (cut_bl' h).1 (Nat.not_lt_zero _)⟩
  have hf : G.fz b i := hf
  rcases hf with hf | ⟨m, k, hf, hi⟩ | ⟨m, hf, hi⟩
  · exact .inl (by simp [Gh.shutA, hf, Go.PI.shutA])
  · exact .inr (.inr ⟨m, by simp [Gh.shutA, hf, Go.PI.shutA], hi⟩)
  · exact .inr (.inr ⟨m, by simp [Gh.shutA, hf, Go.PI.shutA], hi⟩)

theorem shutA_boxes (G : Gh) (w : World) : Boxes G.shutA w [] :=
  ⟨rfl, fun loc b ls e1 e2 => by simp at e2, fun loc e => by simp at e, fun loc e => by simp [Gh.shutA] at e⟩

theorem own_shutA {q : Perm} (h : ownA q = true) : ∃ m, Go.PI.shutA q = .held m ∧ (m = 0 ∨ ∃ κ, q = .tip m κ) := by
  cases q with
  | ex k => exact ⟨0, rfl, .inl rfl⟩
  | var l => exact ⟨0, rfl, .inl rfl⟩
  | tip m k => exact ⟨m, rfl, .inr ⟨_, rfl⟩⟩
  | _ => cases h

theorem not_own_shutA {q : Perm} (h : ownA q = false) : Go.PI.shutA q = q ∧ (q = .fr ∨ ∃ m, q = .held m) := by
  cases q with
  | fr => exact ⟨rfl, .inl rfl⟩
  | held m => exact ⟨rfl, .inr ⟨m, rfl⟩⟩
  | _ => cases h


theorem backA_own {G1 : Gh} {n : Nat} (h : Evo n G.shutA w G1 w') {b : Nat} (hb : b < w.heap.size) (ho : ownA (G.pm b) = true) : (G.backA w.heap.size G1).pm b = G.pm b ∧ w'.heap[b]? = w.heap[b]? ∧ ∃ m, G1.pm b = .held m ∧ (m = 0 ∨ ∃ κ, G.pm b = .tip m κ) := by
  obtain ⟨m, h1, h2⟩ := own_shutA ho
  obtain ⟨h3, h4⟩ := h.held b m hb h1
  exact ⟨by simp [Gh.backA, hb, ho], h4, m, h3, h2⟩

theorem backA_not {G1 : Gh} {b : Nat} (ho : b < w.heap.size → ownA (G.pm b) = false) : (G.backA w.heap.size G1).pm b = G1.pm b := by
  simp only [Gh.backA]
  rw [if_neg]
  rintro ⟨hb, h2⟩
  rw [ho hb] at h2
  cases h2

theorem backA_step {G1 : Gh} {n : Nat} (h : Evo n G.shutA w G1 w') : Step G w (G.backA w.heap.size G1) w' := by
  refine ⟨⟨h.os, h.tape, h.output, h.size, fun b hb e => ?_, fun b m hb e => ?_, fun b m k hb e => ?_, fun _ _ h0 => absurd h0 (Nat.not_lt_zero _)⟩, fun _ _ h => h⟩
  · obtain ⟨h3, h4⟩ := h.fr b hb (by simp [Gh.shutA, e, Go.PI.shutA])
    exact ⟨(backA_not fun _ => by rw [e]; rfl).trans h3, h4⟩
  · obtain ⟨h3, h4⟩ := h.held b m hb (by simp [Gh.shutA, e, Go.PI.shutA])
    exact ⟨(backA_not fun _ => by rw [e]; rfl).trans h3, h4⟩
  · obtain ⟨h1, h2, _⟩ := backA_own h hb (by rw [e]; rfl)
    exact ⟨.inl ⟨m, k, Nat.le_refl _, h1.trans e⟩, fun i _ => cell_of_heap h2 i⟩

theorem backA_keeps {G1 : Gh} {n : Nat} (h : Evo n G.shutA w G1 w') : Keeps (G1.cut 0) w' (G.backA w.heap.size G1) w' := by
  refine ⟨fun b i v hc hf => ⟨hc, ?_⟩, fun l b h => absurd (cut_bl' h).1 (Nat.not_lt_zero _)⟩
  have hf : G1.fz b i := hf
  by_cases ho : b < w.heap.size ∧ ownA (G.pm b) = true
  · obtain ⟨h1, h2, m, h3, h4⟩ := backA_own h ho.1 ho.2
    rcases hf with hf | ⟨m', k, hf, hi⟩ | ⟨m', hf, hi⟩
    · rw [h3] at hf; cases hf
    · rw [h3] at hf; cases hf
    · rw [h3] at hf; cases hf
      rcases h4 with h4 | ⟨κ, h4⟩
      · omega
      · exact .inr (.inl ⟨m, κ, h1.trans h4, hi⟩)
  · have : (G.backA w.heap.size G1).pm b = G1.pm b := backA_not fun hb => by
      cases hx : ownA (G.pm b) with
      | false => rfl
      | true => exact absurd ⟨hb, hx⟩ ho
    unfold Gh.fz
    rw [this]
    exact hf

theorem backA_moves {G1 : Gh} {n : Nat} (h : Evo n G.shutA w G1 w') (κ : Key) : Moves (G1.cut 0) w' (G.backA w.heap.size G1) w' κ κ := by
  have key : ∀ b q, G1.pm b = q → (∀ m, q ≠ .held m) → (G.backA w.heap.size G1).pm b = q := by
    intro b q e hq
    rw [backA_not fun hb => ?_]
    · exact e
    · cases hx : ownA (G.pm b) with
      | false => rfl
      | true =>
        obtain ⟨_, _, m, h3, _⟩ := backA_own h hb hx
        rw [h3] at e
        exact absurd e.symm (hq m)
  exact fun b _ => ⟨fun e => ⟨key b _ e (by simp), rfl⟩, fun m e => ⟨key b _ e (by simp), rfl⟩⟩

/-- The caller behind a call that saw no box. -/
theorem backA_rel (r : Rel G w st tmps) {bx' : List (List D)} {rv : D} {dirty : List Nat} {v : Value} {G1 : Gh} {up : Bool} (c : Came G.shutA w [] rv bx' dirty v G1 w') (k : Kept [] rv bx' dirty up) (hl : rv.low 0 = true) :
    Rel (G.backA w.heap.size G1) w' st tmps ∧ Slot (G.backA w.heap.size G1) w' tmps (fun i j => .r i j) rv v ∧ Step G w (G.backA w.heap.size G1) w' ∧ ∀ d, Unt base G w w' d := by
  have stp := backA_step c.evo
  have mv : ∀ κ, Moves G w (G.backA w.heap.size G1) w' κ κ := fun κ b hb => by
    refine ⟨fun e => ?_, fun m e => ?_⟩
    · obtain ⟨h1, h2, _⟩ := backA_own c.evo hb (by rw [e]; rfl)
      exact ⟨h1.trans e, h2⟩
    · obtain ⟨h1, h2, _⟩ := backA_own c.evo hb (by rw [e]; rfl)
      exact ⟨h1.trans e, h2⟩
  have hv : ∀ (loc b : Nat), G.bl[loc]? = some (some b) → (G.backA w.heap.size G1).pm b = G.pm b ∧ w'.heap[b]? = w.heap[b]? := fun loc b e => by
    obtain ⟨h1, h2, _⟩ := backA_own c.evo (r.bx.lt loc b e) (by rw [r.bx.var loc b e]; rfl)
    exact ⟨h1, h2⟩
  refine ⟨⟨r.len, fun t h h' => (r.slot t h h').move stp (fun i j => mv _) fun p _ => placeV_step rfl (fun l b e => (hv l b e).2) p, r.ln, r.bx.keep stp rfl hv fun _ _ => mv _⟩, ?_, stp, fun d loc b _ e _ => (hv loc b e).2⟩
  exact (cut_slot c.val hl).moveK (backA_keeps c.evo) (fun i j => backA_moves c.evo _) fun p hp => absurd hp (k.bors p)

end Go.PI
