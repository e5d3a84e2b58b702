/- Operands: what is used, what is taken. -/
import Derived.Test.YtoaadbakbfphgaaIe
namespace Go.PI
open Go

/-- No box leads to one behind it (beyond the old ones). -/
def LowInv (base : Nat) (st : St) : Prop := st.up = false → ∀ loc (h : loc < st.bx.length), lowL (max base (loc + 1)) st.bx[loc] = true

/-- What the state keeps of itself. -/
structure Grew (base : Nat) (st st' : St) : Prop where
  dirty : ∀ x ∈ st.dirty, x ∈ st'.dirty
  old : ∀ loc, loc < base → loc ∉ st'.dirty → st'.bx[loc]? = st.bx[loc]?
  up : st.up = true → st'.up = true
  len : st.bx.length ≤ st'.bx.length
  low : ∀ k, LowInv k st → LowInv k st'
  tml : st'.tm.length = st.tm.length

theorem Grew.refl (base : Nat) (st : St) : Grew base st st := ⟨fun _ h => h, fun _ _ _ => rfl, fun h => h, Nat.le_refl _, fun _ h => h, rfl⟩

theorem Grew.trans {base : Nat} {a b c : St} (h : Grew base a b) (k : Grew base b c) : Grew base a c where
  dirty x hx := k.dirty x (h.dirty x hx)
  old loc hl hd := (k.old loc hl hd).trans (h.old loc hl fun hx => hd (k.dirty _ hx))
  up hu := k.up (h.up hu)
  len := Nat.le_trans h.len k.len
  low n hl := k.low n (h.low n hl)
  tml := k.tml.trans h.tml

theorem low_set {n : Nat} {l : List D} {j : Nat} {x : D} (h : lowL n l = true) (hx : x.low n = true) : lowL n (l.set j x) = true := by
  induction l generalizing j with
  | nil => simp [lowL]
  | cons a r ih =>
    simp only [lowL, Bool.and_eq_true] at h
    cases j with
    | zero => simp [lowL, hx, h.2]
    | succ j => simp [lowL, h.1, ih h.2]

theorem low_get {n : Nat} {l : List D} (h : lowL n l = true) {j : Nat} (hj : j < l.length) : (l[j]).low n = true := by
  induction l generalizing j with
  | nil => simp at hj
  | cons a r ih =>
    simp only [lowL, Bool.and_eq_true] at h
    cases j with
    | zero => exact h.1
    | succ j => exact ih h.2 (by simpa using hj)

theorem low_iff {n : Nat} {l : List D} : lowL n l = true ↔ ∀ j (hj : j < l.length), (l[j]).low n = true := by
  refine ⟨fun h j hj => low_get h hj, fun h => ?_⟩
  induction l with
  | nil => rfl
  | cons a r ih =>
    simp only [lowL, Bool.and_eq_true]
    exact ⟨h 0 (by simp), ih fun j hj => h (j + 1) (by simpa using hj)⟩

theorem at_box {st : St} {loc j : Nat} {f n : Nat} {l : List (List D)} (h : st.at (.b loc j) = .sl f n l) : ∃ (hl : loc < st.bx.length) (hj : j < st.bx[loc].length), st.bx[loc][j] = .sl f n l := by
  simp only [St.at, St.box] at h
  have hl : loc < st.bx.length := by
    rcases Nat.lt_or_ge loc st.bx.length with hl | hl
    · exact hl
    · have e : st.bx.getD loc [] = [] := by simp [List.getD, List.getElem?_eq_none hl]
      rw [e] at h; cases h
  rw [getD_lt hl] at h
  have hj : j < st.bx[loc].length := by
    rcases Nat.lt_or_ge j st.bx[loc].length with hj | hj
    · exact hj
    · rw [List.getD, List.getElem?_eq_none hj] at h; cases h
  rw [getD_lt hj] at h
  exact ⟨hl, hj, h⟩

theorem grew_put (base : Nat) {st : St} {p : Pl} {x : D} {f n : Nat} {l : List (List D)} (h : st.at p = .sl f n l) (hx : ∀ k, (D.sl f n l).low k = true → x.low k = true) : Grew base st (st.put base p x) := by
  cases p with
  | s t j => exact ⟨fun _ h => h, fun _ _ _ => rfl, fun h => h, Nat.le_refl _, fun _ h => h, by simp [St.put]⟩
  | b loc j =>
    obtain ⟨hl, hj, e⟩ := at_box h
    refine ⟨fun y hy => ?_, fun m hm hd => ?_, fun h => h, by simp [St.put], fun _ hi hu m hm => ?_, rfl⟩
    · simp only [St.put]; split
      · exact List.mem_cons_of_mem _ hy
      · exact hy
    · simp only [St.put] at hd ⊢
      by_cases e' : loc = m
      · subst e'; rw [if_pos hm] at hd; exact absurd (List.mem_cons_self) hd
      · rw [List.getElem?_set_ne e']
    · have hm2 : m < st.bx.length := by simpa [St.put] using hm
      have := hi hu m hm2
      simp only [St.put, St.box, getD_lt hl, List.getElem_set]
      split
      · rename_i e'
        subst e'
        exact low_set this (hx _ (by rw [← e]; exact low_get this hj))
      · exact this

theorem down_ok (base : Nat) {G : Gh} {w : World} {st : St} {tmps : Array Value} (r : Rel G w st tmps) (p : Pl) :
    ∃ G', Rel G' w (st.down base p) tmps ∧ Step G w G' w ∧ G'.bl = G.bl ∧ Grew base st (st.down base p) ∧ (∀ n l u, st.at p = .sl 2 n l → placeV G w tmps p = some u → Ro G' w (.sl 0 n l) u) := by
  by_cases h : ∃ n l, st.at p = .sl 2 n l
  · obtain ⟨n, l, h⟩ := h
    have e : st.down base p = st.put base p (.sl 1 n l) := by simp only [St.down, h]
    rw [e]
    have hg : Grew base st (st.put base p (.sl 1 n l)) := grew_put base h fun k hk => hk
    cases hv : placeV G w tmps p with
    | none =>
      refine ⟨G, ?_, ⟨.refl _ _ _, fun _ _ h => h⟩, rfl, hg, fun _ _ _ _ e => by cases e⟩
      exact r.put base h ⟨.refl _ _ _, fun _ _ h => h⟩ rfl (fun _ _ _ => ⟨rfl, rfl⟩) (fun κ _ => .refl_of κ) (fun v e => by rw [hv] at e; cases e) trivial (by simp) (by simp)
    | some u =>
      obtain ⟨G', h1, h2, h3, h4, h5⟩ := own_down (r.at h hv)
      refine ⟨G', ?_, h1, h2, hg, fun n' l' u' e e' => ?_⟩
      · exact r.put base h h1 h2 (fun loc b e => ⟨h4 loc b r.bx.var e, rfl⟩) h3 (fun v e => by rw [hv] at e; cases e; exact h5) trivial (by simp) (by simp)
      · rw [h] at e; cases e; cases e'; exact h5.ro
  · have e : st.down base p = st := by
      simp only [St.down]
      split
      · rename_i n l e; exact absurd ⟨n, l, e⟩ h
      · rfl
    rw [e]
    exact ⟨G, r, ⟨.refl _ _ _, fun _ _ h => h⟩, rfl, .refl _ _, fun n l u e => absurd ⟨n, l, e⟩ h⟩

theorem undo_ok (base : Nat) {G : Gh} {w : World} {st : St} {tmps : Array Value} (r : Rel G w st tmps) (p : Pl) (κ : Key) :
    ∃ G', Rel G' w (st.undo base p) tmps ∧ Step G w G' w ∧ G'.bl = G.bl ∧ Grew base st (st.undo base p) ∧ (∀ κ', κ' ≠ p.key → Moves G w G' w κ' κ') ∧
      (∀ f n l u, st.at p = .sl f n l → placeV G w tmps p = some u → Leaf G' w tmps κ (.sl f n l) u) := by
  by_cases h : ∃ f n l, st.at p = .sl f n l
  · obtain ⟨f, n, l, h⟩ := h
    have e : st.undo base p = st.put base p .undef := by simp only [St.undo, h]
    rw [e]
    have hg : Grew base st (st.put base p .undef) := grew_put base h fun k _ => rfl
    cases hv : placeV G w tmps p with
    | none =>
      refine ⟨G, ?_, ⟨.refl _ _ _, fun _ _ h => h⟩, rfl, hg, fun _ _ => .refl_of _, fun _ _ _ _ _ e => by cases e⟩
      exact r.put base h ⟨.refl _ _ _, fun _ _ h => h⟩ rfl (fun _ _ _ => ⟨rfl, rfl⟩) (fun κ _ => .refl_of κ) (fun v e => by rw [hv] at e; cases e) trivial (by simp) (by simp)
    | some u =>
      have key : ∃ G', Step G w G' w ∧ G'.bl = G.bl ∧ (∀ κ'', κ'' ≠ p.key → Moves G w G' w κ'' κ'') ∧ (∀ (loc x : Nat), (∀ (loc x : Nat), G.bl[loc]? = some (some x) → G.pm x = .var loc) → G.bl[loc]? = some (some x) → G'.pm x = G.pm x) ∧ Leaf G' w tmps κ (.sl f n l) u := by
        have hl := r.at h hv
        match f, hl with
        | 0, hl => exact ⟨G, ⟨.refl _ _ _, fun _ _ h => h⟩, rfl, fun _ _ => .refl_of _, fun _ _ _ _ => rfl, hl⟩
        | 1, hl => exact tip_hand κ hl
        | 2, hl => exact own_hand κ hl
        | _ + 3, hl => exact hl.elim
      obtain ⟨G', h1, h2, h3, h4, h5⟩ := key
      refine ⟨G', ?_, h1, h2, hg, h3, fun f' n' l' u' e e' => ?_⟩
      · exact r.put base h h1 h2 (fun loc b e => ⟨h4 loc b r.bx.var e, rfl⟩) h3 (fun v e => trivial) trivial (by simp) (by simp)
      · rw [h] at e; cases e; cases e'; exact h5
  · have e : st.undo base p = st := by
      simp only [St.undo]
      split
      · rename_i f n l e; exact absurd ⟨f, n, l, e⟩ h
      · rfl
    rw [e]
    exact ⟨G, r, ⟨.refl _ _ _, fun _ _ h => h⟩, rfl, .refl _ _, fun _ _ => .refl_of _, fun f n l u e => absurd ⟨f, n, l, e⟩ h⟩

theorem Leaf.nonsl {G G' : Gh} {w w' : World} (h : Step G w G' w') {κ κ' : Key} {tmps tmps' : Array Value} {d : D} {v : Value} (hs : ∀ f n l, d ≠ .sl f n l)
    (hp : ∀ p, d.lbors p → placeV G' w' tmps' p = placeV G w tmps p) (t : Leaf G w tmps κ d v) : Leaf G' w' tmps' κ' d v := by
  cases d with
  | sl f n l => exact absurd rfl (hs _ _ _)
  | bor p => exact (hp p rfl).trans t
  | ea p n i off =>
    obtain ⟨b, o, len, cap, h1, h2⟩ := t
    exact ⟨b, o, len, cap, (hp p rfl).trans h1, h2⟩
  | rp l =>
    obtain ⟨b, o, e, vs, hv⟩ := t
    refine ⟨b, o, e, vs, fun j hj => ?_⟩
    obtain ⟨h1, h2, h3⟩ := hv j hj
    obtain ⟨p, q⟩ := h.evo.cell h1 h2
    exact ⟨p, q, h3.1.evo h.evo h.bl, h3.2⟩
  | undef => trivial
  | agg l => exact t.elim
  | tup l => exact t.elim
  | _ => exact Ro.evo h.evo t h.bl

/-- A leaf of a slot or of a constant, as an operand's. -/
structure Opd (G : Gh) (w : World) (tmps : Array Value) (p : Option Pl) (d : D) (u : Value) : Prop where
  leaf : (∀ f n l, d ≠ .sl f n l) → Leaf G w tmps (.r 0 0) d u
  place : ∀ q, p = some q → (∃ f n l, d = .sl f n l) → placeV G w tmps q = some u
  const : p = none → ∀ f n l, d = .sl f n l → (f = 2 ∧ l = [] ∧ u = .slice none 0 0) ∨ (f = 0 ∧ Ro G w (.sl 0 n l) u)

theorem placeV_bl {G G' : Gh} {w : World} {tmps : Array Value} (hb : G'.bl = G.bl) (p : Pl) : placeV G' w tmps p = placeV G w tmps p := by
  cases p <;> simp [placeV, hb]

theorem Opd.step {G G' : Gh} {w : World} {tmps : Array Value} {p : Option Pl} {d : D} {u : Value} (h : Step G w G' w) (hb : G'.bl = G.bl) (o : Opd G w tmps p d u) : Opd G' w tmps p d u :=
  ⟨fun hs => (o.leaf hs).nonsl h hs fun p _ => placeV_bl hb p, fun q e hd => (placeV_bl hb q).trans (o.place q e hd), fun e f n l hd => (o.const e f n l hd).imp id fun h' => ⟨h'.1, h'.2.evo h.evo h.bl⟩⟩

theorem leafUse_ok (base : Nat) {G : Gh} {w : World} {st st' : St} {tmps : Array Value} {p : Option Pl} {d d' : D} {u : Value} (r : Rel G w st tmps) (o : Opd G w tmps p d u) (h : leafUse base st p d = some (d', st')) :
    ∃ G', Rel G' w st' tmps ∧ Step G w G' w ∧ G'.bl = G.bl ∧ Grew base st st' ∧ Ro G' w d' u ∧ ∀ l, d' ≠ .agg l := by
  have stay : Step G w G w := ⟨.refl _ _ _, fun _ _ h => h⟩
  have at_ok : ∀ q, placeV G w tmps q = some u → (match st.at q with | .sl f n l => some (D.sl 0 n l, if f = 2 then st.down base q else st) | _ => none) = some (d', st') → ∃ G', Rel G' w st' tmps ∧ Step G w G' w ∧ G'.bl = G.bl ∧ Grew base st st' ∧ Ro G' w d' u ∧ ∀ l, d' ≠ .agg l := by
    intro q hq h
    split at h
    · rename_i f n l e
      simp only [Option.some.injEq, Prod.mk.injEq] at h
      obtain ⟨rfl, rfl⟩ := h
      by_cases hf : f = 2
      · subst hf
        obtain ⟨G', h1, h2, h3, h4, h5⟩ := down_ok base r q
        exact ⟨G', h1, h2, h3, h4, h5 n l u e hq, by simp⟩
      · rw [if_neg hf]
        refine ⟨G, r, stay, rfl, .refl _ _, ?_, by simp⟩
        have hl := r.at e hq
        match f, hl with
        | 0, hl => exact hl
        | 1, hl => exact Tip.ro hl
        | 2, _ => exact absurd rfl hf
        | _ + 3, hl => exact hl.elim
    · cases h
  have plain : (∀ f n l, d ≠ .sl f n l) → (∀ l, d ≠ .agg l) → (Leaf G w tmps (.r 0 0) d u → Ro G w d u) → some (d, st) = some (d', st') → ∃ G', Rel G' w st' tmps ∧ Step G w G' w ∧ G'.bl = G.bl ∧ Grew base st st' ∧ Ro G' w d' u ∧ ∀ l, d' ≠ .agg l := by
    intro hs hna hr h
    simp only [Option.some.injEq, Prod.mk.injEq] at h
    obtain ⟨rfl, rfl⟩ := h
    exact ⟨G, r, stay, rfl, .refl _ _, hr (o.leaf hs), hna⟩
  cases d with
  | sl f n l =>
    simp only [leafUse] at h
    cases p with
    | none =>
      simp only [Option.some.injEq, Prod.mk.injEq] at h
      obtain ⟨rfl, rfl⟩ := h
      rcases o.const rfl f n l rfl with ⟨_, rfl, rfl⟩ | ⟨_, hro⟩
      · exact ⟨G, r, stay, rfl, .refl _ _, .nils n, by simp⟩
      · exact ⟨G, r, stay, rfl, .refl _ _, hro, by simp⟩
    | some q => exact at_ok q (o.place q rfl ⟨f, n, l, rfl⟩) h
  | bor q => exact at_ok q (o.leaf (by simp)) h
  | undef => cases h
  | ea p n i off => cases h
  | rp l => cases h
  | agg l => cases h
  | tup l => cases h
  | _ => exact plain (by simp) (by simp) (fun t => t) h

theorem leavesUse_ok (base : Nat) {w : World} {tmps : Array Value} {p : Nat → Option Pl} (l : List D) : ∀ {G : Gh} {st st' : St} {j : Nat} {l' : List D} {us : List Value}, Rel G w st tmps → us.length = l.length →
    (∀ i (h : i < l.length) (h' : i < us.length), Opd G w tmps (p (j + i)) l[i] us[i]) → leavesUse base p j st l = some (l', st') →
    ∃ G', Rel G' w st' tmps ∧ Step G w G' w ∧ G'.bl = G.bl ∧ Grew base st st' ∧ l'.length = l.length ∧ ∀ i (h : i < l'.length) (h' : i < us.length), Ro G' w l'[i] us[i] ∧ ∀ q, l'[i] ≠ .agg q := by
  induction l with
  | nil =>
    intro G st st' j l' us r hl o h
    simp only [leavesUse, Option.some.injEq, Prod.mk.injEq] at h
    obtain ⟨rfl, rfl⟩ := h
    exact ⟨G, r, ⟨.refl _ _ _, fun _ _ h => h⟩, rfl, .refl _ _, rfl, fun i h => by simp at h⟩
  | cons d t ih =>
    intro G st st' j l' us r hl o h
    cases us with
    | nil => simp at hl
    | cons u us =>
      simp only [leavesUse] at h
      split at h
      · rename_i x s1 e1
        split at h
        · rename_i y s2 e2
          simp only [Option.some.injEq, Prod.mk.injEq] at h
          obtain ⟨rfl, rfl⟩ := h
          obtain ⟨G1, r1, h1, b1, g1, q1⟩ := leafUse_ok base r (o 0 (by simp) (by simp)) e1
          obtain ⟨G2, r2, h2, b2, g2, hl2, q2⟩ := ih r1 (by simpa using hl) (fun i hi hi' => by
            have := (o (i + 1) (by simpa using hi) (by simpa using hi')).step h1 b1
            rw [show j + (i + 1) = j + 1 + i by omega] at this
            exact this) e2
          refine ⟨G2, r2, ⟨h1.evo.trans h2.evo, fun _ _ e => h2.bl _ _ (h1.bl _ _ e)⟩, b2.trans b1, g1.trans g2, by simp [hl2], fun i hi hi' => ?_⟩
          cases i with
          | zero => exact ⟨q1.1.evo h2.evo h2.bl, q1.2⟩
          | succ i => exact q2 i (by simpa using hi) (by simpa using hi')
        · cases h
      · cases h

/-- A taken leaf. -/
theorem leafTake_ok (base : Nat) {G : Gh} {w : World} {st st' : St} {tmps : Array Value} {p : Option Pl} {d d' : D} {u : Value} (r : Rel G w st tmps) (o : Opd G w tmps p d u) (κ : Key) (h : leafTake base st p d = some (d', st')) :
    ∃ G', Rel G' w st' tmps ∧ Step G w G' w ∧ G'.bl = G.bl ∧ Grew base st st' ∧ (∀ i j, Moves G w G' w (.r i j) (.r i j)) ∧ Leaf G' w tmps κ d' u ∧ d'.plain ∧ d'.cells.length = 1 := by
  have stay : Step G w G w := ⟨.refl _ _ _, fun _ _ h => h⟩
  have at_ok : ∀ q, placeV G w tmps q = some u → (match st.at q with | .sl f n l => some (D.sl f n l, if f = 0 then st else st.undo base q) | _ => none) = some (d', st') →
      ∃ G', Rel G' w st' tmps ∧ Step G w G' w ∧ G'.bl = G.bl ∧ Grew base st st' ∧ (∀ i j, Moves G w G' w (.r i j) (.r i j)) ∧ Leaf G' w tmps κ d' u ∧ d'.plain ∧ d'.cells.length = 1 := by
    intro q hq h
    split at h
    · rename_i f n l e
      simp only [Option.some.injEq, Prod.mk.injEq] at h
      obtain ⟨rfl, rfl⟩ := h
      by_cases hf : f = 0
      · subst hf
        exact ⟨G, r, stay, rfl, .refl _ _, fun _ _ => .refl_of _, r.at e hq, trivial, rfl⟩
      · rw [if_neg hf]
        obtain ⟨G', h1, h2, h3, h4, h5, h6⟩ := undo_ok base r q κ
        exact ⟨G', h1, h2, h3, h4, fun i j => h5 _ (by cases q <;> simp [Pl.key]), h6 f n l u e hq, trivial, rfl⟩
    · cases h
  have plain : (∀ f n l, d ≠ .sl f n l) → d.plain → d.cells.length = 1 → some (d, st) = some (d', st') →
      ∃ G', Rel G' w st' tmps ∧ Step G w G' w ∧ G'.bl = G.bl ∧ Grew base st st' ∧ (∀ i j, Moves G w G' w (.r i j) (.r i j)) ∧ Leaf G' w tmps κ d' u ∧ d'.plain ∧ d'.cells.length = 1 := by
    intro hs hp hc h
    simp only [Option.some.injEq, Prod.mk.injEq] at h
    obtain ⟨rfl, rfl⟩ := h
    exact ⟨G, r, stay, rfl, .refl _ _, fun _ _ => .refl_of _, (o.leaf hs).nonsl stay hs fun _ _ => rfl, hp, hc⟩
  cases d with
  | sl f n l =>
    simp only [leafTake] at h
    cases p with
    | none =>
      simp only [Option.some.injEq, Prod.mk.injEq] at h
      obtain ⟨rfl, rfl⟩ := h
      rcases o.const rfl f n l rfl with ⟨rfl, rfl, rfl⟩ | ⟨rfl, hro⟩
      · exact ⟨G, r, stay, rfl, .refl _ _, fun _ _ => .refl_of _, .inl ⟨rfl, rfl⟩, trivial, rfl⟩
      · exact ⟨G, r, stay, rfl, .refl _ _, fun _ _ => .refl_of _, hro, trivial, rfl⟩
    | some q => exact at_ok q (o.place q rfl ⟨f, n, l, rfl⟩) h
  | bor q => exact at_ok q (o.leaf (by simp)) h
  | undef => cases h
  | ea p n i off => cases h
  | rp l => cases h
  | agg l => cases h
  | tup l => cases h
  | _ => exact plain (by simp) trivial rfl h

theorem leavesTake_ok (base : Nat) {w : World} {tmps : Array Value} {p : Nat → Option Pl} (κ : Nat → Nat) (i0 : Nat) (l : List D) : ∀ {G : Gh} {st st' : St} {j : Nat} {l' : List D} {us : List Value}, Rel G w st tmps → us.length = l.length →
    (∀ i (h : i < l.length) (h' : i < us.length), Opd G w tmps (p (j + i)) l[i] us[i]) → leavesTake base p j st l = some (l', st') →
    ∃ G', Rel G' w st' tmps ∧ Step G w G' w ∧ G'.bl = G.bl ∧ Grew base st st' ∧ (∀ i j, Moves G w G' w (.r i j) (.r i j)) ∧ l'.length = l.length ∧
      ∀ i (h : i < l'.length) (h' : i < us.length), Leaf G' w tmps (.r i0 (κ i)) l'[i] us[i] ∧ l'[i].plain ∧ l'[i].cells.length = 1 := by
  induction l generalizing κ with
  | nil =>
    intro G st st' j l' us r hl o h
    simp only [leavesTake, Option.some.injEq, Prod.mk.injEq] at h
    obtain ⟨rfl, rfl⟩ := h
    exact ⟨G, r, ⟨.refl _ _ _, fun _ _ h => h⟩, rfl, .refl _ _, fun _ _ => .refl_of _, rfl, fun i h => by simp at h⟩
  | cons d t ih =>
    intro G st st' j l' us r hl o h
    cases us with
    | nil => simp at hl
    | cons u us =>
      simp only [leavesTake] at h
      split at h
      · rename_i x s1 e1
        split at h
        · rename_i y s2 e2
          simp only [Option.some.injEq, Prod.mk.injEq] at h
          obtain ⟨rfl, rfl⟩ := h
          obtain ⟨G1, r1, h1, b1, g1, m1, q1, p1, c1⟩ := leafTake_ok base r (o 0 (by simp) (by simp)) (.r i0 (κ 0)) e1
          obtain ⟨G2, r2, h2, b2, g2, m2, hl2, q2⟩ := ih (fun i => κ (i + 1)) r1 (by simpa using hl) (fun i hi hi' => by
            have := (o (i + 1) (by simpa using hi) (by simpa using hi')).step h1 b1
            rw [show j + (i + 1) = j + 1 + i by omega] at this
            exact this) e2
          have mm : ∀ i j, Moves G w G2 w (.r i j) (.r i j) := fun i j x hx =>
            ⟨fun e => ⟨((m2 i j x hx).1 ((m1 i j x hx).1 e).1).1, rfl⟩, fun m e => ⟨((m2 i j x hx).2 m ((m1 i j x hx).2 m e).1).1, rfl⟩⟩
          refine ⟨G2, r2, ⟨h1.evo.trans h2.evo, fun _ _ e => h2.bl _ _ (h1.bl _ _ e)⟩, b2.trans b1, g1.trans g2, mm, by simp [hl2], fun i hi hi' => ?_⟩
          cases i with
          | zero => exact ⟨q1.move h2 (m2 _ _) fun p hb => (lbors_plain p1 p hb).elim, p1, c1⟩
          | succ i => exact q2 i (by simpa using hi) (by simpa using hi')
        · cases h
      · cases h

def ev (tmps : Array Value) : Operand → Value
  | .tmp t => tmps.getD t undef
  | .const v => v
  | .global g => .pointer (some ⟨g, 0, none⟩)
  | .func f => .func (.func f) #[] #[]

theorem ev_eq (tmps : Array Value) (ds : List Deferred) (x : Operand) : Act.eval ⟨tmps, ds⟩ x = ev tmps x := by cases x <;> rfl

/-- What stands in an operand, with its places: a leaf, or leaves. -/
theorem opd_const {G : Gh} {w : World} {tmps : Array Value} (T : Nat → TI) (ty : Nat) (v : Value) (h : constD T ty v ≠ .undef) : Opd G w tmps none (constD T ty v) v ∧ ∀ l, constD T ty v ≠ .agg l := by
  unfold constD at h ⊢
  split <;> try (exfalso; simp at h; done)
  · exact ⟨⟨fun _ => .int _ _, by simp, by simp⟩, by simp⟩
  · exact ⟨⟨fun _ => .bool _, by simp, by simp⟩, by simp⟩
  · exact ⟨⟨fun _ => .str _, by simp, by simp⟩, by simp⟩
  · split
    · exact ⟨⟨fun hs => absurd rfl (hs _ _ _), by simp, fun _ f n l e => by cases e; exact .inl ⟨rfl, rfl, rfl⟩⟩, by simp⟩
    · rename_i hn; exfalso; simp at h
  · exact ⟨⟨fun _ => .nilp, by simp, by simp⟩, by simp⟩
  · exact ⟨⟨fun _ => .nilf, by simp, by simp⟩, by simp⟩
  · exact ⟨⟨fun _ => .nili, by simp, by simp⟩, by simp⟩

/-- The leaves of what stands in a slot. -/
theorem opd_slot {G : Gh} {w : World} {st : St} {tmps : Array Value} (r : Rel G w st tmps) {t : Nat} :
    (st.get t = .undef) ∨ (∃ l, st.get t = .tup l) ∨ (∃ l vs, st.get t = .agg l ∧ tmps.getD t undef = .agg vs ∧ vs.size = l.length ∧ ∀ j (h : j < l.length) (h' : j < vs.size), Opd G w tmps (some (.s t j)) l[j] vs[j]) ∨
      ((∀ l, st.get t ≠ .agg l) ∧ Opd G w tmps (some (.s t 0)) (st.get t) (tmps.getD t undef)) := by
  rcases Nat.lt_or_ge t st.tm.length with ht | ht
  · have ht' : t < tmps.size := by rw [← r.len]; exact ht
    have hs := r.slot t ht ht'
    have eg : tmps.getD t undef = tmps[t] := by simp [Array.getD, ht']
    rw [St.get_lt ht, eg]
    have hpv : ∀ j, placeV G w tmps (.s t j) = tmps[t].cells[j]? := fun j => by simp [placeV, Array.getElem?_eq_getElem ht']
    generalize st.tm[t] = d at *
    generalize tmps[t] = u at *
    rcases tup_or d with ⟨q, rfl⟩ | htu
    · exact .inr (.inl ⟨q, rfl⟩)
    have hs := (slot_of htu).mp hs
    rcases agg_or d with ⟨q, rfl⟩ | ha
    · obtain ⟨vs, rfl, hl, hq⟩ := hs
      refine .inr (.inr (.inl ⟨q, vs, rfl, rfl, hl, fun j hj hj' => ⟨fun hsl => (hq j hj hj').nonsl ⟨.refl _ _ _, fun _ _ h => h⟩ hsl fun _ _ => rfl, fun p e _ => ?_, by simp⟩⟩))
      cases e
      rw [hpv]
      simp [Value.cells, hj']
    · have hl := (val_of ha).mp hs
      refine .inr (.inr (.inr ⟨ha, ⟨fun hsl => hl.nonsl ⟨.refl _ _ _, fun _ _ h => h⟩ hsl fun _ _ => rfl, fun p e he => ?_, by simp⟩⟩))
      cases e
      obtain ⟨f, n, l, rfl⟩ := he
      obtain ⟨a, len, cap, rfl⟩ := leaf_slice hl
      rw [hpv]; rfl
  · left
    simp [St.get, List.getD, List.getElem?_eq_none ht]

theorem use_ok (base : Nat) {G : Gh} {w : World} {st st' : St} {tmps : Array Value} (T : Nat → TI) (ty : Nat) {x : Operand} {d : D} (r : Rel G w st tmps) (h : st.use base T ty x = some (d, st')) :
    ∃ G', Rel G' w st' tmps ∧ Step G w G' w ∧ G'.bl = G.bl ∧ Grew base st st' ∧ Ro G' w d (ev tmps x) ∧ ∀ l, d = .agg l → ∀ e ∈ l, ∀ q, e ≠ .agg q := by
  have leaf : ∀ (d0 : D) (p : Option Pl) (u : Value), (∀ l, d0 ≠ .agg l) → Opd G w tmps p d0 u → leafUse base st p d0 = some (d, st') → ∃ G', Rel G' w st' tmps ∧ Step G w G' w ∧ G'.bl = G.bl ∧ Grew base st st' ∧ Ro G' w d u ∧ ∀ l, d = .agg l → ∀ e ∈ l, ∀ q, e ≠ .agg q := by
    intro d0 p u _ o h
    obtain ⟨G', a1, a2, a3, a4, a5, a6⟩ := leafUse_ok base r o h
    exact ⟨G', a1, a2, a3, a4, a5, fun l e => absurd e (a6 l)⟩
  cases x with
  | tmp t =>
    simp only [St.use, St.raw, tmpOf] at h
    rcases opd_slot r (t := t) with e | ⟨l, e⟩ | ⟨l, vs, e, ev', hl, hq⟩ | ⟨ha, o⟩
    · rw [e] at h; cases h
    · rw [e] at h; cases h
    · rw [e] at h
      simp only [useD, Option.map_eq_some_iff] at h
      obtain ⟨⟨l', s⟩, h1, h2⟩ := h
      simp only [Prod.mk.injEq] at h2
      obtain ⟨rfl, rfl⟩ := h2
      obtain ⟨G', r', s', b', g', hl', q'⟩ := leavesUse_ok base l (us := vs.toList) r (by simpa using hl) (fun i hi hi' => by simpa using hq i hi (by simpa using hi')) h1
      refine ⟨G', r', s', b', g', ?_, fun q e => ?_⟩
      · show Ro G' w (.agg l') (tmps.getD t undef)
        rw [ev']
        exact .agg l' vs (by omega) fun i hi hi' => by
          have := (q' i hi (by simpa using hi')).1
          rw [Array.getElem_toList] at this
          exact this
      · cases e
        intro x hx
        obtain ⟨i, hi, rfl⟩ := List.mem_iff_getElem.mp hx
        exact (q' i hi (by simp; omega)).2
    · have e : useD base st (some t) (st.get t) = leafUse base st (some (.s t 0)) (st.get t) := by
        generalize st.get t = d0 at ha
        cases d0 <;> first | rfl | exact absurd rfl (ha _)
      rw [e] at h
      exact leaf _ _ _ ha o h
  | const v =>
    simp only [St.use, St.raw, tmpOf] at h
    by_cases hu : constD T ty v = .undef
    · rw [hu] at h; cases h
    · obtain ⟨o, ha⟩ := opd_const (G := G) (w := w) (tmps := tmps) T ty v hu
      have e : useD base st none (constD T ty v) = leafUse base st none (constD T ty v) := by
        generalize constD T ty v = d0 at ha
        cases d0 <;> first | rfl | exact absurd rfl (ha _)
      rw [e] at h
      exact leaf _ _ _ ha o h
  | func f =>
    simp only [St.use, St.raw, useD, leafUse, Option.some.injEq, Prod.mk.injEq] at h
    obtain ⟨rfl, rfl⟩ := h
    exact ⟨G, r, ⟨.refl _ _ _, fun _ _ h => h⟩, rfl, .refl _ _, .fn _ [] [] #[] #[] rfl rfl (by simp) (by simp) (by simp), by simp⟩
  | global g => cases h

theorem take_ok (base : Nat) {G : Gh} {w : World} {st st' : St} {tmps : Array Value} (T : Nat → TI) (ty i0 : Nat) {x : Operand} {d : D} (r : Rel G w st tmps) (h : st.take base T ty x = some (d, st')) :
    ∃ G', Rel G' w st' tmps ∧ Step G w G' w ∧ G'.bl = G.bl ∧ Grew base st st' ∧ (∀ i j, Moves G w G' w (.r i j) (.r i j)) ∧ Val G' w tmps (fun j => .r i0 j) d (ev tmps x) ∧ (∀ p, ¬ d.sbors p) ∧ (∀ l, d ≠ .tup l) := by
  have nob : ∀ d : D, d.plain → d.cells.length = 1 → (∀ l, d ≠ .agg l) → (∀ l, d ≠ .tup l) → ∀ p, ¬ d.sbors p := fun d hp _ ha ht p hb =>
    lbors_plain hp p ((bors_of ha).mp ((sbors_of ht).mp hb))
  have leaf : ∀ (d0 : D) (p : Option Pl) (u : Value), Opd G w tmps p d0 u → leafTake base st p d0 = some (d, st') →
      ∃ G', Rel G' w st' tmps ∧ Step G w G' w ∧ G'.bl = G.bl ∧ Grew base st st' ∧ (∀ i j, Moves G w G' w (.r i j) (.r i j)) ∧ Val G' w tmps (fun j => .r i0 j) d u ∧ (∀ p, ¬ d.sbors p) ∧ (∀ l, d ≠ .tup l) := by
    intro d0 p u o h
    obtain ⟨G', a1, a2, a3, a4, a5, a6, a7, a8⟩ := leafTake_ok base r o (.r i0 0) h
    have ha : ∀ l, d ≠ .agg l := by rintro l rfl; exact a6.elim
    have ht : ∀ l, d ≠ .tup l := by rintro l rfl; exact a6.elim
    exact ⟨G', a1, a2, a3, a4, a5, (val_of ha).mpr a6, nob d a7 a8 ha ht, ht⟩
  cases x with
  | tmp t =>
    simp only [St.take, St.raw, tmpOf] at h
    rcases opd_slot r (t := t) with e | ⟨l, e⟩ | ⟨l, vs, e, ev', hl, hq⟩ | ⟨ha, o⟩
    · rw [e] at h; cases h
    · rw [e] at h; cases h
    · rw [e] at h
      simp only [takeD, Option.map_eq_some_iff] at h
      obtain ⟨⟨l', s⟩, h1, h2⟩ := h
      simp only [Prod.mk.injEq] at h2
      obtain ⟨rfl, rfl⟩ := h2
      obtain ⟨G', r', s', b', g', m', hl', q'⟩ := leavesTake_ok base (fun j => j) i0 l (us := vs.toList) r (by simpa using hl) (fun i hi hi' => by simpa using hq i hi (by simpa using hi')) h1
      refine ⟨G', r', s', b', g', m', ?_, ?_, by simp⟩
      · show Val G' w tmps _ (.agg l') (tmps.getD t undef)
        rw [ev']
        exact ⟨vs, rfl, by omega, fun i hi hi' => by
          have := (q' i hi (by simpa using hi')).1
          rw [Array.getElem_toList] at this
          exact this⟩
      · rintro p ⟨e, he, hb⟩
        obtain ⟨i, hi, rfl⟩ := List.mem_iff_getElem.mp he
        exact lbors_plain (q' i hi (by simp; omega)).2.1 p hb
    · have e : takeD base st (some t) (st.get t) = leafTake base st (some (.s t 0)) (st.get t) := by
        generalize st.get t = d0 at ha
        cases d0 <;> first | rfl | exact absurd rfl (ha _)
      rw [e] at h
      exact leaf _ _ _ o h
  | const v =>
    simp only [St.take, St.raw, tmpOf] at h
    by_cases hu : constD T ty v = .undef
    · rw [hu] at h; cases h
    · obtain ⟨o, ha⟩ := opd_const (G := G) (w := w) (tmps := tmps) T ty v hu
      have e : takeD base st none (constD T ty v) = leafTake base st none (constD T ty v) := by
        generalize constD T ty v = d0 at ha
        cases d0 <;> first | rfl | exact absurd rfl (ha _)
      rw [e] at h
      exact leaf _ _ _ o h
  | func f =>
    simp only [St.take, St.raw, takeD, leafTake, Option.some.injEq, Prod.mk.injEq] at h
    obtain ⟨rfl, rfl⟩ := h
    exact ⟨G, r, ⟨.refl _ _ _, fun _ _ h => h⟩, rfl, .refl _ _, fun _ _ => .refl_of _, Ro.fn _ [] [] #[] #[] rfl rfl (by simp) (by simp) (by simp), fun p hb => hb, by simp⟩
  | global g => cases h

end Go.PI
