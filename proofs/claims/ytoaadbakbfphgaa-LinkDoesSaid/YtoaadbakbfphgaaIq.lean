/- Structs, arrays and slices put together of parts. -/
import Derived.Test.YtoaadbakbfphgaaIp
namespace Go.PI
open Go

variable {P : Program} {base : Nat} {G : Gh} {w : World} {st : St} {tmps : Array Value} {T : Nat → TI}

/-- What was taken is known, and borrows nothing. -/
theorem leafTake_def {st st' : St} {p : Option Pl} {d d' : D} (h : leafTake base st p d = some (d', st')) : d'.plain ∧ d' ≠ .undef := by
  have at_ok : ∀ q, (match st.at q with | .sl f n l => some (D.sl f n l, if f = 0 then st else st.undo base q) | _ => none) = some (d', st') → d'.plain ∧ d' ≠ .undef := by
    intro q h
    split at h
    · cases h; exact ⟨trivial, by simp⟩
    · cases h
  cases d with
  | sl f n l =>
    cases p with
    | none => cases h; exact ⟨trivial, by simp⟩
    | some q => exact at_ok q h
  | bor q => exact at_ok q h
  | undef => cases h
  | ea p n i off => cases h
  | rp l => cases h
  | agg l => cases h
  | tup l => cases h
  | _ => cases h; exact ⟨trivial, by simp⟩

theorem leavesTake_def {p : Nat → Option Pl} (l : List D) : ∀ {st st' : St} {j : Nat} {l' : List D}, leavesTake base p j st l = some (l', st') → ∀ d ∈ l', d.plain ∧ d ≠ .undef := by
  induction l with
  | nil =>
    intro st st' j l' h
    cases h
    simp
  | cons d l ih =>
    intro st st' j l' h
    simp only [leavesTake] at h
    split at h
    · rename_i x s1 h1
      split at h
      · rename_i y s2 h2
        cases h
        intro z hz
        rcases List.mem_cons.mp hz with rfl | hz
        · exact leafTake_def h1
        · exact ih h2 z hz
      · cases h
    · cases h

theorem leafTake_agg {st st' : St} {p : Option Pl} {d : D} {l : List D} (h : leafTake base st p d = some (.agg l, st')) : False := by
  have at_ok : ∀ q, (match st.at q with | .sl f n l => some (D.sl f n l, if f = 0 then st else st.undo base q) | _ => none) ≠ some (.agg l, st') := by
    intro q h
    split at h <;> cases h
  cases d with
  | sl f n l =>
    cases p with
    | none => cases h
    | some q => exact at_ok q h
  | bor q => exact at_ok q h
  | _ => cases h

theorem take_def {ty : Nat} {x : Operand} {d : D} {st' : St} (h : st.take base T ty x = some (d, st')) : ∀ e ∈ d.cells, e.plain ∧ e ≠ .undef := by
  unfold St.take takeD at h
  split at h
  · simp only [Option.map_eq_some_iff] at h
    obtain ⟨⟨l', s⟩, h1, h2⟩ := h
    cases h2
    exact leavesTake_def _ h1
  · have h1 := leafTake_def h
    have ha : ∀ l, d ≠ .agg l := by
      rintro l rfl
      exact leafTake_agg h
    intro e he
    cases d <;> first | exact absurd rfl (ha _) | (simp only [D.cells, List.mem_singleton] at he; subst he; exact h1)

/-- A value's cells, one by one. -/
theorem val_cells {κ : Nat → Key} {d : D} {u : Value} (h : Val G w tmps κ d u) (hp : ∀ p, ¬ d.sbors p) (hd : ∀ e ∈ d.cells, e ≠ .undef) (hpl : ∀ e ∈ d.cells, e.plain) :
    d.cells.length = u.cells.size ∧ ∀ j (h : j < d.cells.length) (h' : j < u.cells.size), Leaf G w tmps (κ j) d.cells[j] u.cells[j] := by
  rcases agg_or d with ⟨l, rfl⟩ | ha
  · obtain ⟨vs, rfl, hs, hv⟩ := h
    exact ⟨hs.symm, hv⟩
  · have h1 := (val_of ha).mp h
    have hc : d.cells = [d] := by cases d <;> first | rfl | exact absurd rfl (ha _)
    have ho : u.oneCell' = true := oneCell_of_leaf h1 (hpl d (by simp [hc])) (hd d (by simp [hc]))
    have hu : u.cells = #[u] := by cases u <;> first | rfl | simp [Value.oneCell'] at ho
    refine ⟨by rw [hc, hu]; rfl, fun j hj hj' => ?_⟩
    have hj0 : j = 0 := by rw [hc] at hj; simpa using hj
    subst hj0
    simp only [hc, hu]
    exact h1

theorem take_cells (base : Nat) {G : Gh} {w : World} {st st' : St} {tmps : Array Value} (T : Nat → TI) (ty i0 : Nat) {x : Operand} {d : D} (r : Rel G w st tmps) (h : st.take base T ty x = some (d, st')) :
    ∃ G', Rel G' w st' tmps ∧ Step G w G' w ∧ G'.bl = G.bl ∧ Grew base st st' ∧ (∀ i j, Moves G w G' w (.r i j) (.r i j)) ∧ d.cells.length = (ev tmps x).cells.size ∧
      (∀ j (h : j < d.cells.length) (h' : j < (ev tmps x).cells.size), Leaf G' w tmps (.r i0 j) d.cells[j] (ev tmps x).cells[j]) ∧ ∀ e ∈ d.cells, e.plain ∧ e ≠ .undef := by
  obtain ⟨G', r', q', b', g', m', v', nb, nt⟩ := take_ok base T ty i0 r h
  have hd := take_def h
  obtain ⟨c1, c2⟩ := val_cells v' nb (fun e he => (hd e he).2) fun e he => (hd e he).1
  exact ⟨G', r', q', b', g', m', c1, c2, hd⟩

/-- What is used, cell by cell. -/
theorem ro_cells {d : D} {u : Value} (h : Ro G w d u) (hf : ∀ l, d = .agg l → ∀ e ∈ l, ∀ q, e ≠ .agg q) :
    d.cells.length = u.cells.size ∧ ∀ j (h : j < d.cells.length) (h' : j < u.cells.size), Ro G w d.cells[j] u.cells[j] ∧ ∀ q, d.cells[j] ≠ .agg q := by
  rcases agg_or d with ⟨l, rfl⟩ | ha
  · cases h with
    | agg _ vs hs hv => exact ⟨hs.symm, fun j hj hj' => ⟨hv j hj hj', hf l rfl _ (List.getElem_mem hj)⟩⟩
  · have hc : d.cells = [d] := by cases d <;> first | rfl | exact absurd rfl (ha _)
    have ho : u.oneCell' = true := oneCell_of_ro h ha
    have hu : u.cells = #[u] := by cases u <;> first | rfl | simp [Value.oneCell'] at ho
    refine ⟨by rw [hc, hu]; rfl, fun j hj hj' => ?_⟩
    have hj0 : j = 0 := by rw [hc] at hj; simpa using hj
    subst hj0
    simp only [hc, hu]
    exact ⟨h, ha⟩

/-- Parts that go into cells. -/
theorem fill_ok (R : Nat → D → Value → Prop) (place : Nat → Option (Nat × Nat)) : ∀ (parts : List (Nat × D)) (vparts : List (Nat × Value)) (cells cells' : List D) (cs : Array Value), vparts.length = parts.length →
    (∀ k (h : k < parts.length) (h' : k < vparts.length), vparts[k].1 = parts[k].1 ∧ parts[k].2.cells.length = vparts[k].2.cells.size ∧
      ∀ off n, place parts[k].1 = some (off, n) → ∀ j (h : j < parts[k].2.cells.length) (h' : j < vparts[k].2.cells.size), R (off + j) parts[k].2.cells[j] vparts[k].2.cells[j]) →
    cs.size = cells.length → (∀ j (h : j < cells.length) (h' : j < cs.size), R j cells[j] cs[j]) → fillD place cells parts = some cells' →
    ∃ cs', Instr.fill place cs vparts = some cs' ∧ cs'.size = cells'.length ∧ cells'.length = cells.length ∧ ∀ j (h : j < cells'.length) (h' : j < cs'.size), R j cells'[j] cs'[j]
  | [], vparts, cells, cells', cs, hl, _, hs, hr, h => by
    have : vparts = [] := by simpa using hl
    subst this
    cases h
    exact ⟨cs, rfl, hs, rfl, hr⟩
  | (i, v) :: parts, [], _, _, _, hl, _, _, _, _ => by simp at hl
  | (i, v) :: parts, (i', u) :: vparts, cells, cells', cs, hl, hp, hs, hr, h => by
    obtain ⟨e1, e2, e3⟩ := hp 0 (by simp) (by simp)
    simp only [List.getElem_cons_zero] at e1 e2 e3
    subst e1
    simp only [fillD] at h
    cases hpl : place i' with
    | none => rw [hpl] at h; cases h
    | some on =>
      obtain ⟨off, n⟩ := on
      rw [hpl] at h
      simp only at h
      split at h
      · rename_i hc
        obtain ⟨hc1, hc2⟩ := hc
        have hlen : (cells.take off ++ v.cells ++ cells.drop (off + n)).length = cells.length := by simp; omega
        obtain ⟨g1, g2⟩ := Great.foldl_set off u.cells.toList 0 cs
        have hfold : u.cells.zipIdx.foldl (fun cs (x : Value × Nat) => cs.setIfInBounds (off + x.2) x.1) cs = (u.cells.toList.zipIdx 0).foldl (fun cs (x : Value × Nat) => cs.setIfInBounds (off + x.2) x.1) cs := by
          rw [← Array.foldl_toList]
          simp
        have hvu : u.cells.size = n := by omega
        obtain ⟨cs', f1, f2, f3, f4⟩ := fill_ok R place parts vparts _ cells' ((u.cells.toList.zipIdx 0).foldl (fun cs (x : Value × Nat) => cs.setIfInBounds (off + x.2) x.1) cs) (by simpa using hl)
          (fun k hk hk' => hp (k + 1) (by simpa using hk) (by simpa using hk')) (by rw [g1, hlen, hs]) (fun j hj hj' => by
            have hj2 : j < cs.size := by rw [g1] at hj'; exact hj'
            have g3 := g2 j
            rw [Array.getElem?_eq_getElem hj'] at g3
            simp only [Nat.add_zero, Array.length_toList] at g3
            by_cases hin : off ≤ j ∧ j < off + n
            · rw [if_pos (by omega)] at g3
              have hjv : j - off < v.cells.length := by omega
              have hju : j - off < u.cells.size := by omega
              have := e3 off n hpl (j - off) hjv hju
              rw [show off + (j - off) = j by omega] at this
              have a1 : (cells.take off ++ v.cells ++ cells.drop (off + n))[j] = v.cells[j - off] := by
                rw [List.getElem_append_left (by simp; omega), List.getElem_append_right (by simp; omega)]
                congr 1
                simp; omega
              have a2 : u.cells.toList[j - off]? = some u.cells[j - off] := by simp [hju]
              rw [a2] at g3
              rw [a1, Option.some.inj g3]
              exact this
            · rw [if_neg (by omega), Array.getElem?_eq_getElem hj2] at g3
              have hj3 : j < cells.length := by omega
              have a1 : (cells.take off ++ v.cells ++ cells.drop (off + n))[j] = cells[j] := by
                by_cases hlt : j < off
                · rw [List.getElem_append_left (by simp; omega), List.getElem_append_left (by simp; omega)]
                  simp
                · rw [List.getElem_append_right (by simp; omega)]
                  simp only [List.getElem_drop]
                  congr 1
                  simp; omega
              rw [a1, Option.some.inj g3]
              exact hr j hj3 hj2) h
        refine ⟨cs', ?_, f2, by rw [f3, hlen], f4⟩
        unfold Instr.fill
        simp only [hpl]
        rw [if_neg (by simp; omega), hfold]
        exact f1
      · cases h

end Go.PI
