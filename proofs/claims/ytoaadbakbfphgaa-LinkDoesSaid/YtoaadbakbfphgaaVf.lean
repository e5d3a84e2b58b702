import Derived.Test.YtoaadbakbfphgaaVa
import Derived.Laws.StructEq
section
/- Typed values and plain ones: what becomes of a state when the types are forgotten. -/
namespace Go.PI
open Go

def cellsD : (t : Ty) → t.den → List D
  | .int k, n => [.int k n]
  | .bool, b => [.bool b]
  | .str, s => [.str s]
  | .sl f t, l => [.sl f t.width (List.map (cellsD t) l)]
  | .unit, _ => []
  | .pair a b, x => cellsD a x.1 ++ cellsD b x.2
  | .agg t, x => [.agg (cellsD t x)]
  | .tup t, x => [.tup (cellsD t x)]
  | .rp t, x => [.rp (cellsD t x)]
  | .ptr l o, _ => [.ptr l o]
  | .nilp, _ => [.nilp]
  | .nilf, _ => [.nilf]
  | .nili, _ => [.nili]
  | .undef, _ => [.undef]
  | .fn g a b, x => [.fn (.func g) (cellsD a x.1) (cellsD b x.2)]

mutual
def V.er : V → D
  | .int k n => .int k n
  | .bool b => .bool b
  | .str s => .str s
  | .sl f t l => .sl f t.width (List.map (cellsD t) l)
  | .agg l => .agg (erL l)
  | .tup l => .tup (erL l)
  | .rp l => .rp (erL l)
  | .ptr l o => .ptr l o
  | .nilp => .nilp
  | .nilf => .nilf
  | .nili => .nili
  | .unk => .unk
  | .undef => .undef
  | .fn g a b => .fn (.func g) (erL a) (erL b)
  | .bor p => .bor p
  | .ea p n i off => .ea p n i off
def erL : List V → List D
  | [] => []
  | v :: r => v.er :: erL r
end

theorem erL_map : ∀ l : List V, erL l = l.map V.er
  | [] => rfl
  | v :: r => by simp only [erL, List.map_cons, erL_map r]

def erT : TV → TI
  | .int k => .int k
  | .bool => .bool
  | .str => .str
  | .sl bytes ety t z => .sl ⟨t.width, bytes, ety⟩ (z.map V.er)
  | .st fs z => .st fs (z.map V.er)
  | .arr len n ty z => .arr len n ty (z.map V.er)
  | .ptr => .ptr
  | .fn => .fn
  | .ifc => .ifc
  | .other => .other

def erTs (T : Nat → TV) : Nat → TI := fun t => erT (T t)

def VS.er (st : VS) : St := ⟨st.tm.map V.er, st.bx.map (List.map V.er), st.ln, st.dirty, st.up⟩

theorem cellsD_len : ∀ (t : Ty) (x : t.den), (cellsD t x).length = t.width
  | .int _, _ => rfl
  | .bool, _ => rfl
  | .str, _ => rfl
  | .sl _ _, _ => rfl
  | .unit, _ => rfl
  | .pair a b, x => by simp only [cellsD, List.length_append, cellsD_len a, cellsD_len b, Ty.width]
  | .agg _, _ => rfl
  | .tup _, _ => rfl
  | .rp _, _ => rfl
  | .ptr _ _, _ => rfl
  | .nilp, _ => rfl
  | .nilf, _ => rfl
  | .nili, _ => rfl
  | .undef, _ => rfl
  | .fn _ _ _, _ => rfl

theorem vals_er : ∀ (t : Ty) (x : t.den), (vals t x).map V.er = cellsD t x
  | .int _, _ => rfl
  | .bool, _ => rfl
  | .str, _ => rfl
  | .sl _ _, _ => rfl
  | .unit, _ => rfl
  | .pair a b, x => by simp only [vals, cellsD, List.map_append, vals_er a, vals_er b]
  | .agg t, x => by simp only [vals, cellsD, List.map_cons, List.map_nil, V.er, erL_map, vals_er t]
  | .tup t, x => by simp only [vals, cellsD, List.map_cons, List.map_nil, V.er, erL_map, vals_er t]
  | .rp t, x => by simp only [vals, cellsD, List.map_cons, List.map_nil, V.er, erL_map, vals_er t]
  | .ptr _ _, _ => rfl
  | .nilp, _ => rfl
  | .nilf, _ => rfl
  | .nili, _ => rfl
  | .undef, _ => rfl
  | .fn g a b, x => by simp only [vals, cellsD, List.map_cons, List.map_nil, V.er, erL_map, vals_er a, vals_er b]

theorem cellsD_inj : ∀ (t : Ty) (x y : t.den), cellsD t x = cellsD t y → x = y
  | .int _, x, y, h => by simpa [cellsD] using h
  | .bool, x, y, h => by simpa [cellsD] using h
  | .str, x, y, h => by simpa [cellsD] using h
  | .sl _ t, x, y, h => by
    simp only [cellsD, List.cons.injEq, D.sl.injEq, true_and, and_true] at h
    exact List.map_inj_right (fun a b e => cellsD_inj t a b e) |>.mp h
  | .unit, _, _, _ => rfl
  | .pair a b, x, y, h => by
    simp only [cellsD] at h
    obtain ⟨h1, h2⟩ := List.append_inj h (by rw [cellsD_len, cellsD_len])
    exact Prod.ext (cellsD_inj a _ _ h1) (cellsD_inj b _ _ h2)
  | .agg t, x, y, h => by
    simp only [cellsD, List.cons.injEq, D.agg.injEq, and_true] at h
    exact cellsD_inj t x y h
  | .tup t, x, y, h => by
    simp only [cellsD, List.cons.injEq, D.tup.injEq, and_true] at h
    exact cellsD_inj t x y h
  | .rp t, x, y, h => by
    simp only [cellsD, List.cons.injEq, D.rp.injEq, and_true] at h
    exact cellsD_inj t x y h
  | .ptr _ _, _, _, _ => rfl
  | .nilp, _, _, _ => rfl
  | .nilf, _, _, _ => rfl
  | .nili, _, _, _ => rfl
  | .undef, _, _, _ => rfl
  | .fn _ a b, x, y, h => by
    simp only [cellsD, List.cons.injEq, D.fn.injEq, true_and, and_true] at h
    exact Prod.ext (cellsD_inj a _ _ h.1) (cellsD_inj b _ _ h.2)

theorem ofVals_ok : ∀ (t : Ty) (l r : List V) (x : t.den), ofVals t l = some (x, r) → l = vals t x ++ r
  | .int k, l, r, x, h => by
    simp only [ofVals] at h
    split at h
    · split at h
      · rename_i hk
        subst hk
        cases h
        rfl
      · cases h
    · cases h
  | .bool, l, r, x, h => by
    simp only [ofVals] at h
    split at h
    · cases h; rfl
    · cases h
  | .str, l, r, x, h => by
    simp only [ofVals] at h
    split at h
    · cases h; rfl
    · cases h
  | .sl f t, l, r, x, h => by
    simp only [ofVals] at h
    split at h
    · split at h
      · rename_i ht
        subst ht
        split at h
        · rename_i hf
          subst hf
          cases h
          rfl
        · cases h
      · cases h
    · cases h
  | .unit, l, r, x, h => by
    simp only [ofVals, Option.some.injEq, Prod.mk.injEq, true_and] at h
    subst h
    rfl
  | .pair a b, l, r, x, h => by
    simp only [ofVals] at h
    split at h
    · rename_i h1
      split at h
      · rename_i h2
        cases h
        rw [ofVals_ok a _ _ _ h1, ofVals_ok b _ _ _ h2]
        simp only [vals, List.append_assoc]
      · cases h
    · cases h
  | .agg t, l, r, x, h => by
    simp only [ofVals] at h
    split at h
    · split at h
      · rename_i h1
        cases h
        rw [ofVals_ok t _ _ _ h1]
        simp only [vals, List.append_nil, List.cons_append, List.nil_append]
      · cases h
    · cases h
  | .tup t, l, r, x, h => by
    simp only [ofVals] at h
    split at h
    · split at h
      · rename_i h1
        cases h
        rw [ofVals_ok t _ _ _ h1]
        simp only [vals, List.append_nil, List.cons_append, List.nil_append]
      · cases h
    · cases h
  | .rp t, l, r, x, h => by
    simp only [ofVals] at h
    split at h
    · split at h
      · rename_i h1
        cases h
        rw [ofVals_ok t _ _ _ h1]
        simp only [vals, List.append_nil, List.cons_append, List.nil_append]
      · cases h
    · cases h
  | .ptr a b, l, r, x, h => by
    simp only [ofVals] at h
    split at h
    · split at h
      · rename_i hk
        obtain ⟨rfl, rfl⟩ := hk
        cases h
        rfl
      · cases h
    · cases h
  | .nilp, l, r, x, h => by
    simp only [ofVals] at h
    split at h
    · cases h; rfl
    · cases h
  | .nilf, l, r, x, h => by
    simp only [ofVals] at h
    split at h
    · cases h; rfl
    · cases h
  | .nili, l, r, x, h => by
    simp only [ofVals] at h
    split at h
    · cases h; rfl
    · cases h
  | .undef, l, r, x, h => by
    simp only [ofVals] at h
    split at h
    · cases h; rfl
    · cases h
  | .fn g a b, l, r, x, h => by
    simp only [ofVals] at h
    split at h
    · split at h
      · rename_i hg
        subst hg
        split at h
        · rename_i h1
          split at h
          · rename_i h2
            cases h
            rw [ofVals_ok a _ _ _ h1, ofVals_ok b _ _ _ h2]
            simp only [vals, List.append_nil, List.cons_append, List.nil_append]
          · cases h
        · cases h
      · cases h
    · cases h

theorem ofVal_ok {t : Ty} {l : List V} {x : t.den} (h : ofVal t l = some x) : l = vals t x := by
  unfold ofVal at h
  split at h
  · rename_i h1
    cases h
    rw [ofVals_ok t _ _ _ h1, List.append_nil]
  · cases h

/-- Elements as they are, of a list that is looked up. -/
theorem getD_er (l : List V) (j : Nat) : (l.getD j .undef).er = (l.map V.er).getD j .undef := by
  simp only [List.getD_eq_getElem?_getD, List.getElem?_map]
  cases l[j]? <;> simp [V.er]

theorem er_leaf (d : V) (j : Nat) : (d.leaf j).er = d.er.leaf j := by
  cases d <;> cases j <;> simp only [V.leaf, V.er, D.leaf, erL_map, getD_er]

theorem er_setLeaf (d x : V) (j : Nat) : (d.setLeaf j x).er = d.er.setLeaf j x.er := by
  cases d <;> cases j <;> simp only [V.setLeaf, V.er, D.setLeaf, erL_map, List.map_set]

theorem er_get (st : VS) (t : Nat) : (st.get t).er = st.er.get t := getD_er _ _

theorem er_box (st : VS) (loc : Nat) : (st.box loc).map V.er = st.er.box loc := by
  simp only [VS.box, St.box, VS.er, List.getD_eq_getElem?_getD, List.getElem?_map]
  cases st.bx[loc]? <;> rfl

theorem er_box_len (st : VS) (loc : Nat) : (st.er.box loc).length = (st.box loc).length := by
  rw [← er_box, List.length_map]

theorem er_at (st : VS) (p : Pl) : (st.at p).er = st.er.at p := by
  cases p with
  | s t j => simp only [VS.at, St.at, er_leaf, er_get]
  | b loc j => simp only [VS.at, St.at, getD_er, er_box]

theorem er_put (base : Nat) (st : VS) (p : Pl) (x : V) : (st.put base p x).er = st.er.put base p x.er := by
  cases p with
  | s t j =>
    simp only [VS.put, St.put, VS.er, List.map_set, er_setLeaf]
    rw [er_get]
    rfl
  | b loc j =>
    simp only [VS.put, St.put, VS.er, List.map_set]
    rw [er_box]
    rfl

theorem er_clearAll : ∀ (l : List (Nat × Pl)) (tm : List V), (clearAllV tm l).map V.er = clearAll (tm.map V.er) l
  | [], tm => rfl
  | (t, _) :: r, tm => by
    simp only [clearAllV, clearAll, er_clearAll r, List.map_set]
    rfl

theorem er_forget (st : VS) (c : Pl → Bool) : (st.forget c).er = st.er.forget c := by
  unfold VS.forget St.forget
  cases h : st.ln with
  | nil => simp only [VS.er, h]
  | cons a l => simp only [VS.er, h, er_clearAll]

theorem er_set (st : VS) (t : Nat) (d : V) : (st.set t d).er = st.er.set t d.er := by
  simp only [VS.set, St.set]
  rw [← er_forget]
  simp only [VS.er, List.map_set]

theorem er_setO (st : VS) (t : Option Nat) (d : V) : (st.setO t d).er = st.er.setO t d.er := by
  cases t with
  | none => rfl
  | some t => exact er_set st t d

theorem er_down (base : Nat) (st : VS) (p : Pl) : (st.down base p).er = st.er.down base p := by
  unfold VS.down St.down
  rw [← er_at]
  cases h : st.at p with
  | sl f t l =>
    rcases f with _ | _ | _ | f
    · rfl
    · rfl
    · simp only [V.er, er_put]
    · rfl
  | _ => rfl

theorem er_undo (base : Nat) (st : VS) (p : Pl) : (st.undo base p).er = st.er.undo base p := by
  unfold VS.undo St.undo
  rw [← er_at]
  cases h : st.at p with
  | sl f t l => simp only [V.er, er_put]
  | _ => rfl

theorem leafUse_er {base : Nat} {st : VS} {p : Option Pl} {d x : V} {s : VS} (h : leafUseV base st p d = some (x, s)) : leafUse base st.er p d.er = some (x.er, s.er) := by
  cases d with
  | sl f t l =>
    cases p with
    | none => simp only [leafUseV, Option.some.injEq, Prod.mk.injEq] at h; obtain ⟨rfl, rfl⟩ := h; rfl
    | some q =>
      simp only [leafUseV] at h
      simp only [V.er, leafUse, ← er_at]
      cases hq : st.at q with
      | sl f t l =>
        simp only [hq, Option.some.injEq, Prod.mk.injEq] at h
        obtain ⟨rfl, rfl⟩ := h
        simp only [V.er, Option.some.injEq, Prod.mk.injEq, true_and]
        split <;> simp only [er_down]
      | _ => simp only [hq] at h; cases h
  | bor q =>
    simp only [leafUseV] at h
    simp only [V.er, leafUse, ← er_at]
    cases hq : st.at q with
    | sl f t l =>
      simp only [hq, Option.some.injEq, Prod.mk.injEq] at h
      obtain ⟨rfl, rfl⟩ := h
      simp only [V.er, Option.some.injEq, Prod.mk.injEq, true_and]
      split <;> simp only [er_down]
    | _ => simp only [hq] at h; cases h
  | undef => cases h
  | ea _ _ _ _ => cases h
  | rp _ => cases h
  | agg _ => cases h
  | tup _ => cases h
  | _ => simp only [leafUseV, Option.some.injEq, Prod.mk.injEq] at h; obtain ⟨rfl, rfl⟩ := h; rfl

theorem leafTake_er {base : Nat} {st : VS} {p : Option Pl} {d x : V} {s : VS} (h : leafTakeV base st p d = some (x, s)) : leafTake base st.er p d.er = some (x.er, s.er) := by
  cases d with
  | sl f t l =>
    cases p with
    | none => simp only [leafTakeV, Option.some.injEq, Prod.mk.injEq] at h; obtain ⟨rfl, rfl⟩ := h; rfl
    | some q =>
      simp only [leafTakeV] at h
      simp only [V.er, leafTake, ← er_at]
      cases hq : st.at q with
      | sl f t l =>
        simp only [hq, Option.some.injEq, Prod.mk.injEq] at h
        obtain ⟨rfl, rfl⟩ := h
        simp only [V.er, Option.some.injEq, Prod.mk.injEq, true_and]
        split <;> simp only [er_undo]
      | _ => simp only [hq] at h; cases h
  | bor q =>
    simp only [leafTakeV] at h
    simp only [V.er, leafTake, ← er_at]
    cases hq : st.at q with
    | sl f t l =>
      simp only [hq, Option.some.injEq, Prod.mk.injEq] at h
      obtain ⟨rfl, rfl⟩ := h
      simp only [V.er, Option.some.injEq, Prod.mk.injEq, true_and]
      split <;> simp only [er_undo]
    | _ => simp only [hq] at h; cases h
  | undef => cases h
  | ea _ _ _ _ => cases h
  | rp _ => cases h
  | agg _ => cases h
  | tup _ => cases h
  | _ => simp only [leafTakeV, Option.some.injEq, Prod.mk.injEq] at h; obtain ⟨rfl, rfl⟩ := h; rfl

theorem leavesUse_er {base : Nat} {p : Nat → Option Pl} : ∀ (l : List V) {j : Nat} {st : VS} {x : List V} {s : VS}, leavesUseV base p j st l = some (x, s) → leavesUse base p j st.er (l.map V.er) = some (x.map V.er, s.er)
  | [], j, st, x, s, h => by
    simp only [leavesUseV, Option.some.injEq, Prod.mk.injEq] at h
    obtain ⟨rfl, rfl⟩ := h
    rfl
  | d :: r, j, st, x, s, h => by
    simp only [leavesUseV] at h
    split at h
    · rename_i h1
      split at h
      · rename_i h2
        cases h
        simp only [List.map_cons, leavesUse, leafUse_er h1, leavesUse_er r h2]
      · cases h
    · cases h

theorem leavesTake_er {base : Nat} {p : Nat → Option Pl} : ∀ (l : List V) {j : Nat} {st : VS} {x : List V} {s : VS}, leavesTakeV base p j st l = some (x, s) → leavesTake base p j st.er (l.map V.er) = some (x.map V.er, s.er)
  | [], j, st, x, s, h => by
    simp only [leavesTakeV, Option.some.injEq, Prod.mk.injEq] at h
    obtain ⟨rfl, rfl⟩ := h
    rfl
  | d :: r, j, st, x, s, h => by
    simp only [leavesTakeV] at h
    split at h
    · rename_i h1
      split at h
      · rename_i h2
        cases h
        simp only [List.map_cons, leavesTake, leafTake_er h1, leavesTake_er r h2]
      · cases h
    · cases h

theorem use_er {base : Nat} {st : VS} {t : Option Nat} {d x : V} {s : VS} (h : useV base st t d = some (x, s)) : useD base st.er t d.er = some (x.er, s.er) := by
  cases d with
  | agg l =>
    simp only [useV, Option.map_eq_some_iff] at h
    obtain ⟨⟨l', s'⟩, h1, h2⟩ := h
    cases h2
    simp only [V.er, erL_map, useD, leavesUse_er l h1, Option.map_some]
  | _ =>
    simp only [useV] at h
    have := leafUse_er h
    simp only [V.er, useD] at this ⊢
    exact this

theorem take_er {base : Nat} {st : VS} {t : Option Nat} {d x : V} {s : VS} (h : takeV base st t d = some (x, s)) : takeD base st.er t d.er = some (x.er, s.er) := by
  cases d with
  | agg l =>
    simp only [takeV, Option.map_eq_some_iff] at h
    obtain ⟨⟨l', s'⟩, h1, h2⟩ := h
    cases h2
    simp only [V.er, erL_map, takeD, leavesTake_er l h1, Option.map_some]
  | _ =>
    simp only [takeV] at h
    have := leafTake_er h
    simp only [V.er, takeD] at this ⊢
    exact this

theorem er_const (T : Nat → TV) (ty : Nat) (v : Value) : (constV T ty v).er = constD (erTs T) ty v := by
  unfold constV
  split
  · rfl
  · rfl
  · rfl
  · simp only [constD, erTs]
    cases T ty <;> rfl
  · rfl
  · rfl
  · rfl
  · simp only [V.er]
    unfold constD
    split <;> simp_all

theorem er_raw (st : VS) (T : Nat → TV) (ty : Nat) (x : Operand) : (st.raw T ty x).er = st.er.raw (erTs T) ty x := by
  cases x with
  | tmp t => exact er_get st t
  | const v => exact er_const T ty v
  | func f => rfl
  | global g => rfl

theorem er_see (st : VS) (T : Nat → TV) (ty : Nat) (x : Operand) : (st.see T ty x).er = st.er.see (erTs T) ty x := by
  unfold VS.see St.see
  rw [← er_raw]
  cases h : st.raw T ty x with
  | bor p =>
    simp only [V.er, ← er_at]
    cases st.at p <;> rfl
  | _ => rfl

theorem vuse_er {base : Nat} {st s : VS} {T : Nat → TV} {ty : Nat} {x : Operand} {d : V} (h : st.use base T ty x = some (d, s)) : st.er.use base (erTs T) ty x = some (d.er, s.er) := by
  unfold St.use
  rw [← er_raw]
  exact use_er h

theorem vtake_er {base : Nat} {st s : VS} {T : Nat → TV} {ty : Nat} {x : Operand} {d : V} (h : st.take base T ty x = some (d, s)) : st.er.take base (erTs T) ty x = some (d.er, s.er) := by
  unfold St.take
  rw [← er_raw]
  exact take_er h

theorem uses_er {base : Nat} {T : Nat → TV} : ∀ (l : List (Operand × Nat)) {st s : VS} {ds : List V}, st.uses base T l = some (ds, s) → st.er.uses base (erTs T) l = some (ds.map V.er, s.er)
  | [], st, s, ds, h => by
    simp only [VS.uses, Option.some.injEq, Prod.mk.injEq] at h
    obtain ⟨rfl, rfl⟩ := h
    rfl
  | (x, ty) :: r, st, s, ds, h => by
    simp only [VS.uses] at h
    split at h
    · cases h
    · rename_i h1
      split at h
      · cases h
      · rename_i h2
        cases h
        simp only [St.uses, vuse_er h1, uses_er r h2, List.map_cons]

theorem takes_er {base : Nat} {T : Nat → TV} : ∀ (l : List (Operand × Nat)) {st s : VS} {ds : List V}, st.takes base T l = some (ds, s) → st.er.takes base (erTs T) l = some (ds.map V.er, s.er)
  | [], st, s, ds, h => by
    simp only [VS.takes, Option.some.injEq, Prod.mk.injEq] at h
    obtain ⟨rfl, rfl⟩ := h
    rfl
  | (x, ty) :: r, st, s, ds, h => by
    simp only [VS.takes] at h
    split at h
    · cases h
    · rename_i h1
      split at h
      · cases h
      · rename_i h2
        cases h
        simp only [St.takes, vtake_er h1, takes_er r h2, List.map_cons]

theorem er_cells (d : V) : d.cells.map V.er = d.er.cells := by
  cases d <;> simp only [V.cells, V.er, D.cells, erL_map, List.map_cons, List.map_nil]

theorem er_cells_len (d : V) : d.er.cells.length = d.cells.length := by rw [← er_cells, List.length_map]

theorem er_mk (a : Bool) (l : List V) : (mkV a l).er = mkD a (l.map V.er) := by
  cases a
  · simp only [mkV, mkD, Bool.false_eq_true, if_false, getD_er]
  · simp only [mkV, mkD, if_true, V.er, erL_map]

theorem er_borLeaf (p : Pl) (d : V) : ((borLeafV p d).1.er, (borLeafV p d).2) = borLeaf p d.er := by
  cases d with
  | sl f t l => rcases f with _ | f <;> rfl
  | _ => rfl

theorem er_borLeaves (p : Nat → Pl) : ∀ (l : List V) (j : Nat), ((borLeavesV p j l).1.map V.er, (borLeavesV p j l).2) = borLeaves p j (l.map V.er)
  | [], j => rfl
  | d :: r, j => by
    have h1 := er_borLeaf (p j) d
    have h2 := er_borLeaves p r (j + 1)
    simp only [borLeavesV, List.map_cons, borLeaves, ← h1, ← h2]

theorem er_viewLeaf (d : V) : (viewLeafV d).er = viewLeaf d.er := by
  cases d with
  | sl f t l => rcases f with _ | _ | f <;> rfl
  | _ => rfl

theorem er_ldLeaves (v : Bool) (p : Nat → Pl) (l : List V) (j : Nat) : ((ldLeavesV v p j l).1.map V.er, (ldLeavesV v p j l).2) = ldLeaves v p j (l.map V.er) := by
  cases v with
  | false => exact er_borLeaves p l j
  | true =>
    simp only [ldLeavesV, ldLeaves, List.map_map, Prod.mk.injEq, and_true]
    congr 1
    funext d
    exact er_viewLeaf d

theorem er_bor (t : Nat) (d : V) : ((borV t d).1.er, (borV t d).2) = borD t d.er := by
  cases d with
  | agg l =>
    have h := er_borLeaves (Pl.s t) l 0
    simp only [borV, V.er, erL_map, borD, ← h]
  | sl f u l => rcases f with _ | f <;> rfl
  | _ => rfl

theorem tlow (n : Nat) : ∀ (t : Ty) (x : t.den), t.low n = true → lowL n (cellsD t x) = true
  | .int _, _, _ => rfl
  | .bool, _, _ => rfl
  | .str, _, _ => rfl
  | .sl f t, l, h => by
    have go : ∀ l : List t.den, lowLL n (l.map (cellsD t)) = true := by
      intro l
      induction l with
      | nil => rfl
      | cons a l ih => simp only [List.map_cons, lowLL, Bool.and_eq_true]; exact ⟨tlow n t a h, ih⟩
    simp only [cellsD, lowL, D.low, go l, Bool.and_self]
  | .unit, _, _ => rfl
  | .pair a b, x, h => by
    simp only [Ty.low, Bool.and_eq_true] at h
    have app : ∀ (u v : List D), lowL n u = true → lowL n v = true → lowL n (u ++ v) = true := by
      intro u v hu hv
      induction u with
      | nil => exact hv
      | cons a u ih =>
        simp only [lowL, Bool.and_eq_true] at hu
        simp only [List.cons_append, lowL, Bool.and_eq_true]
        exact ⟨hu.1, ih hu.2⟩
    exact app _ _ (tlow n a x.1 h.1) (tlow n b x.2 h.2)
  | .agg t, x, h => by simp only [cellsD, lowL, D.low, tlow n t x h, Bool.and_self]
  | .tup t, x, h => by simp only [cellsD, lowL, D.low, tlow n t x h, Bool.and_self]
  | .rp t, x, h => by simp only [cellsD, lowL, D.low, tlow n t x h, Bool.and_self]
  | .ptr l o, _, h => by simp only [cellsD, lowL, D.low, Bool.and_true]; exact h
  | .nilp, _, _ => rfl
  | .nilf, _, _ => rfl
  | .nili, _, _ => rfl
  | .undef, _, _ => rfl
  | .fn g a b, x, h => by
    simp only [Ty.low, Bool.and_eq_true] at h
    simp only [cellsD, lowL, D.low, tlow n a x.1 h.1, tlow n b x.2 h.2, Bool.and_self]

mutual
theorem low_er (n : Nat) : ∀ (d : V) (b : Bool), d.lowO n = some b → d.er.low n = b
  | .int _ _, b, h => by simpa [V.lowO, V.er, D.low] using h
  | .bool _, b, h => by simpa [V.lowO, V.er, D.low] using h
  | .str _, b, h => by simpa [V.lowO, V.er, D.low] using h
  | .sl f t l, b, h => by
    simp only [V.lowO] at h
    split at h
    · rename_i ht
      cases h
      have := tlow n (.sl f t) l (by simpa only [Ty.low] using ht)
      simpa only [V.er, cellsD, lowL, Bool.and_true] using this
    · cases h
  | .agg l, b, h => by
    simp only [V.lowO] at h
    simp only [V.er, D.low, lowL_er n l b h]
  | .tup l, b, h => by
    simp only [V.lowO] at h
    simp only [V.er, D.low, lowL_er n l b h]
  | .rp l, b, h => by
    simp only [V.lowO] at h
    simp only [V.er, D.low, lowL_er n l b h]
  | .ptr _ _, b, h => by simpa [V.lowO, V.er, D.low] using h
  | .nilp, b, h => by simpa [V.lowO, V.er, D.low] using h
  | .nilf, b, h => by simpa [V.lowO, V.er, D.low] using h
  | .nili, b, h => by simpa [V.lowO, V.er, D.low] using h
  | .unk, b, h => by simpa [V.lowO, V.er, D.low] using h
  | .undef, b, h => by simpa [V.lowO, V.er, D.low] using h
  | .fn g x y, b, h => by
    simp only [V.lowO] at h
    split at h
    · rename_i h1 h2
      cases h
      simp only [V.er, D.low, lowL_er n x _ h1, lowL_er n y _ h2]
    · cases h
  | .bor (.s _ _), b, h => by simpa [V.lowO, V.er, D.low] using h
  | .bor (.b _ _), b, h => by simpa [V.lowO, V.er, D.low] using h
  | .ea (.s _ _) _ _ _, b, h => by simpa [V.lowO, V.er, D.low] using h
  | .ea (.b _ _) _ _ _, b, h => by simpa [V.lowO, V.er, D.low] using h
theorem lowL_er (n : Nat) : ∀ (l : List V) (b : Bool), lowOL n l = some b → lowL n (erL l) = b
  | [], b, h => by simpa [lowOL, erL, lowL] using h
  | d :: r, b, h => by
    simp only [lowOL] at h
    split at h
    · rename_i h1 h2
      cases h
      simp only [erL, lowL, low_er n d _ h1, lowL_er n r _ h2]
    · cases h
end

theorem lowL_map {n : Nat} {l : List V} {b : Bool} (h : lowOL n l = some b) : lowL n (l.map V.er) = b := by
  rw [← erL_map]
  exact lowL_er n l b h

theorem store_er {base : Nat} {st s : VS} {loc off : Nat} {xs : List V} (h : st.store base loc off xs = some s) : st.er.store base loc off (xs.map V.er) = some s.er := by
  unfold VS.store at h
  split at h
  · rename_i hfit
    split at h
    · rename_i low hlow
      cases h
      unfold St.store
      rw [er_box_len, List.length_map, if_pos hfit, lowL_map hlow]
      simp only [Option.some.injEq, ← er_forget]
      simp only [VS.er, List.map_set, List.map_append, List.map_take, List.map_drop]
      rw [er_box]
      rfl
    · cases h
  · cases h

theorem er_zero (t : TV) : t.zero.map (List.map V.er) = (erT t).zero := by
  cases t <;> simp only [TV.zero, erT, TI.zero, Option.map_some, Option.map_none, List.map_cons, List.map_nil, V.er]

theorem er_size (t : TV) : (erT t).size = t.size := by
  unfold TI.size TV.size
  rw [← er_zero]
  cases t.zero <;> simp

theorem er_agg (t : TV) : (erT t).agg = t.agg := by cases t <;> rfl

end Go.PI
end
section
/- Typed values: what an operation comes to, it comes to when the types are forgotten (parts). -/
namespace Go.PI
open Go

variable {β : Type}

theorem when_some {b : Bool} {x : Option β} {r : β} (h : whenK b x = some r) : b = true ∧ x = some r := by
  cases b
  · cases h
  · exact ⟨rfl, h⟩

theorem split_some {b : Bool} {x y : Option β} {r : β} (h : splitK b x y = some r) : (b = true ∧ x = some r) ∨ (b = false ∧ y = some r) := by
  cases b
  · exact .inr ⟨rfl, h⟩
  · exact .inl ⟨rfl, h⟩

theorem optK_some {α : Type} {x : Option α} {K : α → Option β} {r : β} (h : optK x K = some r) : ∃ a, x = some a ∧ K a = some r := by
  cases x with
  | none => cases h
  | some a => exact ⟨a, rfl, h⟩

theorem caseK_some {i : Int} {K : Nat → Option β} {r : β} : ∀ (l : List Nat), caseK std i l K = some r → ∃ j ∈ l, i = (j : Int) ∧ K j = some r
  | [], h => by cases h
  | j :: l, h => by
    rcases split_some h with ⟨h1, h2⟩ | ⟨_, h2⟩
    · exact ⟨j, by simp, by simpa [std] using h1, h2⟩
    · obtain ⟨j', a, b, c⟩ := caseK_some l h2
      exact ⟨j', by simp [a], b, c⟩

theorem er_int {d : V} {n : Int} (h : intV d = some n) : intD d.er = some n := by
  cases d <;> simp_all [intV, intD, V.er]

theorem binV_er {ti : TV} {op : BinOp} {cy : Option Int} {x y : V} {K : V → Option β} {r : β} (h : binV std ti op cy x y K = some r) : ∃ d : V, binD (erT ti) op x.er y.er = some d.er ∧ K d = some r := by
  unfold binV at h
  split at h
  · rename_i k a k' b
    split at h
    · split at h
      · split at h
        · rename_i n hn
          refine ⟨_, ?_, h⟩
          simp only [V.er, binD, if_neg (show ¬ b < 0 by omega), std]
        · cases h
      · obtain ⟨h1, h2⟩ := when_some h
        refine ⟨_, ?_, h2⟩
        simp only [std, decide_eq_true_eq] at h1
        simp only [V.er, binD, if_neg (show ¬ b < 0 by omega), std]
    · split at h
      · split at h
        · rename_i n hn
          refine ⟨_, ?_, h⟩
          simp only [V.er, binD, if_neg (show ¬ b < 0 by omega), std]
        · cases h
      · obtain ⟨h1, h2⟩ := when_some h
        refine ⟨_, ?_, h2⟩
        simp only [std, decide_eq_true_eq] at h1
        simp only [V.er, binD, if_neg (show ¬ b < 0 by omega), std]
    · split at h
      · rename_i hk
        subst hk
        split at h
        · exact ⟨_, by simp [V.er, binD, std], h⟩
        · exact ⟨_, by simp [V.er, binD, std], h⟩
        · exact ⟨_, by simp [V.er, binD, std], h⟩
        · split at h
          · split at h
            · rename_i n hn
              refine ⟨_, ?_, h⟩
              simp [V.er, binD, std, show ¬ b = 0 by omega]
            · cases h
          · obtain ⟨h1, h2⟩ := when_some h
            refine ⟨_, ?_, h2⟩
            simp [std] at h1
            simp [V.er, binD, std, h1]
        · split at h
          · split at h
            · rename_i n hn
              refine ⟨_, ?_, h⟩
              simp [V.er, binD, std, show ¬ b = 0 by omega]
            · cases h
          · obtain ⟨h1, h2⟩ := when_some h
            refine ⟨_, ?_, h2⟩
            simp [std] at h1
            simp [V.er, binD, std, h1]
        · exact ⟨_, by simp [V.er, binD, std], h⟩
        · exact ⟨_, by simp [V.er, binD, std], h⟩
        · exact ⟨_, by simp [V.er, binD, std], h⟩
        · exact ⟨_, by simp [V.er, binD, std], h⟩
        · exact ⟨_, by simp [V.er, binD, std], h⟩
        · exact ⟨_, by simp [V.er, binD, std, bne], h⟩
        · exact ⟨_, by simp [V.er, binD, std], h⟩
        · exact ⟨_, by simp [V.er, binD, std], h⟩
        · exact ⟨_, by simp [V.er, binD, std], h⟩
        · exact ⟨_, by simp [V.er, binD, std], h⟩
        · cases h
      · cases h
  · rename_i a b
    split at h
    · obtain ⟨h1, h2⟩ := when_some h
      refine ⟨_, ?_, h2⟩
      simp only [std, decide_eq_true_eq] at h1
      simp only [V.er, binD, if_neg h1, std]
    · exact ⟨_, by simp [V.er, binD, std], h⟩
    · exact ⟨_, by simp [V.er, binD, std], h⟩
    · exact ⟨_, by simp [V.er, binD, std], h⟩
    · exact ⟨_, by simp [V.er, binD, std], h⟩
    · exact ⟨_, by simp [V.er, binD, std], h⟩
    · exact ⟨_, by simp [V.er, binD, std], h⟩
    · cases h
  · split at h
    · exact ⟨_, by simp [V.er, binD, std, erT], h⟩
    · exact ⟨_, by simp [V.er, binD, std, erT, bne], h⟩
    · cases h
  · split at h
    · exact ⟨_, by simp [V.er, binD, erT, eqLeaf], h⟩
    · exact ⟨_, by simp [V.er, binD, erT, eqLeaf], h⟩
    · cases h
  · split at h
    · exact ⟨_, by simp [V.er, binD, erT, eqLeaf], h⟩
    · exact ⟨_, by simp [V.er, binD, erT, eqLeaf], h⟩
    · cases h
  · split at h
    · exact ⟨_, by simp [V.er, binD, erT, eqLeaf], h⟩
    · exact ⟨_, by simp [V.er, binD, erT, eqLeaf], h⟩
    · cases h
  · cases h

theorem eqLeaf_er {ti : TV} {a b : V} {r : Bool} (h : eqLeafV std ti a b = some r) : eqLeafT (erT ti) a.er b.er = some r := by
  unfold eqLeafV at h
  split at h
  · split at h
    · rename_i hk
      subst hk
      cases h
      simp [erT, V.er, eqLeafT, std]
    · cases h
  · cases h; simp [erT, V.er, eqLeafT, std]
  · cases h; simp [erT, V.er, eqLeafT, std]
  · cases h; rfl
  · cases h; rfl
  · cases h; rfl
  · cases h

theorem eqFields_er {T : Nat → TV} {E : Nat → List V → List V → Option Bool} {E' : Nat → List D → List D → Option Bool} (hE : ∀ t x y r, E t x y = some r → E' t (x.map V.er) (y.map V.er) = some r) :
    ∀ (fs : List (Nat × Nat × Nat)) {x y : List V} {r : Bool}, eqFieldsV std (fun t => (T t).size) E fs x y = some r → eqFields (fun t => (erTs T t).size) E' fs (x.map V.er) (y.map V.er) = some r
  | [], x, y, r, h => by simpa [eqFieldsV, eqFields] using h
  | (off, w, ft) :: fs, x, y, r, h => by
    simp only [eqFieldsV] at h
    split at h
    · rename_i hfit
      split at h
      · rename_i a b h1 h2
        cases h
        have e1 := hE _ _ _ _ h1
        have e2 := eqFields_er (T := T) hE fs h2
        simp only [List.map_take, List.map_drop] at e1
        have e3 : eqFields (fun t => (T t).size) E' fs (x.map V.er) (y.map V.er) = some b := by simpa only [erTs, er_size] using e2
        simp only [eqFields, erTs, er_size, List.length_map, if_pos hfit, e1]
        cases a
        · rfl
        · exact e3
      · cases h
    · cases h

theorem eqV_er {T : Nat → TV} : ∀ (k ty : Nat) {x y : List V} {r : Bool}, eqV std T k ty x y = some r → eqD (erTs T) k ty (x.map V.er) (y.map V.er) = some r
  | 0, _, _, _, _, h => by cases h
  | k + 1, ty, x, y, r, h => by
    simp only [eqV] at h
    simp only [eqD]
    generalize hT : erTs T ty = ti
    have hT' : erT (T ty) = ti := hT
    split at h
    · rename_i fs z hty
      rw [hty] at hT'
      subst hT'
      exact eqFields_er (T := T) (fun t x y r hr => eqV_er k t hr) fs h
    · cases h
    · rename_i h1 h2
      split at h
      · rename_i a b
        have := eqLeaf_er h
        rw [hT'] at this
        simp only [List.map_cons, List.map_nil]
        cases hq : T ty with
        | st fs z => exact (h1 _ _ hq).elim
        | arr _ _ _ _ => exact (h2 _ _ _ _ hq).elim
        | _ =>
          rw [hq] at hT'
          simp only [erT] at hT'
          subst hT'
          exact this
      · cases h

theorem plain_er {T : Nat → TV} : ∀ (k ty : Nat), plainV T k ty = true → plainT (erTs T) k ty = true
  | 0, _, h => by cases h
  | k + 1, ty, h => by
    simp only [plainV] at h
    simp only [plainT, erTs]
    cases hT : T ty with
    | st fs z =>
      rw [hT] at h
      simp only [erT]
      simp only [List.all_eq_true] at h ⊢
      exact fun f hf => plain_er k _ (h f hf)
    | int k => rfl
    | bool => rfl
    | str => rfl
    | ptr => rfl
    | _ => rw [hT] at h; cases h

theorem binAV_er {T : Nat → TV} {ty : Nat} {op : BinOp} {cy : Option Int} {x y : V} {K : V → Option β} {r : β} (h : binAV std T ty op cy x y K = some r) : ∃ d : V, binA (erTs T) ty op x.er y.er = some d.er ∧ K d = some r := by
  unfold binAV at h
  split at h
  · rename_i a b
    split at h
    · rename_i hc
      have hc' : plainT (erTs T) 8 ty = true ∧ (erTs T ty).agg = true := ⟨plain_er 8 ty hc.1, by rw [erTs, er_agg]; exact hc.2⟩
      split at h
      · rename_i r1 h1
        refine ⟨_, ?_, h⟩
        simp only [V.er, erL_map, binA, if_pos hc', eqV_er 8 ty h1, Option.bind_some, boolOp]
      · rename_i r1 h1
        refine ⟨_, ?_, h⟩
        simp only [V.er, erL_map, binA, if_pos hc', eqV_er 8 ty h1, Option.bind_some, boolOp, std]
      · cases h
    · cases h
  · rename_i hne
    obtain ⟨d, h1, h2⟩ := binV_er h
    refine ⟨d, ?_, h2⟩
    unfold binA
    split
    · rename_i e1 e2
      cases x <;> simp only [V.er] at e1 <;> try (cases e1; done)
      cases y <;> simp only [V.er] at e2 <;> try (cases e2; done)
      exact (hne _ _ rfl rfl).elim
    · exact h1

theorem boolOpV_er {op : BinOp} {b : Bool} {K : V → Option β} {r : β} (h : boolOpV op b K = some r) : ∃ d : V, boolOp op b = some d.er ∧ K d = some r := by
  unfold boolOpV at h
  split at h
  · exact ⟨_, by simp [V.er, boolOp], h⟩
  · exact ⟨_, by simp [V.er, boolOp], h⟩
  · cases h

theorem binNV_er {ti : TV} {op : BinOp} {c : Nat} {x : V} {K : V → Option β} {r : β} (h : binNV std ti op c x K = some r) : ∃ d : V, binN (erT ti) op c x.er = some d.er ∧ K d = some r := by
  unfold binNV at h
  split at h
  · rename_i f t l b1 b2 b3 b4
    split at h
    · rcases split_some h with ⟨h1, h⟩ | ⟨h1, h⟩
      · simp only [std, List.isEmpty_iff] at h1
        subst h1
        exact ⟨_, by simp [V.er, binN, erT], h⟩
      · refine ⟨_, ?_, h⟩
        cases l with
        | nil => cases h1
        | cons a l => simp [V.er, binN, erT, boolOp]
    · rcases split_some h with ⟨h1, h⟩ | ⟨h1, h⟩
      · simp only [std, List.isEmpty_iff] at h1
        subst h1
        exact ⟨_, by simp [V.er, binN, erT], h⟩
      · refine ⟨_, ?_, h⟩
        cases l with
        | nil => cases h1
        | cons a l => simp [V.er, binN, erT, boolOp]
    · cases h
  · obtain ⟨d, h1, h2⟩ := boolOpV_er h
    exact ⟨d, by simpa [V.er, binN, erT] using h1, h2⟩
  · obtain ⟨d, h1, h2⟩ := boolOpV_er h
    exact ⟨d, by simpa [V.er, binN, erT] using h1, h2⟩
  · obtain ⟨d, h1, h2⟩ := boolOpV_er h
    exact ⟨d, by simpa [V.er, binN, erT] using h1, h2⟩
  · cases h

theorem binOV_er {T : Nat → TV} {ty : Nat} {op : BinOp} {ox oy : Operand} {x y : V} {K : V → Option β} {r : β} (h : binOV std T ty op ox oy x y K = some r) : ∃ d : V, binO (erTs T) ty op (nilC ox) (nilC oy) x.er y.er = some d.er ∧ K d = some r := by
  unfold binOV at h
  unfold binO
  split at h
  · rename_i e
    simp only [e]
    exact binNV_er h
  · rename_i e1 e2
    simp only [e1, e2]
    exact binNV_er h
  · rename_i e1 e2
    simp only [e1, e2]
    exact binAV_er h

theorem unV_er {op : UnOp} {x : V} {K : V → Option β} {r : β} (h : unV std op x K = some r) : ∃ d : V, unD op x.er = some d.er ∧ K d = some r := by
  unfold unV at h
  split at h
  · exact ⟨_, by simp [V.er, unD, std], h⟩
  · exact ⟨_, by simp [V.er, unD, std], h⟩
  · exact ⟨_, by simp [V.er, unD, std], h⟩
  · exact ⟨_, by simp [V.er, unD], h⟩
  · cases h

theorem erT_sl (a b : Nat) (t : Ty) (z : List V) : erT (.sl a b t z) = .sl ⟨t.width, a, b⟩ (z.map V.er) := rfl
theorem erT_str : erT .str = .str := rfl

theorem byte_er (t : TV) : byteT (erT t) = byteTV t := by
  cases t with
  | int k => cases k <;> rfl
  | _ => rfl

theorem elems_bytes : ∀ l : List Int, elemsBytes (l.map (cellsD (.int .u8))) = some (l.map fun n => UInt8.ofNat n.toNat)
  | [] => rfl
  | a :: l => by
    show (elemsBytes (l.map (cellsD (.int .u8)))).map (UInt8.ofNat a.toNat :: ·) = _
    rw [elems_bytes l]
    rfl

theorem conv_er {T : Nat → TV} {src dst : Nat} {x : V} {K : V → Option β} {r : β} (h : convV std T src dst x K = some r) : ∃ d : V, convD (erTs T) src dst x.er = some d.er ∧ K d = some r := by
  unfold convV at h
  unfold convD erTs
  split at h
  · rename_i h1 h2
    rw [h1, h2]
    exact ⟨_, by simp [erT, V.er, std], h⟩
  · rename_i h1 h2
    rw [h1, h2]
    exact ⟨_, by simp [erT, V.er], h⟩
  · rename_i h1 h2
    rw [h1, h2]
    split at h
    · rename_i hb
      refine ⟨_, ?_, h⟩
      simp only [erT_sl, erT_str, V.er, byte_er, if_pos hb, Ty.width, std, strOf]
      exact congrArg (Option.map _) (elems_bytes _)
    · cases h
  · rename_i h1 h2
    rw [h1, h2]
    split at h
    · rename_i hb
      refine ⟨_, ?_, h⟩
      have e : ∀ l : List UInt8, byteElems l = (l.map fun b => (b.toNat : Int)).map (cellsD (.int .u8)) := by
        intro l
        simp only [byteElems, List.map_map]
        rfl
      simp only [erT_sl, erT_str, V.er, byte_er, hb, Ty.width, and_self, if_true, std, bytesOf, e]
    · cases h
  · cases h

theorem fill_er {place : Nat → Option (Nat × Nat)} : ∀ (l : List (Nat × V)) {cells out : List V}, fillV place cells l = some out → fillD place (cells.map V.er) (l.map fun p => (p.1, p.2.er)) = some (out.map V.er)
  | [], cells, out, h => by
    simp only [fillV, Option.some.injEq] at h
    subst h
    rfl
  | (i, v) :: r, cells, out, h => by
    simp only [fillV] at h
    split at h
    · cases h
    · rename_i off n hp
      split at h
      · rename_i hc
        have := fill_er r h
        simp only [List.map_cons, fillD, hp, er_cells_len, List.length_map, if_pos hc]
        simp only [List.map_append, List.map_take, List.map_drop, er_cells] at this
        exact this
      · cases h

theorem fillEls_er {t : Ty} : ∀ (l : List (Nat × V)) {els out : List t.den}, fillElsV t els l = some out → fillEls t.width (els.map (cellsD t)) (l.map fun p => (p.1, p.2.er)) = some (out.map (cellsD t))
  | [], els, out, h => by
    simp only [fillElsV, Option.some.injEq] at h
    subst h
    rfl
  | (i, v) :: r, els, out, h => by
    simp only [fillElsV] at h
    split at h
    · rename_i x hx
      split at h
      · rename_i hi
        have := fillEls_er r h
        have e := ofVal_ok hx
        have ec : v.er.cells = cellsD t x := by rw [← er_cells, e, vals_er]
        simp only [List.map_cons, fillEls, ec, cellsD_len, List.length_map, hi, and_self, if_true]
        simpa only [List.map_set] using this
      · cases h
    · cases h

theorem more_er {T : Nat → TV} {t : Ty} {ty : Nat} {d : V} {m : List t.den} (h : moreV std T t ty d = some m) : moreOf (erTs T) t.width ty d.er = some (m.map (cellsD t)) := by
  unfold moreV at h
  unfold moreOf erTs
  split at h
  · rename_i t' l hT
    rw [hT]
    split at h
    · rename_i ht
      subst ht
      cases h
      simp [erT, V.er]
    · cases h
  · rename_i s hT
    rw [hT]
    split at h
    · rename_i ht
      subst ht
      cases h
      simp only [erT, V.er, Ty.width, if_true, std, bytesOf, byteElems, List.map_map]
      rfl
    · cases h
  · cases h

theorem best_er {g : Int → Int → Int} {p : Int → Int → Bool} (hg : ∀ x y, g x y = if p x y then y else x) : ∀ (l : List V) {d out : V}, bestV g d l = some out → bestD p d.er (l.map V.er) = some out.er
  | [], d, out, h => by
    unfold bestV at h
    split at h
    · cases h; rfl
    · rename_i e; cases e
    · cases h
  | y :: r, d, out, h => by
    unfold bestV at h
    split at h
    · rename_i e; cases e
    · rename_i k x k' y' r' e
      cases e
      split at h
      · rename_i hk
        subst hk
        have := best_er hg r h
        simp only [V.er, List.map_cons, bestD, if_true]
        rw [hg] at this
        simpa only [V.er] using this
      · cases h
    · cases h

theorem lit_eq {st : VS} {t : Nat} {b : Bool} (h : st.get t = .bool b) : ({ st with tm := st.tm.set t (.bool b) } : VS) = st := by
  cases st with
  | mk tm bx ln dirty up =>
    simp only [VS.get, List.getD_eq_getElem?_getD] at h
    simp only [VS.mk.injEq, and_self, and_true]
    by_cases ht : t < tm.length
    · rw [List.getElem?_eq_getElem ht, Option.getD_some] at h
      rw [← h]
      exact List.set_getElem_self ht
    · rw [List.getElem?_eq_none (by omega)] at h
      cases h

theorem lit_some {st : VS} {t : Nat} {b : Bool} {K : Bool → VS → Option β} {r : β} (hb : st.get t = .bool b) (h : litK st t b K = some r) : K b st = some r := by
  unfold litK at h
  rcases split_some h with ⟨rfl, h2⟩ | ⟨rfl, h2⟩
  · rwa [lit_eq hb] at h2
  · rwa [lit_eq hb] at h2

theorem boolK_some {T : Nat → TV} {st : VS} {x : Operand} {K : Bool → VS → Option β} {r : β} (h : boolK T st x K = some r) : ∃ b, st.see T 0 x = .bool b ∧ K b st = some r := by
  unfold boolK at h
  split at h
  · rename_i t
    split at h
    · rename_i b hb
      refine ⟨b, ?_, lit_some hb h⟩
      have : st.raw T 0 (.tmp t) = .bool b := hb
      simp only [VS.see, this]
    · cases h
  · split at h
    · rename_i b hb
      refine ⟨b, ?_, ?_⟩
      · simp only [VS.see, hb]
      · rcases split_some h with ⟨rfl, h2⟩ | ⟨rfl, h2⟩ <;> exact h2
    · cases h

end Go.PI
end
section
/- Typed values: an operation, when the types are forgotten. -/
namespace Go.PI
open Go

variable {β : Type} {sig : Sigs} {C : TyC sig} {C' : CallT} {T : Nat → TV} {inst : Nat → Nat} {base : Nat}

def Sig.ds (s : Sig) (x : s.inT.den) : List D := (cellsD s.inT x).take s.na
def Sig.bxs (s : Sig) (x : s.inT.den) : List (List D) := ((cellsD s.inT x).drop s.na).map D.cells
def Sig.res (s : Sig) (y : s.outT.den) : D := (cellsD s.outT y).headD .undef
def Sig.bxs' (s : Sig) (y : s.outT.den) : List (List D) := ((cellsD s.outT y).drop 1).map D.cells

/-- Plain callees that answer what typed ones do, and nothing else. -/
structure Matches (C : TyC sig) (inst : Nat → Nat) (C' : CallT) : Prop where
  says : ∀ g x y, (sig (inst g)).g = g → C (inst g) x = some y → cellsD (sig (inst g)).inT x = (sig (inst g)).ds x ++ ((sig (inst g)).bxs x).map .agg →
    C' g ((sig (inst g)).ds x) ((sig (inst g)).bxs x) = some ((sig (inst g)).res y, (sig (inst g)).bxs' y, (sig (inst g)).dirty, (sig (inst g)).up)
  only : ∀ g ds bx q, C' g ds bx = some q → ∃ x, (sig (inst g)).bxs x = bx

theorem getD_cells {t : Ty} {l : List t.den} {i : Nat} (h : i < l.length) : (l.map (cellsD t)).getD i [] = cellsD t (l.getD i t.dflt) := by
  simp [List.getD_eq_getElem?_getD, List.getElem?_map, List.getElem?_eq_getElem h]

theorem get?_cells {t : Ty} {l : List t.den} {i : Nat} (h : i < l.length) : (l.map (cellsD t))[i]? = some (cellsD t (l.getD i t.dflt)) := by
  simp [List.getD_eq_getElem?_getD, List.getElem?_map, List.getElem?_eq_getElem h]

theorem er_isTup (d : V) : (d.isTup).map (List.map V.er) = d.er.isTup := by
  cases d <;> simp [V.isTup, D.isTup, V.er, erL_map]

theorem er_isBor (d : V) : d.er.isBor = d.isBor := by
  cases d <;> rfl

theorem er_fget {α : Type} (fs : List α) (f : Nat) : fs[f]? = fs[f]? := rfl

theorem map_agg_cells (l : List (List V)) : ((l.map V.agg).map V.er).map D.cells = l.map (List.map V.er) := by
  simp only [List.map_map]
  congr 1
  funext b
  simp only [Function.comp, V.er, D.cells, erL_map]

theorem map_cells_agg (bs : List V) : (bs.map V.er).map D.cells = (bs.map V.cells).map (List.map V.er) := by
  simp only [List.map_map]
  congr 1
  funext b
  simp only [Function.comp, er_cells]

theorem bxs_len (s : Sig) (x : s.inT.den) : (s.bxs x).length = s.inT.width - s.na := by
  simp only [Sig.bxs, List.length_map, List.length_drop, cellsD_len]

theorem callK_er (hC : Matches C inst C') {g : Nat} {args : List V} {st : VS} {K : V → List Pl → VS → Option β} {r : β} (h : callK C inst base g args st K = some r) :
    ∃ d ps s, callS C' base g (args.map V.er) st.er = some (V.er d, ps, VS.er s) ∧ K d ps s = some r := by
  unfold callK at h
  simp only at h
  split at h
  · rename_i hg
    obtain ⟨hg, hna⟩ := hg
    split at h
    · rename_i hlow
      split at h
      · rename_i x hx
        obtain ⟨y, hy, h⟩ := optK_some h
        split at h
        · rename_i rv hrv
          split at h
          · rename_i hrl
            have e := ofVal_ok hx
            have ea : args.map V.er = cellsD (sig (inst g)).inT x := by rw [e, vals_er]
            have er_ : cellsD (sig (inst g)).outT y = [rv.er] := by rw [← vals_er, hrv]; rfl
            have e1 : (sig (inst g)).ds x = args.map V.er := by
              unfold Sig.ds
              rw [← ea, hna, ← List.length_map (f := V.er) (as := args), List.take_length]
            have e2 : (sig (inst g)).bxs x = [] := by
              unfold Sig.bxs
              rw [← ea, hna, ← List.length_map (f := V.er) (as := args), List.drop_length]
              rfl
            have em := hC.says g x y hg hy (by rw [e1, e2, ea]; simp)
            have e3 : (sig (inst g)).res y = rv.er := by unfold Sig.res; rw [er_]; rfl
            rw [e1, e2, e3] at em
            refine ⟨rv, [], st, ?_, h⟩
            unfold callS
            rw [lowL_map hlow]
            simp only [em, low_er 0 rv true hrl]
          · cases h
        · cases h
      · cases h
    · rename_i low _ hlow
      split at h
      · rename_i x hx
        obtain ⟨y, hy, h⟩ := optK_some h
        split at h
        · rename_i rv bs hrv
          split at h
          · rename_i hcond
            have e := ofVal_ok hx
            have ea : cellsD (sig (inst g)).inT x = args.map V.er ++ (st.bx.map V.agg).map V.er := by rw [← vals_er, ← e, List.map_append]
            have er_ : cellsD (sig (inst g)).outT y = rv.er :: bs.map V.er := by rw [← vals_er, hrv]; rfl
            have e1 : (sig (inst g)).ds x = args.map V.er := by
              unfold Sig.ds
              rw [ea, hna, List.take_left' (by simp)]
            have e2 : (sig (inst g)).bxs x = st.er.bx := by
              unfold Sig.bxs
              rw [ea, hna, List.drop_left' (by simp), map_agg_cells]
              rfl
            have em := hC.says g x y hg hy (by
              rw [e1, e2, ea]
              simp [VS.er, List.map_map, Function.comp_def, V.er, erL_map])
            have e3 : (sig (inst g)).res y = rv.er := by unfold Sig.res; rw [er_]; rfl
            have e4 : (sig (inst g)).bxs' y = (bs.map V.cells).map (List.map V.er) := by
              unfold Sig.bxs'
              rw [er_]
              exact map_cells_agg bs
            rw [e1, e2, e3, e4] at em
            refine ⟨rv, [], _, ?_, h⟩
            have fin : callG C' base g (args.map V.er) st.er = some (rv.er, [], VS.er { (st.forget fun p => match p with | .s .. => false | .b loc _ => (sig (inst g)).dirty.contains loc) with bx := bs.map V.cells, dirty := (sig (inst g)).dirty.filter (· < base) ++ (st.forget fun p => match p with | .s .. => false | .b loc _ => (sig (inst g)).dirty.contains loc).dirty, up := (st.forget fun p => match p with | .s .. => false | .b loc _ => (sig (inst g)).dirty.contains loc).up || (sig (inst g)).up }) := by
              simp only [callG, em, Option.some.injEq, Prod.mk.injEq, true_and]
              rw [← er_forget]
              rfl
            unfold callS
            cases low with
            | false =>
              rw [lowL_map hlow]
              exact fin
            | true =>
              rw [lowL_map hlow]
              simp only
              rcases hcond with h0 | h0 | h0
              · cases h0
              · cases hc : C' g (args.map V.er) [] with
                | none => exact fin
                | some q =>
                  exfalso
                  obtain ⟨x', hx'⟩ := hC.only g _ _ q hc
                  have l1 := bxs_len (sig (inst g)) x
                  have l2 := bxs_len (sig (inst g)) x'
                  rw [hx'] at l2
                  rw [e2, ← l2] at l1
                  have : st.bx = [] := by
                    have := List.length_eq_zero_iff.mp l1
                    simpa [VS.er] using this
                  rw [this] at h0
                  simp at h0
              · by_cases hb : st.er.bx = []
                · rw [hb] at em
                  simp only [em, low_er 0 rv false h0]
                  exact fin
                · cases hc : C' g (args.map V.er) [] with
                  | none => exact fin
                  | some q =>
                    exfalso
                    obtain ⟨x', hx'⟩ := hC.only g _ _ q hc
                    have l1 := bxs_len (sig (inst g)) x
                    have l2 := bxs_len (sig (inst g)) x'
                    rw [hx'] at l2
                    rw [e2, ← l2] at l1
                    exact hb (List.length_eq_zero_iff.mp l1)
          · cases h
        · cases h
      · cases h
    · cases h
  · cases h

theorem builtin_er {b : Builtin} {xs : List Operand} {ts : List TypeId} {st : VS} {K : V → List Pl → VS → Option β} {r : β} (h : builtinK std T base b xs ts st K = some r) :
    ∃ d ps s, builtinV (erTs T) base b xs ts st.er = some (V.er d, ps, VS.er s) ∧ K d ps s = some r := by
  unfold builtinK at h
  split at h
  · rename_i x t
    split at h
    · rename_i b1 b2 b3 b4 f u l hT hs
      refine ⟨_, _, _, ?_, h⟩
      simp only [builtinV, ← er_see, hs, V.er]
      simp only [erTs, hT, erT_sl, List.length_map, std]
    · rename_i s hT hs
      refine ⟨_, _, _, ?_, h⟩
      simp only [builtinV, ← er_see, hs, V.er]
      simp only [erTs, hT, erT_str, std]
    · cases h
  · obtain ⟨d, h1, h⟩ := optK_some h
    refine ⟨_, _, _, ?_, h⟩
    have := best_er (p := fun x y => decide (y < x)) (g := std.min) (by intro x y; simp [std]) _ h1
    simp only [List.map_map, Function.comp_def] at this
    have e : st.er.see (erTs T) 3 = fun a => (st.see T 3 a).er := funext fun a => (er_see _ _ _ _).symm
    simp only [builtinV, e]
    rw [this]
    rfl
  · obtain ⟨d, h1, h⟩ := optK_some h
    refine ⟨_, _, _, ?_, h⟩
    have := best_er (p := fun x y => decide (y > x)) (g := std.max) (by intro x y; simp [std]) _ h1
    simp only [List.map_map, Function.comp_def] at this
    have e : st.er.see (erTs T) 3 = fun a => (st.see T 3 a).er := funext fun a => (er_see _ _ _ _).symm
    simp only [builtinV, e]
    rw [this]
    rfl
  · rename_i x y t u
    split at h
    · rename_i bytes ety e z hT
      split at h
      · rename_i m f e' l s hm ht
        split at h
        · rename_i he
          subst he
          split at h
          · rename_i hc
            obtain ⟨h1, h⟩ := when_some h
            refine ⟨_, _, _, ?_, h⟩
            have hm' := more_er hm
            rw [er_see] at hm'
            have ht' := vtake_er ht
            have hTe : erTs T t = .sl ⟨e'.width, bytes, ety⟩ (z.map V.er) := by simp only [erTs, hT, erT_sl]
            simp only [std, decide_eq_true_eq] at h1
            simp only [builtinV, hTe, hm', ht', V.er, List.length_map]
            rw [if_pos ⟨hc.1, trivial, h1, hc.2.1, hc.2.2⟩]
            simp only [std, List.map_append]
          · cases h
        · cases h
      · cases h
    · cases h
  · cases h

theorem callV_er (hC : Matches C inst C') {c : Call} {st : VS} {K : V → List Pl → VS → Option β} {r : β} (h : callVK std C T inst base c st K = some r) :
    ∃ d ps s, callV C' (erTs T) base c st.er = some (V.er d, ps, VS.er s) ∧ K d ps s = some r := by
  unfold callVK at h
  unfold callV
  split at h
  · rename_i b hb
    simp only [hb]
    exact builtin_er h
  · rename_i f hf
    simp only [hf]
    split at h
    · rename_i g first cap hs
      split at h
      · rename_i ds s hu
        split at h
        · rename_i hsz
          obtain ⟨d, ps, s', h1, h2⟩ := callK_er hC h
          refine ⟨d, ps, s', ?_, h2⟩
          simp only [← er_see, hs, V.er, uses_er _ hu, if_pos hsz, erL_map]
          simpa only [List.map_append] using h1
        · cases h
      · cases h
    · cases h
  · cases h

theorem slice_er {st : VS} {ty : Nat} {x : Operand} {lo hi mx : Option Operand} {o : Oper} {ds : List Nat} {K : V → List Pl → VS → Option β} {r : β} (ho : o.op = .slice ty x lo hi mx)
    (h : opVK std C T inst base ds o st K = some r) : ∃ d ps s, opV C' (erTs T) base ds o st.er = some (V.er d, ps, VS.er s) ∧ K d ps s = some r := by
  simp only [opVK, ho] at h
  simp only [opV, ho]
  split at h
  · rename_i hT
    split at h
    · rename_i s hs
      split at h
      · rename_i hv lv hh hl
        obtain ⟨h1, h⟩ := when_some h
        refine ⟨_, _, _, ?_, h⟩
        simp only [std, decide_eq_true_eq] at h1
        have hTe : erTs T ty = .str := by simp only [erTs, hT, erT_str]
        simp only [hTe, ← er_see, hs, V.er]
        rcases hi with _ | kh <;> rcases lo with _ | kl <;> simp only [Option.some.injEq] at hh hl <;> simp only
        · subst hh hl
          simp only [std] at h1 ⊢
          rw [if_pos h1]
        · subst hh
          simp only [std] at h1 ⊢
          rw [er_int hl]
          simp only [if_pos h1]
        · subst hl
          simp only [std] at h1 ⊢
          rw [er_int hh]
          simp only [if_pos h1]
        · simp only [std] at h1 ⊢
          rw [er_int hh, er_int hl]
          simp only [if_pos h1]
      · cases h
    · cases h
  · rename_i b1 b2 e z hT
    split at h
    · rename_i f t l s hu
      split at h
      · rename_i hw
        have hTe : erTs T ty = .sl ⟨e.width, b1, b2⟩ (z.map V.er) := by simp only [erTs, hT, erT_sl]
        have hu' := vuse_er hu
        simp only [hTe, hu', V.er, List.length_map]
        split at h
        · refine ⟨_, _, _, ?_, h⟩
          simp [hw, V.er, List.take_of_length_le]
        · rename_i k
          split at h
          · rename_i hv hh
            obtain ⟨h1, h⟩ := when_some h
            refine ⟨_, _, _, ?_, h⟩
            simp only [std, decide_eq_true_eq] at h1
            have e1 : intD (st.er.see (erTs T) 3 k) = some hv := by rw [← er_see]; exact er_int hh
            simp only [e1]
            rw [if_pos ⟨hw, Int.le_refl _, h1.2.1, h1.2.2⟩]
            simp [std, V.er, List.map_take]
          · cases h
        · rename_i k
          split at h
          · rename_i lv hl
            obtain ⟨h1, h⟩ := when_some h
            refine ⟨_, _, _, ?_, h⟩
            simp only [std, decide_eq_true_eq] at h1
            have e1 : intD (st.er.see (erTs T) 3 k) = some lv := by rw [← er_see]; exact er_int hl
            simp only [e1]
            rw [if_pos ⟨hw, h1.1, h1.2.1, Int.le_refl _⟩]
            simp [std, V.er, List.map_drop, List.take_of_length_le]
          · cases h
        · rename_i k k'
          split at h
          · rename_i hv lv hh hl
            obtain ⟨h1, h⟩ := when_some h
            refine ⟨_, _, _, ?_, h⟩
            simp only [std, decide_eq_true_eq] at h1
            have e1 : intD (st.er.see (erTs T) 3 k) = some hv := by rw [← er_see]; exact er_int hh
            have e2 : intD (st.er.see (erTs T) 3 k') = some lv := by rw [← er_see]; exact er_int hl
            simp only [e1, e2]
            rw [if_pos ⟨hw, h1.1, h1.2.1, h1.2.2⟩]
            simp [std, V.er, List.map_drop, List.map_take]
          · cases h
      · cases h
    · cases h
  · cases h

theorem indexAddr_er {st : VS} {ty : Nat} {x i : Operand} {o : Oper} {ds : List Nat} {K : V → List Pl → VS → Option β} {r : β} (ho : o.op = .indexAddr ty x i)
    (h : opVK std C T inst base ds o st K = some r) : ∃ d ps s, opV C' (erTs T) base ds o st.er = some (V.er d, ps, VS.er s) ∧ K d ps s = some r := by
  simp only [opVK, ho] at h
  simp only [opV, ho]
  split at h
  · rename_i n b1 b2 e z hi hT
    have hTe : erTs T ty = .sl ⟨e.width, b1, b2⟩ (z.map V.er) := by simp only [erTs, hT, erT_sl]
    have hi' : intD (st.er.see (erTs T) 3 i) = some n := by rw [← er_see]; exact er_int hi
    simp only [hTe, hi', ← er_raw]
    split at h
    · rename_i p hp
      simp only [hp, V.er, ← er_at]
      split at h
      · rename_i f t l hl
        split at h
        · rename_i hw
          obtain ⟨h1, h⟩ := when_some h
          simp only [std, decide_eq_true_eq] at h1
          simp only [hl, V.er, List.length_map]
          rw [if_pos ⟨hw, h1.1, h1.2⟩]
          split at h
          · rename_i hf
            refine ⟨_, _, _, ?_, h⟩
            rw [if_pos hf]
            rfl
          · rename_i hf
            refine ⟨_, _, _, ?_, h⟩
            rw [if_neg hf]
            have : n.toNat < l.length := by omega
            rw [getD_cells this]
            simp only [V.er, erL_map, vals_er, std]
        · cases h
      · cases h
    · rename_i f u l hl
      simp only [hl, V.er]
      split at h
      · rename_i t ht
        split at h
        · rename_i hw
          obtain ⟨h1, h⟩ := when_some h
          simp only [std, decide_eq_true_eq] at h1
          simp only [ht, List.length_map]
          rw [if_pos ⟨hw, h1.1, h1.2⟩]
          split at h
          · rename_i hf
            refine ⟨_, _, _, ?_, h⟩
            rw [if_pos hf]
            rfl
          · rename_i hf
            refine ⟨_, _, _, ?_, h⟩
            rw [if_neg hf]
            have : n.toNat < l.length := by omega
            rw [getD_cells this]
            simp only [V.er, erL_map, vals_er, std]
        · cases h
      · cases h
    · cases h
  · rename_i v len n b1 z hi hT
    have hTe : erTs T ty = .arr len n b1 (z.map V.er) := by simp only [erTs, hT, erT]
    have hi' : intD (st.er.see (erTs T) 3 i) = some v := by rw [← er_see]; exact er_int hi
    simp only [hTe, hi']
    simp only [← er_see]
    have key : ∃ j : Nat, v = (j : Int) ∧ j < len ∧ (match st.see T 0 x with
        | .ptr loc o => K (.ptr loc (o + j * n)) [] st
        | .rp l => K (.rp (l.drop (j * n))) [] st
        | .ea p m h o => K (.ea p m h (o + j * n)) [p] st
        | _ => none) = some r := by
      split at h
      · split at h
        · rename_i c hc hb
          exact ⟨c.toNat, by omega, by omega, h⟩
        · cases h
      · obtain ⟨j, hj, e, h⟩ := caseK_some _ h
        exact ⟨j, e, by simpa using hj, h⟩
    obtain ⟨j, rfl, hj, h⟩ := key
    rw [if_pos ⟨by omega, by omega⟩]
    simp only [Int.toNat_natCast]
    split at h
    · rename_i hs
      refine ⟨_, _, _, ?_, h⟩
      simp only [hs, V.er]
    · rename_i hs
      refine ⟨_, _, _, ?_, h⟩
      simp only [hs, V.er, erL_map, List.map_drop]
    · rename_i hs
      refine ⟨_, _, _, ?_, h⟩
      simp only [hs, V.er]
    · cases h
  · cases h

theorem load_er {st : VS} {ty : Nat} {a : Operand} {o : Oper} {ds : List Nat} {K : V → List Pl → VS → Option β} {r : β} (ho : o.op = .load ty a)
    (h : opVK std C T inst base ds o st K = some r) : ∃ d ps s, opV C' (erTs T) base ds o st.er = some (V.er d, ps, VS.er s) ∧ K d ps s = some r := by
  simp only [opVK, ho] at h
  simp only [opV, ho, ← er_see]
  have hz : (erTs T ty).size = (T ty).size := er_size _
  have ha : (erTs T ty).agg = (T ty).agg := er_agg _
  split at h
  · rename_i loc off hs
    simp only [hs, V.er, hz, ha, er_box_len]
    split at h
    · rename_i hc
      refine ⟨_, _, _, ?_, h⟩
      rw [if_pos hc]
      have := er_ldLeaves (ds.contains viewM) (Pl.b loc) (((st.box loc).drop off).take (T ty).size) off
      simp only [List.map_take, List.map_drop, er_box] at this
      rw [← this]
      simp only [er_mk]
    · cases h
  · rename_i l hs
    simp only [hs, V.er, hz, ha, erL_map, List.length_map]
    split at h
    · rename_i hc
      refine ⟨_, _, _, ?_, h⟩
      rw [if_pos hc]
      simp only [er_mk, List.map_take]
    · cases h
  · rename_i p n i off hs
    simp only [hs, V.er, hz, ha, ← er_at]
    split at h
    · rename_i f t l hl
      split at h
      · rename_i hc
        obtain ⟨h1, h⟩ := when_some h
        simp only [std, decide_eq_true_eq] at h1
        refine ⟨_, _, _, ?_, h⟩
        simp only [hl, V.er]
        rw [if_pos hc, get?_cells h1]
        simp only [Option.map_some, er_mk, List.map_take, List.map_drop, vals_er, std]
      · cases h
    · cases h
  · cases h

theorem opV_er (hC : Matches C inst C') {st : VS} {o : Oper} {ds : List Nat} {K : V → List Pl → VS → Option β} {r : β}
    (h : opVK std C T inst base ds o st K = some r) : ∃ d ps s, opV C' (erTs T) base ds o st.er = some (V.er d, ps, VS.er s) ∧ K d ps s = some r := by
  have hz : ∀ ty, (erTs T ty).size = (T ty).size := fun ty => er_size _
  have ha : ∀ ty, (erTs T ty).agg = (T ty).agg := fun ty => er_agg _
  cases ho : o.op with
  | move x =>
    simp only [opVK, ho] at h
    simp only [opV, ho]
    cases x with
    | tmp t =>
      simp only at h ⊢
      rw [← er_get, ← er_isTup]
      cases hc : ds.contains t with
      | true =>
        simp only [hc] at h
        split at h
        · rename_i l e1 e2
          refine ⟨_, _, _, ?_, h⟩
          simp only [e2, Option.map_some, V.er, erL_map]
          simp only [VS.er, List.map_set, V.er]
        · rename_i e1 e2
          obtain ⟨⟨d, s⟩, h1, h⟩ := optK_some h
          refine ⟨_, _, _, ?_, h⟩
          simp only [e2, Option.map_none, vtake_er h1, Option.map_some]
        · rename_i e1 e2; cases e1
        · rename_i e1 e2; cases e1
      | false =>
        simp only [hc] at h
        split at h
        · rename_i e1 e2; cases e1
        · rename_i e1 e2; cases e1
        · rename_i e1 e2
          refine ⟨_, _, _, ?_, h⟩
          have := er_bor t (st.get t)
          simp only [e2, Option.map_none, ← this]
        · cases h
    | _ =>
      simp only at h ⊢
      obtain ⟨⟨d, s⟩, h1, h⟩ := optK_some h
      exact ⟨_, _, _, by simp only [vtake_er h1, Option.map_some], h⟩
  | assign x =>
    simp only [opVK, ho] at h
    simp only [opV, ho]
    cases x with
    | tmp t =>
      simp only at h ⊢
      rw [← er_get, er_isBor]
      split at h
      · rename_i hc
        obtain ⟨⟨d, s⟩, h1, h⟩ := optK_some h
        refine ⟨_, _, _, ?_, h⟩
        rw [if_pos hc, vtake_er h1]
        rfl
      · rename_i hc
        obtain ⟨⟨d, s⟩, h1, h⟩ := optK_some h
        refine ⟨_, _, _, ?_, h⟩
        rw [if_neg hc, vuse_er h1]
        rfl
    | _ =>
      simp only at h ⊢
      obtain ⟨⟨d, s⟩, h1, h⟩ := optK_some h
      exact ⟨_, _, _, by simp only [vtake_er h1, Option.map_some], h⟩
  | pick c a b =>
    simp only [opVK, ho] at h
    simp only [opV, ho]
    obtain ⟨w, h0, h⟩ := boolK_some h
    obtain ⟨⟨d, s⟩, h1, h⟩ := optK_some h
    refine ⟨_, _, _, ?_, h⟩
    simp only [← er_see, h0, V.er, vuse_er h1, Option.map_some]
  | box ty x =>
    simp only [opVK, ho] at h
    simp only [opV, ho]
    split at h
    · rename_i d s h1
      split at h
      · rename_i low hlow
        split at h
        · rename_i hc
          refine ⟨_, _, _, ?_, h⟩
          have hl := lowL_map hlow
          rw [er_cells] at hl
          have hlen : s.er.bx.length = s.bx.length := by simp [VS.er]
          simp only [vtake_er h1, er_cells_len, hz]
          rw [if_pos hc]
          simp only [hlen, hl, V.er, Option.some.injEq, Prod.mk.injEq, true_and]
          simp only [VS.er, List.map_append, List.map_cons, List.map_nil, er_cells]
        · cases h
      · cases h
    · cases h
  | load ty a => exact load_er ho h
  | fieldAddr s x f =>
    simp only [opVK, ho] at h
    simp only [opV, ho]
    split at h
    · rename_i fs z hT
      have hTe : erTs T s = .st fs (z.map V.er) := by simp only [erTs, hT, erT]
      simp only [hTe]
      split at h
      · rename_i off n ft hf
        simp only [hf]
        split at h
        · cases h
        · rename_i hn
          rw [if_neg hn]
          simp only [← er_see]
          split at h
          · rename_i hs
            exact ⟨_, _, _, by simp only [hs, V.er], h⟩
          · rename_i hs
            exact ⟨_, _, _, by simp only [hs, V.er, erL_map, List.map_drop], h⟩
          · rename_i hs
            exact ⟨_, _, _, by simp only [hs, V.er], h⟩
          · cases h
      · cases h
    · cases h
  | field ty x f =>
    simp only [opVK, ho] at h
    simp only [opV, ho]
    split at h
    · rename_i fs z l s hT hu
      have hTe : erTs T ty = .st fs (z.map V.er) := by simp only [erTs, hT, erT]
      simp only [hTe, vuse_er hu, V.er, erL_map]
      split at h
      · rename_i off n ft hf
        simp only [hf, hz, ha, List.length_map]
        split at h
        · rename_i hc
          refine ⟨_, _, _, ?_, h⟩
          rw [if_pos hc]
          simp only [er_mk, List.map_take, List.map_drop]
        · cases h
      · cases h
    · cases h
  | indexAddr ty x i => exact indexAddr_er ho h
  | index ty x i =>
    simp only [opVK, ho] at h
    simp only [opV, ho]
    split at h
    · rename_i n s hi hT hs
      have hTe : erTs T ty = .str := by simp only [erTs, hT, erT_str]
      have hi' : intD (st.er.see (erTs T) 3 i) = some n := by rw [← er_see]; exact er_int hi
      obtain ⟨h1, h⟩ := when_some h
      simp only [std, decide_eq_true_eq] at h1
      refine ⟨_, _, _, ?_, h⟩
      simp only [hTe, hi']
      simp only [← er_see, hs, V.er]
      rw [dif_pos h1]
      have hb : n.toNat < s.data.toList.length := by
        have := h1.2
        have e : s.size = s.data.size := rfl
        simp only [Array.length_toList]
        omega
      have e : s[n.toNat]'(by omega) = s.data.toList.getD n.toNat 0 := by
        simp only [List.getD_eq_getElem?_getD, List.getElem?_eq_getElem hb, Option.getD_some, Array.getElem_toList]
        rfl
      simp only [std, e]
    · cases h
  | slice ty x lo hi mx => exact slice_er ho h
  | makeSlice ty len cap =>
    simp only [opVK, ho] at h
    simp only [opV, ho]
    split at h
    · rename_i b1 b2 t z l c hT hl hc
      have hTe : erTs T ty = .sl ⟨t.width, b1, b2⟩ (z.map V.er) := by simp only [erTs, hT, erT_sl]
      have hl' : intD (st.er.see (erTs T) 3 len) = some l := by rw [← er_see]; exact er_int hl
      have hc' : intD (st.er.see (erTs T) 3 cap) = some c := by rw [← er_see]; exact er_int hc
      split at h
      · rename_i hb
        split at h
        · rename_i z1 hz1
          obtain ⟨h1, h⟩ := when_some h
          simp only [std, decide_eq_true_eq] at h1
          refine ⟨_, _, _, ?_, h⟩
          have e := ofVal_ok hz1
          simp only [hTe, hl', hc']
          rw [if_pos ⟨h1.1, h1.2.1, h1.2.2, hb⟩]
          simp only [V.er, zerosD, std, e, vals_er, List.map_replicate]
        · cases h
      · cases h
    · cases h
  | buildSlice ty len parts =>
    simp only [opVK, ho] at h
    simp only [opV, ho]
    split at h
    · rename_i b1 b2 t z hT
      have hTe : erTs T ty = .sl ⟨t.width, b1, b2⟩ (z.map V.er) := by simp only [erTs, hT, erT_sl]
      split at h
      · rename_i ds' s hu
        split at h
        · rename_i hc
          split at h
          · rename_i z1 hz1
            split at h
            · rename_i l hl
              refine ⟨_, _, _, ?_, h⟩
              have e := ofVal_ok hz1
              have := fillEls_er _ hl
              simp only [hTe, uses_er _ hu]
              rw [if_pos hc]
              have ez : zerosD (z.map V.er) len = (List.replicate len z1).map (cellsD t) := by
                simp only [zerosD, e, vals_er, List.map_replicate]
              rw [ez, List.zip_map_right]
              rw [show (Prod.map id V.er : Nat × V → Nat × D) = fun p => (p.1, p.2.er) from rfl, this]
              simp only [Option.map_some, V.er]
            · cases h
          · cases h
        · cases h
      · cases h
    · cases h
  | build ty parts =>
    simp only [opVK, ho] at h
    simp only [opV, ho]
    split at h
    · rename_i fs z hT
      have hTe : erTs T ty = .st fs (z.map V.er) := by simp only [erTs, hT, erT]
      simp only [hTe]
      split at h
      · rename_i ds' s hu
        obtain ⟨l, hl, h⟩ := optK_some h
        refine ⟨_, _, _, ?_, h⟩
        have := fill_er _ hl
        simp only [takes_er _ hu]
        rw [List.zip_map_right]
        rw [show (Prod.map id V.er : Nat × V → Nat × D) = fun p => (p.1, p.2.er) from rfl, this]
        simp only [Option.map_some, V.er, erL_map]
      · cases h
    · rename_i len n ty' z hT
      have hTe : erTs T ty = .arr len n ty' (z.map V.er) := by simp only [erTs, hT, erT]
      simp only [hTe]
      split at h
      · rename_i ds' s hu
        obtain ⟨l, hl, h⟩ := optK_some h
        refine ⟨_, _, _, ?_, h⟩
        have := fill_er _ hl
        simp only [takes_er _ hu]
        rw [List.zip_map_right]
        rw [show (Prod.map id V.er : Nat × V → Nat × D) = fun p => (p.1, p.2.er) from rfl, this]
        simp only [Option.map_some, V.er, erL_map]
      · cases h
    · cases h
  | extract x i =>
    simp only [opVK, ho] at h
    simp only [opV, ho]
    cases x with
    | tmp t =>
      simp only at h ⊢
      rw [← er_get]
      split at h
      · rename_i l hl
        split at h
        · rename_i d hd
          refine ⟨_, _, _, ?_, h⟩
          simp only [hl, V.er, erL_map, List.getElem?_map, hd, Option.map_some]
          simp only [VS.er, List.map_set, V.er, erL_map]
        · cases h
      · cases h
    | _ => cases h
  | makeFunc fn first cap =>
    simp only [opVK, ho] at h
    simp only [opV, ho]
    split at h
    · rename_i g a s h1
      split at h
      · rename_i b s2 h2
        refine ⟨_, _, _, ?_, h⟩
        simp only [uses_er _ h1, uses_er _ h2, V.er, erL_map]
      · cases h
    · cases h
  | binOp op ty x y yt =>
    simp only [opVK, ho] at h
    simp only [opV, ho]
    obtain ⟨d, h1, h⟩ := binOV_er h
    refine ⟨_, _, _, ?_, h⟩
    simp only [← er_see, h1, Option.map_some]
  | unOp op ty x =>
    simp only [opVK, ho] at h
    simp only [opV, ho]
    obtain ⟨d, h1, h⟩ := unV_er h
    refine ⟨_, _, _, ?_, h⟩
    simp only [← er_see, h1, Option.map_some]
  | convert src dst x =>
    simp only [opVK, ho] at h
    simp only [opV, ho]
    obtain ⟨d, h1, h⟩ := conv_er h
    refine ⟨_, _, _, ?_, h⟩
    simp only [← er_see, h1, Option.map_some]
  | nilCheck x =>
    simp only [opVK, ho] at h
    simp only [opV, ho]
    split at h
    · rename_i hs
      refine ⟨_, _, _, ?_, h⟩
      simp only [← er_see, hs, V.er]
    · cases h
  | call c =>
    simp only [opVK, ho] at h
    simp only [opV, ho]
    exact callV_er hC h
  | _ => simp only [opVK, ho] at h; cases h

end Go.PI
end
section
/- Operations in regions whose order is open change no boxes; regions of typed values, when the types are forgotten. -/
namespace Go.PI
open Go

section
variable {C : CallT} {T : Nat → TI} {base : Nat}

/-- Boxes as they were; what borrowed nothing borrows nothing. -/
def SameB (s st : St) : Prop := s.bx = st.bx ∧ s.dirty = st.dirty ∧ s.up = st.up ∧ ∀ t, (st.get t).nb = true → (s.get t).nb = true

theorem sameB_refl (st : St) : SameB st st := ⟨rfl, rfl, rfl, fun _ h => h⟩

theorem SameB.trans {a b c : St} (h : SameB a b) (k : SameB b c) : SameB a c :=
  ⟨h.1.trans k.1, h.2.1.trans k.2.1, h.2.2.1.trans k.2.2.1, fun t e => h.2.2.2 t (k.2.2.2 t e)⟩

theorem get_set_tm (st : St) (t u : Nat) (x : D) : ({ st with tm := st.tm.set t x } : St).get u = if t = u ∧ t < st.tm.length then x else st.get u := by
  simp only [St.get, List.getD_eq_getElem?_getD, List.getElem?_set]
  by_cases h : t = u
  · subst h
    by_cases h2 : t < st.tm.length
    · simp [h2]
    · simp [h2]
  · simp [h]

theorem put_same {st : St} {t j : Nat} {x : D} (hx : x.nbl = true) (hx2 : ∀ l, x ≠ .agg l) : SameB (st.put base (.s t j) x) st := by
  refine ⟨rfl, rfl, rfl, fun u hu => ?_⟩
  simp only [St.put]
  rw [get_set_tm]
  split
  · rename_i h
    obtain ⟨rfl, hl⟩ := h
    cases hd : st.get t with
    | agg l =>
      rw [hd] at hu
      simp only [D.setLeaf, D.nb, List.all_eq_true] at hu ⊢
      intro y hy
      rcases List.mem_or_eq_of_mem_set hy with h | rfl
      · exact hu y h
      · exact hx
    | _ =>
      rw [hd] at hu
      cases j with
      | zero =>
        simp only [D.setLeaf]
        cases x <;> simp_all [D.nb]
      | succ j => simp only [D.setLeaf]; exact hu
  · exact hu

theorem down_same (st : St) (t j : Nat) : SameB (st.down base (.s t j)) st := by
  unfold St.down
  split
  · exact put_same rfl (by simp)
  · exact sameB_refl st

theorem undo_same (st : St) (t j : Nat) : SameB (st.undo base (.s t j)) st := by
  unfold St.undo
  split
  · exact put_same rfl (by simp)
  · exact sameB_refl st

theorem leafUse_same {st s : St} {p : Option Pl} {d x : D} (h : leafUse base st p d = some (x, s)) (hp : ∀ q, p = some q → ∃ t j, q = .s t j) (hd : d.nbl = true) : SameB s st := by
  cases d with
  | sl f n l =>
    cases p with
    | none => simp only [leafUse, Option.some.injEq, Prod.mk.injEq] at h; rw [← h.2]; exact sameB_refl st
    | some q =>
      obtain ⟨t, j, rfl⟩ := hp q rfl
      simp only [leafUse] at h
      split at h
      · cases h
        split
        · exact down_same st t j
        · exact sameB_refl st
      · cases h
  | bor q => cases hd
  | undef => cases h
  | ea _ _ _ _ => cases h
  | rp _ => cases h
  | agg _ => cases h
  | tup _ => cases h
  | _ => simp only [leafUse, Option.some.injEq, Prod.mk.injEq] at h; rw [← h.2]; exact sameB_refl st

theorem leafTake_same {st s : St} {p : Option Pl} {d x : D} (h : leafTake base st p d = some (x, s)) (hp : ∀ q, p = some q → ∃ t j, q = .s t j) (hd : d.nbl = true) : SameB s st := by
  cases d with
  | sl f n l =>
    cases p with
    | none => simp only [leafTake, Option.some.injEq, Prod.mk.injEq] at h; rw [← h.2]; exact sameB_refl st
    | some q =>
      obtain ⟨t, j, rfl⟩ := hp q rfl
      simp only [leafTake] at h
      split at h
      · cases h
        split
        · exact sameB_refl st
        · exact undo_same st t j
      · cases h
  | bor q => cases hd
  | undef => cases h
  | ea _ _ _ _ => cases h
  | rp _ => cases h
  | agg _ => cases h
  | tup _ => cases h
  | _ => simp only [leafTake, Option.some.injEq, Prod.mk.injEq] at h; rw [← h.2]; exact sameB_refl st

theorem leavesUse_same {p : Nat → Option Pl} (hp : ∀ i q, p i = some q → ∃ t j, q = .s t j) : ∀ (l : List D) {j : Nat} {st s : St} {x : List D}, leavesUse base p j st l = some (x, s) → l.all D.nbl = true → SameB s st
  | [], j, st, s, x, h, _ => by
    simp only [leavesUse, Option.some.injEq, Prod.mk.injEq] at h
    rw [← h.2]
    exact sameB_refl st
  | d :: r, j, st, s, x, h, hd => by
    simp only [List.all_cons, Bool.and_eq_true] at hd
    simp only [leavesUse] at h
    split at h
    · rename_i h1
      split at h
      · rename_i h2
        cases h
        exact (leavesUse_same hp r h2 hd.2).trans (leafUse_same h1 (hp j) hd.1)
      · cases h
    · cases h

theorem leavesTake_same {p : Nat → Option Pl} (hp : ∀ i q, p i = some q → ∃ t j, q = .s t j) : ∀ (l : List D) {j : Nat} {st s : St} {x : List D}, leavesTake base p j st l = some (x, s) → l.all D.nbl = true → SameB s st
  | [], j, st, s, x, h, _ => by
    simp only [leavesTake, Option.some.injEq, Prod.mk.injEq] at h
    rw [← h.2]
    exact sameB_refl st
  | d :: r, j, st, s, x, h, hd => by
    simp only [List.all_cons, Bool.and_eq_true] at hd
    simp only [leavesTake] at h
    split at h
    · rename_i h1
      split at h
      · rename_i h2
        cases h
        exact (leavesTake_same hp r h2 hd.2).trans (leafTake_same h1 (hp j) hd.1)
      · cases h
    · cases h

theorem use_same' {st s : St} {t : Option Nat} {d x : D} (h : useD base st t d = some (x, s)) (hd : d.nb = true) : SameB s st := by
  have hp : ∀ (i : Nat) q, (t.map (Pl.s · i)) = some q → ∃ t j, q = Pl.s t j := by
    intro i q e
    cases t with
    | none => cases e
    | some t => cases e; exact ⟨_, _, rfl⟩
  cases d with
  | agg l =>
    simp only [useD, Option.map_eq_some_iff] at h
    obtain ⟨⟨l', s'⟩, h1, h2⟩ := h
    cases h2
    exact leavesUse_same hp l h1 hd
  | _ =>
    simp only [useD] at h
    exact leafUse_same h (hp 0) hd

theorem take_same' {st s : St} {t : Option Nat} {d x : D} (h : takeD base st t d = some (x, s)) (hd : d.nb = true) : SameB s st := by
  have hp : ∀ (i : Nat) q, (t.map (Pl.s · i)) = some q → ∃ t j, q = Pl.s t j := by
    intro i q e
    cases t with
    | none => cases e
    | some t => cases e; exact ⟨_, _, rfl⟩
  cases d with
  | agg l =>
    simp only [takeD, Option.map_eq_some_iff] at h
    obtain ⟨⟨l', s'⟩, h1, h2⟩ := h
    cases h2
    exact leavesTake_same hp l h1 hd
  | _ =>
    simp only [takeD] at h
    exact leafTake_same h (hp 0) hd

theorem raw_nb {st : St} {ty : Nat} {x : Operand} (hx : ∀ t ∈ tmpsL [x], (st.get t).nb = true) : (st.raw T ty x).nb = true := by
  cases x with
  | tmp t => exact hx t (by simp [tmpsL, tmpOf])
  | const v =>
    simp only [St.raw]
    unfold constD
    split <;> try rfl
    split <;> rfl
  | func f => rfl
  | global g => rfl

theorem use_same {st s : St} {ty : Nat} {x : Operand} {d : D} (h : st.use base T ty x = some (d, s)) (hx : ∀ t ∈ tmpsL [x], (st.get t).nb = true) : SameB s st :=
  use_same' h (raw_nb hx)

theorem take_same {st s : St} {ty : Nat} {x : Operand} {d : D} (h : st.take base T ty x = some (d, s)) (hx : ∀ t ∈ tmpsL [x], (st.get t).nb = true) : SameB s st :=
  take_same' h (raw_nb hx)

theorem tmpsL_in (x : Operand) (l : List Operand) (t : Nat) : t ∈ tmpsL (x :: l) ↔ t ∈ tmpsL [x] ∨ t ∈ tmpsL l := by
  cases x <;> simp [tmpsL, tmpOf, List.filterMap_cons]

theorem uses_same : ∀ (l : List (Operand × Nat)) {st s : St} {ds : List D}, st.uses base T l = some (ds, s) → (∀ t ∈ tmpsL (l.map (·.1)), (st.get t).nb = true) → SameB s st
  | [], st, s, ds, h, _ => by
    simp only [St.uses, Option.some.injEq, Prod.mk.injEq] at h
    rw [← h.2]
    exact sameB_refl st
  | (x, ty) :: r, st, s, ds, h, hx => by
    simp only [List.map_cons] at hx
    simp only [St.uses] at h
    split at h
    · cases h
    · rename_i d s1 h1
      split at h
      · cases h
      · rename_i h2
        cases h
        have a := use_same h1 fun t ht => hx t ((tmpsL_in _ _ t).mpr (.inl ht))
        exact (uses_same r h2 fun t ht => a.2.2.2 t (hx t ((tmpsL_in _ _ t).mpr (.inr ht)))).trans a

theorem takes_same : ∀ (l : List (Operand × Nat)) {st s : St} {ds : List D}, st.takes base T l = some (ds, s) → (∀ t ∈ tmpsL (l.map (·.1)), (st.get t).nb = true) → SameB s st
  | [], st, s, ds, h, _ => by
    simp only [St.takes, Option.some.injEq, Prod.mk.injEq] at h
    rw [← h.2]
    exact sameB_refl st
  | (x, ty) :: r, st, s, ds, h, hx => by
    simp only [List.map_cons] at hx
    simp only [St.takes] at h
    split at h
    · cases h
    · rename_i d s1 h1
      split at h
      · cases h
      · rename_i h2
        cases h
        have a := take_same h1 fun t ht => hx t ((tmpsL_in _ _ t).mpr (.inl ht))
        exact (takes_same r h2 fun t ht => a.2.2.2 t (hx t ((tmpsL_in _ _ t).mpr (.inr ht)))).trans a

theorem tm_same {st : St} {t : Nat} {x : D} : ({ st with tm := st.tm.set t x } : St).bx = st.bx ∧ ({ st with tm := st.tm.set t x } : St).dirty = st.dirty ∧ ({ st with tm := st.tm.set t x } : St).up = st.up := ⟨rfl, rfl, rfl⟩

theorem mem_zip_fst {α γ : Type} : ∀ (a : List α) (b : List γ) (x : α), x ∈ (a.zip b).map (·.1) → x ∈ a
  | [], _, x, h => by simp at h
  | _ :: _, [], x, h => by simp at h
  | a :: r, b :: q, x, h => by
    simp only [List.zip_cons_cons, List.map_cons, List.mem_cons] at h ⊢
    rcases h with h | h
    · exact .inl h
    · exact .inr (mem_zip_fst r q x h)

theorem tmpsL_sub {a b : List Operand} (h : ∀ x ∈ a, x ∈ b) {t : Nat} (ht : t ∈ tmpsL a) : t ∈ tmpsL b := by
  simp only [tmpsL, List.mem_filterMap] at ht ⊢
  obtain ⟨x, hx, e⟩ := ht
  exact ⟨x, h x hx, e⟩

/-- Boxes alone. -/
def SameX (s st : St) : Prop := s.bx = st.bx ∧ s.dirty = st.dirty ∧ s.up = st.up

theorem SameB.x {a b : St} (h : SameB a b) : SameX a b := ⟨h.1, h.2.1, h.2.2.1⟩

theorem opV_bx {ds : List Nat} {o : Oper} {st s : St} {d : D} {ps : List Pl} (h : opV C T base ds o st = some (d, ps, s)) (hk : opKind o.op ≤ 2) (hn : ∀ t ∈ opRd o.op, (st.get t).nb = true) (hp : pureCall C T base o st = true) : SameX s st := by
  cases ho : o.op with
  | move x =>
    simp only [opV, ho] at h
    have hx : ∀ t ∈ tmpsL [x], (st.get t).nb = true := fun t ht => hn t (by rw [ho]; exact ht)
    split at h
    · split at h
      · cases h; exact ⟨rfl, rfl, rfl⟩
      · simp only [Option.map_eq_some_iff] at h
        obtain ⟨⟨d', s'⟩, h1, h2⟩ := h
        cases h2
        exact (take_same h1 hx).x
      · cases h; exact ⟨rfl, rfl, rfl⟩
      · cases h
    · simp only [Option.map_eq_some_iff] at h
      obtain ⟨⟨d', s'⟩, h1, h2⟩ := h
      cases h2
      exact (take_same h1 hx).x
  | assign x =>
    simp only [opV, ho] at h
    have hx : ∀ t ∈ tmpsL [x], (st.get t).nb = true := fun t ht => hn t (by rw [ho]; exact ht)
    split at h
    · split at h
      · simp only [Option.map_eq_some_iff] at h
        obtain ⟨⟨d', s'⟩, h1, h2⟩ := h
        cases h2
        exact (take_same h1 hx).x
      · simp only [Option.map_eq_some_iff] at h
        obtain ⟨⟨d', s'⟩, h1, h2⟩ := h
        cases h2
        exact (use_same h1 hx).x
    · simp only [Option.map_eq_some_iff] at h
      obtain ⟨⟨d', s'⟩, h1, h2⟩ := h
      cases h2
      exact (take_same h1 hx).x
  | pick c a b =>
    simp only [opV, ho] at h
    split at h
    · simp only [Option.map_eq_some_iff] at h
      obtain ⟨⟨d', s'⟩, h1, h2⟩ := h
      cases h2
      refine (use_same h1 fun t ht => hn t ?_).x
      rw [ho]
      refine tmpsL_sub (fun x hx => ?_) ht
      simp only [List.mem_singleton] at hx
      subst hx
      split <;> simp
    · cases h
  | box ty x => rw [ho] at hk; simp [opKind] at hk
  | load ty a =>
    simp only [opV, ho] at h
    split at h
    · split at h
      · cases h; exact ⟨rfl, rfl, rfl⟩
      · cases h
    · split at h
      · cases h; exact ⟨rfl, rfl, rfl⟩
      · cases h
    · split at h
      · split at h
        · simp only [Option.map_eq_some_iff] at h
          obtain ⟨e, h1, h2⟩ := h
          cases h2; exact ⟨rfl, rfl, rfl⟩
        · cases h
      · cases h
    · cases h
  | fieldAddr s' x f =>
    simp only [opV, ho] at h
    repeat' split at h
    all_goals first | (cases h; done) | (cases h; exact ⟨rfl, rfl, rfl⟩)
  | field ty x f =>
    simp only [opV, ho] at h
    have hx : ∀ t ∈ tmpsL [x], (st.get t).nb = true := fun t ht => hn t (by rw [ho]; exact ht)
    split at h
    · rename_i hu
      split at h
      · split at h
        · cases h; exact (use_same hu hx).x
        · cases h
      · cases h
    · cases h
  | indexAddr ty x i =>
    simp only [opV, ho] at h
    repeat' split at h
    all_goals first | (cases h; done) | (cases h; exact ⟨rfl, rfl, rfl⟩)
  | index ty x i =>
    simp only [opV, ho] at h
    repeat' split at h
    all_goals first | (cases h; done) | (cases h; exact ⟨rfl, rfl, rfl⟩)
  | slice ty x lo hi mx =>
    simp only [opV, ho] at h
    have hx : ∀ t ∈ tmpsL [x], (st.get t).nb = true := fun t ht => hn t (by rw [ho]; exact (tmpsL_in _ _ _).mpr (.inl ht))
    split at h
    · split at h
      · split at h
        · split at h
          · cases h; exact ⟨rfl, rfl, rfl⟩
          · cases h
        · cases h
      · cases h
    · split at h
      · rename_i hu
        split at h
        · split at h
          · cases h; exact (use_same hu hx).x
          · cases h
        · cases h
      · cases h
    · cases h
  | makeSlice ty len cap => rw [ho] at hk; simp [opKind] at hk
  | buildSlice ty len parts =>
    simp only [opV, ho] at h
    split at h
    · split at h
      · rename_i hu
        split at h
        · simp only [Option.map_eq_some_iff] at h
          obtain ⟨e, h1, h2⟩ := h
          cases h2
          refine (uses_same _ hu fun t ht => hn t ?_).x
          rw [ho]
          simpa [opRd, List.map_map, Function.comp_def] using ht
        · cases h
      · cases h
    · cases h
  | build ty parts =>
    simp only [opV, ho] at h
    split at h
    · split at h
      · rename_i hu
        simp only [Option.map_eq_some_iff] at h
        obtain ⟨e, h1, h2⟩ := h
        cases h2
        refine (takes_same _ hu fun t ht => hn t ?_).x
        rw [ho]
        simpa [opRd, List.map_map, Function.comp_def] using ht
      · cases h
    · split at h
      · rename_i hu
        simp only [Option.map_eq_some_iff] at h
        obtain ⟨e, h1, h2⟩ := h
        cases h2
        refine (takes_same _ hu fun t ht => hn t ?_).x
        rw [ho]
        simpa [opRd, List.map_map, Function.comp_def] using ht
      · cases h
    · cases h
  | extract x i =>
    simp only [opV, ho] at h
    split at h
    · split at h
      · split at h
        · cases h; exact ⟨rfl, rfl, rfl⟩
        · cases h
      · cases h
    · cases h
  | makeFunc fn a b =>
    simp only [opV, ho] at h
    split at h
    · rename_i h1
      split at h
      · rename_i h2
        cases h
        have k1 := uses_same _ h1 fun t ht => hn t (by
          rw [ho]
          refine tmpsL_sub (fun x hx => ?_) ht
          simp only [List.map_map, List.mem_map, Function.comp] at hx
          obtain ⟨y, hy, rfl⟩ := hx
          simp [hy])
        refine (SameB.trans (uses_same _ h2 fun t ht => k1.2.2.2 t (hn t ?_)) k1).x
        rw [ho]
        refine tmpsL_sub (fun x hx => ?_) ht
        simp only [List.map_map, List.mem_map, Function.comp] at hx
        obtain ⟨y, hy, rfl⟩ := hx
        simp [hy]
      · cases h
    · cases h
  | binOp op ty x y yt =>
    simp only [opV, ho, Option.map_eq_some_iff] at h
    obtain ⟨e, h1, h2⟩ := h
    cases h2; exact ⟨rfl, rfl, rfl⟩
  | unOp op ty x =>
    simp only [opV, ho, Option.map_eq_some_iff] at h
    obtain ⟨e, h1, h2⟩ := h
    cases h2; exact ⟨rfl, rfl, rfl⟩
  | convert a b x =>
    simp only [opV, ho, Option.map_eq_some_iff] at h
    obtain ⟨e, h1, h2⟩ := h
    cases h2; exact ⟨rfl, rfl, rfl⟩
  | nilCheck x =>
    simp only [opV, ho] at h
    split at h
    · cases h; exact ⟨rfl, rfl, rfl⟩
    · cases h
  | call c =>
    simp only [opV, ho] at h
    unfold callV at h
    split at h
    · rename_i b hb
      unfold builtinV at h
      split at h
      · split at h
        · cases h; exact ⟨rfl, rfl, rfl⟩
        · cases h; exact ⟨rfl, rfl, rfl⟩
        · cases h
      · simp only [Option.map_eq_some_iff] at h
        obtain ⟨e, h1, h2⟩ := h
        cases h2; exact ⟨rfl, rfl, rfl⟩
      · simp only [Option.map_eq_some_iff] at h
        obtain ⟨e, h1, h2⟩ := h
        cases h2; exact ⟨rfl, rfl, rfl⟩
      · rename_i x y t u ha hty
        split at h
        · split at h
          · rename_i hm ht
            split at h
            · cases h
              refine (take_same ht fun t ht => hn t ?_).x
              rw [ho]
              simp only [opRd, hb, ha, List.nil_append]
              exact (tmpsL_in _ _ _).mpr (.inl ht)
            · cases h
          · cases h
        · cases h
      · cases h
    · rename_i f hf
      split at h
      · rename_i g first cap hs
        split at h
        · rename_i l s1 hu
          split at h
          · have hu' : SameB s1 st := uses_same _ hu fun t ht => hn t (by
              rw [ho]
              simp only [opRd, hf, List.mem_append]
              exact .inr (tmpsL_sub (fun x hx => mem_zip_fst _ _ _ hx) ht))
            have hp' := hp
            unfold pureCall at hp'
            simp only [ho, hf, hs, hu, Bool.and_eq_true] at hp'
            obtain ⟨p1, p2⟩ := hp'
            unfold callS at h
            rw [p1] at h
            simp only at h
            split at h
            · rename_i hc
              rw [hc] at p2
              simp only at p2
              rw [p2] at h
              simp only [Option.some.injEq, Prod.mk.injEq] at h
              rw [← h.2.2]
              exact hu'.x
            · rename_i hc
              rw [hc] at p2
              cases p2
          · cases h
        · cases h
      · cases h
    · cases h
  | _ => simp only [opV, ho] at h; cases h

theorem set_x (st : St) (t : Nat) (d : D) : SameX (st.set t d) st := by
  unfold St.set
  exact ⟨forget_bx _ _, forget_dirty _ _, forget_up _ _⟩

theorem opF_bx {ds : List Nat} {al : Nat} {o : Oper} {st s : St} (h : opF C T base ds al o st = some s) (hk : opKind o.op ≤ 2) (hn : ∀ t ∈ opRd o.op, (st.get t).nb = true) (hp : pureCall C T base o st = true) : SameX s st := by
  unfold opF at h
  split at h
  · rename_i ho; rw [ho] at hk; simp [opKind] at hk
  · rename_i ho; rw [ho] at hk; simp [opKind] at hk
  · split at h
    · rename_i d ps s1 h1
      have a := opV_bx h1 hk hn hp
      split at h
      · split at h
        · cases h
        · cases h
          have b := set_x s1 (by assumption) d
          exact ⟨b.1.trans a.1, b.2.1.trans a.2.1, b.2.2.trans a.2.2⟩
      · cases h; exact a
    · cases h
end

end Go.PI
end
section
/- Regions of typed values, when the types are forgotten. -/
namespace Go.PI
open Go

variable {β : Type} {sig : Sigs} {C : TyC sig} {C' : CallT} {T : Nat → TV} {inst : Nat → Nat} {base : Nat}

theorem opK_er (hC : Matches C inst C') {st : VS} {o : Oper} {ds : List Nat} {al : Nat} {K : VS → Option β} {r : β} (h : opK std C T inst base ds al o st K = some r) :
    ∃ s, opF C' (erTs T) base ds al o st.er = some (VS.er s) ∧ K s = some r := by
  have hz : ∀ ty, (erTs T ty).size = (T ty).size := fun ty => er_size _
  unfold opK at h
  unfold opF
  split at h
  · rename_i ty a x ho
    simp only [ho, ← er_see]
    split at h
    · rename_i loc off hs
      simp only [hs, V.er]
      split at h
      · rename_i d s h1
        split at h
        · rename_i hc
          obtain ⟨s2, h2, h⟩ := optK_some h
          refine ⟨_, ?_, h⟩
          have := store_er h2
          simp only [vtake_er h1, er_cells_len, hz]
          rw [if_pos hc, ← er_cells, this]
          simp only [Option.map_some, er_setO, V.er]
        · cases h
      · cases h
    · rename_i p n i off hs
      simp only [hs, V.er]
      split at h
      · rename_i d s h1
        split at h
        · rename_i t l low hl hlow
          split at h
          · rename_i hc
            split at h
            · rename_i e he
              obtain ⟨h2, h⟩ := when_some h
              simp only [std, decide_eq_true_eq] at h2
              refine ⟨_, ?_, h⟩
              have hlow' := lowL_map hlow
              rw [er_cells] at hlow'
              have e1 := ofVal_ok he
              have e2 : cellsD t e = (cellsD t (l.getD i t.dflt)).take off ++ d.er.cells ++ (cellsD t (l.getD i t.dflt)).drop (off + (T ty).size) := by
                rw [← vals_er, ← e1]
                simp only [List.map_append, List.map_take, List.map_drop, vals_er, er_cells, std]
              simp only [vuse_er h1, ← er_at, hl, V.er, er_cells_len, hz, List.length_map]
              rw [if_pos ⟨hc.1, hc.2.1, hc.2.2.1, hc.2.2.2, h2⟩, getD_cells h2, hlow', ← e2]
              simp only [er_setO, V.er]
              congr 2
              have := er_put base s p (.sl 2 t (std.setN l i e))
              simp only [V.er, std, List.map_set] at this
              rw [← this]
              rfl
            · cases h
          · cases h
        · cases h
      · cases h
    · cases h
  · rename_i ty ho
    simp only [ho]
    split at h
    · rename_i x z h1 h2
      refine ⟨_, ?_, h⟩
      have e1 : (erTs T ty).zero = some (x.er :: z.map V.er) := by
        have := er_zero (T ty)
        rw [h1] at this
        exact this.symm
      have e2 : st.er.bx[al]? = some [] := by simp [VS.er, h2]
      simp only [e1, e2]
      simp only [er_setO, V.er]
      congr 2
      simp only [VS.er, List.map_set, List.map_cons]
    · cases h
  · rename_i h1 h2
    obtain ⟨d, ps, s, e, h⟩ := opV_er hC h
    split
    · rename_i ho; exact (h1 _ _ _ ho).elim
    · rename_i ho; exact (h2 _ ho).elim
    · simp only [e]
      split at h
      · rename_i t ht
        split at h
        · cases h
        · rename_i hp
          refine ⟨_, ?_, h⟩
          simp only [ht, if_neg hp, ← er_set]
          rfl
      · rename_i ht
        refine ⟨_, ?_, h⟩
        simp only [ht]

theorem wantK_er {ops : List Oper} {o : Oper} {st : VS} {K : Bool → VS → Option β} {r : β} (h : wantK ops o st K = some r) : ∃ w, wantedD ops o st.er = some w ∧ K w st = some r := by
  unfold wantK at h
  unfold wantedD
  split at h
  · rename_i hg
    exact ⟨true, by simp only [hg], h⟩
  · rename_i j want hg
    simp only [hg]
    split at h
    · rename_i t ht
      simp only [ht, ← er_get]
      split at h
      · rename_i b hb
        have := lit_some hb h
        exact ⟨_, by simp only [hb, V.er], this⟩
      · rename_i hb
        exact ⟨_, by simp only [hb, V.er, erL], h⟩
      · cases h
    · rename_i ht
      exact ⟨false, by simp only [ht], h⟩

theorem opsK_er (hC : Matches C inst C') {ops : List Oper} {tk : List Nat} {al : Nat} {K : VS → Option β} {r : β} : ∀ (l : List Nat) {st : VS}, opsK std C T inst base ops tk al l st K = some r →
    ∃ s, opsF C' (erTs T) base ops tk al l st.er = some (VS.er s) ∧ K s = some r
  | [], st, h => ⟨st, rfl, h⟩
  | i :: l, st, h => by
    simp only [opsK] at h
    simp only [opsF]
    split at h
    · cases h
    · rename_i o ho
      obtain ⟨w, hw, h⟩ := wantK_er h
      simp only [ho, hw]
      cases w with
      | true =>
        obtain ⟨s, h1, h⟩ := opK_er hC h
        simp only [h1]
        exact opsK_er hC l h
      | false =>
        obtain ⟨s, h1, h2⟩ := opsK_er hC l h
        refine ⟨s, ?_, h2⟩
        rw [er_setO] at h1
        simpa only [V.er, erL] using h1

theorem er_nbl (d : V) : d.er.nbl = d.nbl := by cases d <;> rfl

theorem er_nb (d : V) : d.er.nb = d.nb := by
  cases d with
  | agg l =>
    simp only [V.er, erL_map, D.nb, V.nb, List.all_map]
    congr 1
    funext x
    exact er_nbl x
  | _ => rfl

theorem er_outOk (ob : Option (List Nat)) (o : Oper) (st : VS) (h : outOkV T ob o st = true) : outOk (erTs T) ob o st.er = true := by
  unfold outOkV at h
  unfold outOk
  cases ob with
  | none => rfl
  | some l =>
    simp only at h ⊢
    cases ho : o.op with
    | load ty a =>
      simp only [ho] at h ⊢
      rw [← er_see]
      cases hs : st.see T ty a <;> simp only [hs] at h <;> first | rfl | exact h
    | store ty a x =>
      simp only [ho] at h ⊢
      rw [← er_see]
      cases hs : st.see T 0 a <;> simp only [hs] at h <;> first | rfl | exact h
    | _ => rfl

theorem pure_er (hC : Matches C inst C') {st : VS} {o : Oper} {ds : List Nat} {al : Nat} {K : VS → Option β} {r : β} (h : opK std C T inst base ds al o st K = some r) (hp : pureV sig T inst o st = true) :
    pureCall C' (erTs T) base o st.er = true := by
  unfold pureCall
  cases ho : o.op with
  | call c =>
    simp only
    cases hc : c.callee with
    | value f =>
      have h' : ∃ K', callVK std C T inst base c st K' = some r := by
        simp only [opK, ho, opVK] at h
        exact ⟨_, h⟩
      clear h
      obtain ⟨K', h⟩ := h'
      simp only [callVK, hc] at h
      unfold pureV at hp
      simp only [ho, hc] at hp
      simp only [← er_see]
      split at h
      · rename_i g first cap hs
        simp only [hs] at hp
        simp only [hs, V.er, erL_map]
        split at h
        · rename_i l s1 hu
          split at h
          · simp only [uses_er _ hu]
            rw [← List.map_append, ← List.map_append]
            unfold callK at h
            simp only at h
            split at h
            · rename_i hg
              obtain ⟨hg, hna⟩ := hg
              split at h
              · rename_i _ hlow
                split at h
                · rename_i x hx
                  obtain ⟨y, hy, h⟩ := optK_some h
                  split at h
                  · rename_i rv hrv
                    split at h
                    · rename_i hrl
                      have e := ofVal_ok hx
                      have ea : (first ++ l ++ cap).map V.er = cellsD (sig (inst g)).inT x := by rw [e, vals_er]
                      have er_ : cellsD (sig (inst g)).outT y = [rv.er] := by rw [← vals_er, hrv]; rfl
                      have e1 : (sig (inst g)).ds x = (first ++ l ++ cap).map V.er := by
                        unfold Sig.ds
                        rw [← ea, hna, ← List.length_map (f := V.er) (as := first ++ l ++ cap), List.take_length]
                      have e2 : (sig (inst g)).bxs x = [] := by
                        unfold Sig.bxs
                        rw [← ea, hna, ← List.length_map (f := V.er) (as := first ++ l ++ cap), List.drop_length]
                        rfl
                      have em := hC.says g x y hg hy (by rw [e1, e2, ea]; simp)
                      have e3 : (sig (inst g)).res y = rv.er := by unfold Sig.res; rw [er_]; rfl
                      rw [e1, e2, e3] at em
                      simp only [lowL_map hlow, em, low_er 0 rv true hrl, Bool.and_self]
                    · cases h
                  · cases h
                · cases h
              · rename_i hpu _
                rw [hp] at hpu
                cases hpu
              · cases h
            · cases h
          · cases h
        · cases h
      · cases h
    | _ => rfl
  | _ => rfl

theorem opsQK_er (hC : Matches C inst C') {ops : List Oper} {tk : List Nat} {al : Nat} {ob : Option (List Nat)} {K : VS → Option β} {r : β} : ∀ (l : List Nat) {st : VS}, opsQK std C T inst base ops tk al ob l st K = some r →
    ∃ s, opsQ C' (erTs T) base ops tk al ob true l st.er = some (VS.er s) ∧ K s = some r
  | [], st, h => ⟨st, rfl, h⟩
  | i :: l, st, h => by
    simp only [opsQK] at h
    simp only [opsQ, stepQ]
    split at h
    · cases h
    · rename_i o ho
      split at h
      · rename_i hc
        have hc' : (footR ops o).all (fun t => (st.er.get t).nb) = true ∧ outOk (erTs T) ob o st.er = true := by
          refine ⟨?_, er_outOk ob o st hc.2⟩
          have := hc.1
          simp only [List.all_eq_true] at this ⊢
          intro t ht
          rw [← er_get, er_nb]
          exact this t ht
        simp only [ho]
        rw [if_pos hc']
        obtain ⟨w, hw, h⟩ := wantK_er h
        simp only [hw]
        cases w with
        | true =>
          simp only at h ⊢
          split at h
          · rename_i hp
            obtain ⟨s, h1, h2⟩ := opK_er hC h
            have hpu := pure_er hC h hp
            rw [if_pos (fun _ => hpu)]
            simp only [h1]
            split at h2
            · rename_i hln
              have hb : (VS.er s).ln = [] := hln
              have hbx : opKind o.op ≤ 2 → (VS.er s).bx = st.er.bx ∧ (VS.er s).dirty = st.er.dirty ∧ (VS.er s).up = st.er.up := fun hk =>
                opF_bx h1 hk (fun t ht => by
                  have := hc'.1
                  simp only [List.all_eq_true] at this
                  exact this t (List.mem_append_right _ ht)) hpu
              rw [if_pos ⟨hb, hbx⟩]
              exact opsQK_er hC l h2
            · cases h2
          · cases h
        | false =>
          obtain ⟨s, h1, h2⟩ := opsQK_er hC l h
          refine ⟨s, ?_, h2⟩
          rw [er_setO] at h1
          simpa only [V.er, erL] using h1
      · cases h

theorem er_chill (st : VS) (p : Pl) : (st.chill base p).er = st.er.chill base p := by
  unfold VS.chill St.chill
  rw [← er_down, ← er_at]
  cases h : (st.down base p).at p with
  | sl f t l =>
    rcases f with _ | _ | f
    · rfl
    · simp only [V.er, er_put]
    · rfl
  | _ => rfl

theorem er_chills : ∀ (ps : List Pl) (st : VS), (st.chills base ps).er = st.er.chills base ps
  | [], st => rfl
  | p :: r, st => by simp only [VS.chills, St.chills, er_chills r, er_chill]

theorem er_cools : ∀ (ps : List Pl) (st : VS), (st.cools base ps).er = st.er.cools base ps
  | [], st => rfl
  | p :: r, st => by simp only [VS.cools, St.cools, er_cools r, er_down]

theorem er_pls (st : VS) (x : Nat × List Nat) : st.pls x = st.er.pls x := by
  unfold VS.pls St.pls
  rw [← er_get]
  cases h : st.get x.1 with
  | ptr loc off =>
    simp only [V.er, er_box_len]
    cases x.2 <;> rfl
  | agg l =>
    simp only [V.er, erL_map, List.length_map]
    cases x.2 <;> rfl
  | _ => rfl

theorem er_frost : ∀ (l : List (Nat × List Nat)) (st : VS), (st.frost base l).er = st.er.frost base l
  | [], st => rfl
  | x :: r, st => by
    simp only [VS.frost, St.frost]
    rw [er_frost r]
    congr 1
    split
    · rw [er_chills, er_pls]
    · rw [er_cools, er_pls]

theorem er_clearSlots : ∀ (l : List Nat) (tm : List V), (clearSlotsV l tm).map V.er = clearSlots l (tm.map V.er)
  | [], tm => rfl
  | t :: r, tm => by
    simp only [clearSlotsV, clearSlots, er_clearSlots r, List.map_set, V.er]

theorem er_regionEnd (keep : List Nat) (ops : List Oper) (st : VS) : (regionEndV keep ops st).er = regionEnd keep ops st.er := by
  unfold regionEndV regionEnd
  simp only [VS.er, er_clearSlots, er_clearAll]

theorem er_outs (st : VS) (l : List Nat) : outsOfV st l = outsOf st.er l := by
  unfold outsOfV outsOf
  cases l with
  | nil => rfl
  | cons a l =>
    simp only
    congr 1
    congr 1
    funext t
    rw [← er_get]
    cases st.get t <;> rfl

theorem regionK_er (p : VP) {id : Nat} (hM : Matches C (p.inst id) C') {ops : Array Oper} {draw : Bool} {st : VS} {K : VS → Option β} {r : β} (h : regionK std C T p base id ops draw st K = some r) :
    ∃ s, regionF C' (erTs T) base p.keep (p.cold id) (p.take id) true (p.outs id) ops draw st.er = some (VS.er s) ∧ K s = some r ∧ (draw = true → openB true (!(p.outs id).isEmpty) (p.take id) ops.toList = true) := by
  unfold regionK at h
  unfold regionF
  have e0 : ({ st.er.frost base (p.cold id) with bx := (st.er.frost base (p.cold id)).bx ++ zeroBoxes ops.toList, ln := [] } : St) =
      VS.er { st.frost base (p.cold id) with bx := (st.frost base (p.cold id)).bx ++ (zeroBoxes ops.toList).map (fun _ => []), ln := [] } := by
    rw [← er_frost]
    simp only [VS.er, St.mk.injEq, true_and, and_true, List.map_append, List.append_cancel_left_eq]
    simp [zeroBoxes]
  have el : st.er.bx.length = st.bx.length := by simp [VS.er]
  cases draw with
  | false =>
    simp only at h ⊢
    obtain ⟨s, h1, h2⟩ := opsK_er hM _ h
    refine ⟨_, ?_, h2, by simp⟩
    rw [e0, el, h1, Option.map_some, er_regionEnd]
  | true =>
    simp only at h ⊢
    split at h
    · rename_i ho
      obtain ⟨s, h1, h2⟩ := opsQK_er hM _ h
      refine ⟨_, ?_, h2, fun _ => ho⟩
      rw [e0, el, ← er_outs, h1, Option.map_some, er_regionEnd]
    · cases h

end Go.PI
end
