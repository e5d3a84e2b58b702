/- The table of types against the program's; loads, addresses, parts. -/
import Derived.Test.YtoaadbakbfphgaaIh
namespace Go.PI
open Go

/-- A zero cell. -/
def Z : D → Value → Prop
  | .int k n, v => v = .int k n
  | .bool b, v => v = .bool b
  | .str s, v => v = .string s
  | .sl f _ l, v => (f = 0 ∨ f = 2) ∧ l = [] ∧ v = .slice none 0 0
  | .nilp, v => v = .pointer none
  | .nilf, v => v = .nilFunc
  | .nili, v => v = .nilIface
  | _, _ => False

def Zs (z : List D) (cs : Array Value) : Prop := cs.size = z.length ∧ ∀ j (h : j < z.length) (h' : j < cs.size), Z z[j] cs[j]

theorem z_leaf {G : Gh} {w : World} {tmps : Array Value} {κ : Key} {d : D} {v : Value} (h : Z d v) : Leaf G w tmps κ d v ∧ d.plain ∧ (∀ n, d.low n = true) ∧ v.oneCell' = true := by
  cases d with
  | int k n => obtain rfl := h; exact ⟨.int _ _, trivial, fun _ => rfl, rfl⟩
  | bool b => obtain rfl := h; exact ⟨.bool _, trivial, fun _ => rfl, rfl⟩
  | str s => obtain rfl := h; exact ⟨.str _, trivial, fun _ => rfl, rfl⟩
  | sl f n l =>
    obtain ⟨h, rfl, rfl⟩ := h
    rcases h with rfl | rfl
    · exact ⟨.nils _, trivial, fun _ => rfl, rfl⟩
    · exact ⟨.inl ⟨rfl, rfl⟩, trivial, fun _ => rfl, rfl⟩
  | nilp => obtain rfl := h; exact ⟨.nilp, trivial, fun _ => rfl, rfl⟩
  | nilf => obtain rfl := h; exact ⟨.nilf, trivial, fun _ => rfl, rfl⟩
  | nili => obtain rfl := h; exact ⟨.nili, trivial, fun _ => rfl, rfl⟩
  | _ => exact h.elim

/-- What the table says of a type is so. -/
def TDesc (P : Program) (ty : Nat) : TI → Prop
  | .other => True
  | .int k => P.underlying ty = some (.int k)
  | .bool => P.underlying ty = some .bool
  | .str => P.underlying ty = some .string
  | .sl e z => P.underlying ty = some (.slice e.ty) ∧ ∃ i zv, P.info? e.ty = some i ∧ i.size = e.cells ∧ i.bytes = e.bytes ∧ i.zero = some zv ∧ Zs z zv.cells ∧ z.length = e.cells ∧ ∀ d ∈ z, ∀ n l, d ≠ .sl 2 n l
  | .st fs _ => ∃ fields, P.underlying ty = some (.struct fields) ∧ (fields.size = fs.length ∧ (∀ fl ∈ fields.toList, fl.name ≠ "_") ∧ P.stoodInHeld ty = false) ∧ ∀ (k : Nat) (f : Nat × Nat × Nat), fs[k]? = some f → ∃ (fl : Field) (i : TypeInfo), fields[k]? = some fl ∧ fl.offset = f.1 ∧ fl.type = f.2.2 ∧ P.info? fl.type = some i ∧ i.size = f.2.1
  | .arr len n ety _ => P.underlying ty = some (.array len ety) ∧ ∃ i, P.info? ety = some i ∧ i.size = n
  | .ptr => ∃ e, P.underlying ty = some (.pointer e)
  | .fn => ∃ a b c, P.underlying ty = some (.func a b c)
  | .ifc => ∃ a, P.underlying ty = some (.interface a)

structure TOk (P : Program) (T : Nat → TI) : Prop where
  desc : ∀ ty, TDesc P ty (T ty)
  info : ∀ ty, T ty ≠ .other → ∃ i zv z, P.info? ty = some i ∧ i.size = (T ty).size ∧ i.zero = some zv ∧ (T ty).zero = some z ∧ Zs z zv.cells

variable {P : Program} {base : Nat} {G : Gh} {w : World} {st : St} {tmps : Array Value} {T : Nat → TI}

theorem TOk.sizeOf (t : TOk P T) {ty : Nat} (h : T ty ≠ .other) (w : World) : (sizeOf ty).run P w = .ok (T ty).size w := by
  obtain ⟨i, zv, z, h1, h2, _⟩ := t.info ty h
  simp [Go.sizeOf, typeInfo, h1, h2]

theorem TOk.isAgg (t : TOk P T) {ty : Nat} (h : T ty ≠ .other) (w : World) : (isAgg ty).run P w = .ok (T ty).agg w := by
  have hd := t.desc ty
  generalize T ty = ti at *
  cases ti with
  | other => exact absurd rfl h
  | int k => simp only [TDesc] at hd; simp [Go.isAgg, run_underlying hd, TI.agg]
  | bool => simp only [TDesc] at hd; simp [Go.isAgg, run_underlying hd, TI.agg]
  | str => simp only [TDesc] at hd; simp [Go.isAgg, run_underlying hd, TI.agg]
  | sl e z => simp [Go.isAgg, run_underlying hd.1, TI.agg]
  | st fs z => obtain ⟨f, hd, _⟩ := hd; simp [Go.isAgg, run_underlying hd, TI.agg]
  | arr a b c z => simp [Go.isAgg, run_underlying hd.1, TI.agg]
  | ptr => obtain ⟨e, hd⟩ := hd; simp [Go.isAgg, run_underlying hd, TI.agg]
  | fn => obtain ⟨_, _, _, hd⟩ := hd; simp [Go.isAgg, run_underlying hd, TI.agg]
  | ifc => obtain ⟨e, hd⟩ := hd; simp [Go.isAgg, run_underlying hd, TI.agg]

theorem size_one {ti : TI} (h : ti.agg = false) (ho : ti ≠ .other) : ti.size = 1 := by
  cases ti <;> first | rfl | (simp [TI.agg] at h; done) | exact absurd rfl ho

theorem add_at (b o n : Nat) : (at_ b o).add n = at_ b (o + n) := by
  unfold Addr.add at_
  split <;> simp_all

/-- A variable of a type is read: its cells, as they are. -/
theorem run_loadVar (t : TOk P T) {ty : Nat} (h : T ty ≠ .other) (w : World) (b o : Nat) (f : Nat → Value) (hc : ∀ j, j < (T ty).size → w.cell? (at_ b (o + j)) = some (f j)) :
    (loadVar ty (at_ b o)).run P w = .ok (if (T ty).agg then .agg ((List.range (T ty).size).map f).toArray else f 0) w := by
  have hl := run_loadCells (P := P) w (at_ b o) (T ty).size f (fun j hj => by rw [add_at]; exact hc j hj)
  cases ha : (T ty).agg with
  | true => simp [loadVar, t.isAgg h, t.sizeOf h, ha, hl]
  | false =>
    have h1 := size_one ha h
    have := hc 0 (by omega)
    simp only [Nat.add_zero] at this
    simp [loadVar, t.isAgg h, ha, this]

theorem st_box (st : St) {loc : Nat} (h : loc < st.bx.length) : st.box loc = st.bx[loc] := getD_lt h

/-- A box's cells. -/
theorem box_cells (r : Rel G w st tmps) {loc b : Nat} (hb : G.bl[loc]? = some (some b)) : ∃ cs ty, w.heap[b]? = some (.cells cs ty (0, 0)) ∧ cs.size = (st.box loc).length ∧
    (∀ j, w.cell? (at_ b j) = cs[j]?) ∧ ∀ j (h : j < (st.box loc).length) (h' : j < cs.size), (st.box loc)[j].plain ∧ Leaf G w tmps (.b loc j) (st.box loc)[j] cs[j] ∧ placeV G w tmps (.b loc j) = some cs[j] := by
  have hl : loc < st.bx.length := by
    rw [← r.bx.len]; exact (List.getElem?_eq_some_iff.mp hb).1
  rw [st_box st hl]
  obtain ⟨h1, cs, ty, h2, h3, h4⟩ := r.bx.box loc b _ hb (List.getElem?_eq_getElem hl)
  refine ⟨cs, ty, h2, h3, fun j => by simp [World.cell?, at_, h2], fun j hj hj' => ?_⟩
  obtain ⟨h5, h6⟩ := h4 j hj hj'
  exact ⟨h5, h6.plain_tmps h5, by simp [placeV, hb, World.cell?, at_, h2, hj']⟩

theorem other_of_size {ti : TI} (h : 0 < ti.size) : ti ≠ .other := by
  rintro rfl; simp [TI.size, TI.zero] at h

/-- Leaves that were loaded, as a value. -/
theorem slot_mk {agg : Bool} {l : List D} {vs : List Value} (hl : l.length = vs.length) (h1 : agg = false → l.length = 1) (h : ∀ j (h : j < l.length) (h' : j < vs.length), Leaf G w tmps (.r 0 j) l[j] vs[j]) :
    Slot G w tmps (fun i j => .r i j) (mkD agg l) (if agg then .agg vs.toArray else vs.getD 0 undef) := by
  cases agg with
  | true =>
    exact ⟨vs.toArray, rfl, by simp [hl], fun j hj hj' => by simpa using h j hj (by simpa using hj')⟩
  | false =>
    have h1 := h1 rfl
    match l, vs, h1, hl with
    | [d], [v], _, _ =>
      have := h 0 (by simp) (by simp)
      simp only [List.getElem_cons_zero] at this
      have ha : ∀ l, d ≠ .agg l := by rintro l rfl; exact this
      have ht : ∀ l, d ≠ .tup l := by rintro l rfl; exact this
      simp only [mkD, Bool.false_eq_true, if_false, List.getD_cons_zero]
      exact (slot_of ht).mpr ((val_of ha).mpr this)

theorem bors_mk {agg : Bool} {l : List D} {ps : List Pl} (h1 : agg = false → l.length = 1) (hna : ∀ x ∈ l, (∀ q, x ≠ .agg q) ∧ ∀ q, x ≠ .tup q) (h : ∀ x ∈ l, ∀ p, x.lbors p → p ∈ ps) : ∀ p, (mkD agg l).sbors p → p ∈ ps := by
  intro p hb
  cases agg with
  | true => obtain ⟨x, hx, hb⟩ := hb; exact h x hx p hb
  | false =>
    have h1 := h1 rfl
    match l, h1 with
    | [d], _ =>
      simp only [mkD, Bool.false_eq_true, if_false, List.getD_cons_zero] at hb
      obtain ⟨a, b⟩ := hna d (by simp)
      exact h d (by simp) p ((bors_of a).mp ((sbors_of b).mp hb))

theorem range_map_get (n : Nat) (f : Nat → Value) : ((List.range n).map f).getD 0 undef = if 0 < n then f 0 else undef := by
  cases n with
  | zero => rfl
  | succ n => simp [List.range_succ_eq_map]

theorem viewLeaf_ok {κ κ' : Key} {d : D} {v : Value} {tm : Array Value} (hp : d.plain) (h : Leaf G w tm κ' d v) : Leaf G w tmps κ (viewLeaf d) v ∧ (∀ q, ¬ (viewLeaf d).lbors q) ∧ (∀ q, viewLeaf d ≠ .agg q) ∧ ∀ q, viewLeaf d ≠ .tup q := by
  cases d with
  | sl f n l =>
    match f, h with
    | 0, h => exact ⟨h, fun q e => e, by simp [viewLeaf], by simp [viewLeaf]⟩
    | 1, h => exact ⟨Tip.ro h, fun q e => e, by simp [viewLeaf], by simp [viewLeaf]⟩
    | _ + 2, h => exact ⟨trivial, fun q e => e, by simp [viewLeaf], by simp [viewLeaf]⟩
  | bor q => exact hp.elim
  | ea _ _ _ _ => exact hp.elim
  | rp _ => exact hp.elim
  | agg _ => exact h.elim
  | tup _ => exact h.elim
  | undef => exact ⟨trivial, fun q e => e, by simp [viewLeaf], by simp [viewLeaf]⟩
  | _ => exact ⟨h, fun q e => e, by simp [viewLeaf], by simp [viewLeaf]⟩

theorem load_ok {C : CallT} {ds : List Nat} {o : Oper} {x : Operand} {ty : Nat} {d : D} {ps : List Pl} {s : St} (tk : TOk P T) (r : Rel G w st tmps) (ho : o.op = .load ty x) (h : opV C T base ds o st = some (d, ps, s)) : Good P base G w st tmps o d ps s := by
  have fin : ∀ (b off : Nat) (f : Nat → Value), 0 < (T ty).size → ev tmps x = .pointer (some (at_ b off)) → (∀ j, j < (T ty).size → w.cell? (at_ b (off + j)) = some (f j)) →
      (execOp (ev tmps) o).run P w = .ok (.value (if (T ty).agg then .agg ((List.range (T ty).size).map f).toArray else ((List.range (T ty).size).map f).getD 0 undef)) w := by
    intro b off f hn hx hc
    have := run_loadVar tk (other_of_size hn) w b off f hc
    simp only [execOp, ho, hx, Instr.loadAt, Instr.sureAddr, Sem.run_bind, Sem.run_pure, Result.andThen_ok, this]
    rw [range_map_get, if_pos hn]
  unfold opV at h
  simp only [ho] at h
  split at h
  · rename_i loc off hs
    obtain ⟨b, hb, hx⟩ := see_ptr r hs
    split at h
    · rename_i hc
      obtain ⟨hc, hn⟩ := hc
      simp only [Option.some.injEq, Prod.mk.injEq] at h
      obtain ⟨rfl, rfl, rfl⟩ := h
      obtain ⟨cs, cty, h1, h2, h3, h4⟩ := box_cells r hb
      have hlen : (((st.box loc).drop off).take (T ty).size).length = (T ty).size := by simp; omega
      have hget : ∀ j (hj : j < (((st.box loc).drop off).take (T ty).size).length), (((st.box loc).drop off).take (T ty).size)[j] = (st.box loc)[off + j]'(by omega) := fun j hj => by simp
      have leaf : ∀ j (hj : j < (T ty).size), Leaf G w tmps (.r 0 j) (borLeaf (.b loc (off + j)) ((st.box loc)[off + j]'(by omega))).1 (cs[off + j]'(by omega)) ∧
          ∀ q, (borLeaf (.b loc (off + j)) ((st.box loc)[off + j]'(by omega))).1.lbors q → q ∈ (borLeaf (.b loc (off + j)) ((st.box loc)[off + j]'(by omega))).2 := fun j hj => by
        obtain ⟨_, h6, h7⟩ := h4 (off + j) (by omega) (by omega)
        exact borLeaf_ok h6 fun _ => h7
      cases hview : ds.contains viewM with
      | true =>
        have hbl : ((((st.box loc).drop off).take (T ty).size).map viewLeaf).length = (T ty).size := by rw [List.length_map, hlen]
        have h1' : (T ty).agg = false → ((((st.box loc).drop off).take (T ty).size).map viewLeaf).length = 1 := fun e => by
          rw [hbl]; exact size_one e (other_of_size hn)
        have vl : ∀ j (hj : j < (T ty).size), ((((st.box loc).drop off).take (T ty).size).map viewLeaf)[j]'(by rw [hbl]; exact hj) = viewLeaf ((st.box loc)[off + j]'(by omega)) := fun j hj => by simp
        have lf : ∀ j (hj : j < (T ty).size), _ := fun j hj => viewLeaf_ok (tmps := tmps) (κ := .r 0 j) (h4 (off + j) (by omega) (by omega)).1 (h4 (off + j) (by omega) (by omega)).2.1
        refine ⟨⟨_, w, G, fin b off (fun j => cs.getD (off + j) undef) hn hx (fun j hj => ?_), r, ?_, step_refl _ _, unt_refl _ _ _ _⟩, ?_, .refl _ _⟩
        · rw [h3]; simp [Array.getD, show off + j < cs.size by omega]
        · refine slot_mk (by simp only [ldLeaves]; rw [hbl]; simp) h1' fun j hj hj' => ?_
          have hj2 : j < (T ty).size := by simp only [ldLeaves] at hj; rwa [hbl] at hj
          simp only [ldLeaves]
          rw [vl j hj2]
          simp only [List.getElem_map, List.getElem_range, Array.getD, dif_pos (show off + j < cs.size by omega)]
          exact (lf j hj2).1
        · refine bors_mk h1' (fun x hx => ?_) (fun x hx p hb => ?_)
          · simp only [ldLeaves] at hx
            obtain ⟨j, hj, rfl⟩ := List.mem_iff_getElem.mp hx
            have hj2 : j < (T ty).size := by rwa [hbl] at hj
            rw [vl j hj2]
            exact ⟨(lf j hj2).2.2.1, (lf j hj2).2.2.2⟩
          · simp only [ldLeaves] at hx
            obtain ⟨j, hj, rfl⟩ := List.mem_iff_getElem.mp hx
            have hj2 : j < (T ty).size := by rwa [hbl] at hj
            rw [vl j hj2] at hb
            exact ((lf j hj2).2.1 p hb).elim
      | false =>
      simp only [ldLeaves]
      have h1' : (T ty).agg = false → (borLeaves (Pl.b loc) off (((st.box loc).drop off).take (T ty).size)).1.length = 1 := fun e => by
        rw [borLeaves_length, hlen]; exact size_one e (other_of_size hn)
      have hbl := borLeaves_length (Pl.b loc) (((st.box loc).drop off).take (T ty).size) off
      refine ⟨⟨_, w, G, fin b off (fun j => cs.getD (off + j) undef) hn hx (fun j hj => ?_), r, ?_, step_refl _ _, unt_refl _ _ _ _⟩, ?_, .refl _ _⟩
      · rw [h3]; simp [Array.getD, show off + j < cs.size by omega]
      · refine slot_mk (by rw [hbl, hlen]; simp) h1' fun j hj hj' => ?_
        have hj2 : j < (T ty).size := by rw [hbl, hlen] at hj; exact hj
        obtain ⟨e, _⟩ := borLeaves_get (Pl.b loc) (((st.box loc).drop off).take (T ty).size) off j hj
        rw [e, hget]
        simp only [List.getElem_map, List.getElem_range, Array.getD, dif_pos (show off + j < cs.size by omega)]
        exact (leaf j hj2).1
      · have key : ∀ x ∈ (borLeaves (Pl.b loc) off (((st.box loc).drop off).take (T ty).size)).1, ∃ j, ∃ (hj : j < (T ty).size), x = (borLeaf (.b loc (off + j)) ((st.box loc)[off + j]'(by omega))).1 ∧
            ∀ q ∈ (borLeaf (.b loc (off + j)) ((st.box loc)[off + j]'(by omega))).2, q ∈ (borLeaves (Pl.b loc) off (((st.box loc).drop off).take (T ty).size)).2 := by
          intro x hx
          obtain ⟨j, hj, rfl⟩ := List.mem_iff_getElem.mp hx
          have hj2 : j < (T ty).size := by rw [hbl, hlen] at hj; exact hj
          obtain ⟨e, e2⟩ := borLeaves_get (Pl.b loc) (((st.box loc).drop off).take (T ty).size) off j hj
          rw [hget] at e e2
          exact ⟨j, hj2, e, e2⟩
        refine bors_mk h1' (fun x hx => ?_) (fun x hx p hb => ?_)
        · obtain ⟨j, hj, rfl, _⟩ := key x hx
          have := (leaf j hj).1
          exact ⟨fun q e => by rw [e] at this; exact this, fun q e => by rw [e] at this; exact this⟩
        · obtain ⟨j, hj, rfl, e2⟩ := key x hx
          exact e2 p ((leaf j hj).2 p hb)
    · cases h
  · rename_i l hs
    obtain ⟨b, off, hx, vs, hv⟩ := see_rp r hs
    split at h
    · rename_i hc
      obtain ⟨hc, hn⟩ := hc
      simp only [Option.some.injEq, Prod.mk.injEq] at h
      obtain ⟨rfl, rfl, rfl⟩ := h
      have hlen : (l.take (T ty).size).length = (T ty).size := by simp; omega
      refine ⟨⟨_, w, G, fin b off vs hn hx (fun j hj => (hv j (by omega)).1), r, ?_, step_refl _ _, unt_refl _ _ _ _⟩, ?_, .refl _ _⟩
      · refine slot_mk (by simp; omega) (fun e => by rw [hlen]; exact size_one e (other_of_size hn)) fun j hj hj' => ?_
        have hj2 : j < (T ty).size := by rw [hlen] at hj; exact hj
        obtain ⟨_, _, h3, h4⟩ := hv j (by omega)
        simp only [List.getElem_map, List.getElem_range, List.getElem_take]
        exact ro_leaf h3 h4
      · refine bors_mk (fun e => by rw [hlen]; exact size_one e (other_of_size hn)) (fun e he => ?_) (fun e he p hb => ?_)
        · obtain ⟨j, hj, rfl⟩ := List.mem_iff_getElem.mp (List.mem_of_mem_take he)
          exact ⟨(hv j hj).2.2.2, (ro_nobors (hv j hj).2.2.1).2⟩
        · obtain ⟨j, hj, rfl⟩ := List.mem_iff_getElem.mp (List.mem_of_mem_take he)
          exact (ro_nolbor (hv j hj).2.2.1 p hb).elim
    · cases h
  · rename_i p n i off hs
    obtain ⟨b, o', len, cap, hp, hx⟩ := see_ea r hs
    split at h
    · rename_i f m l hat
      split at h
      · rename_i hc
        obtain ⟨rfl, hc, hn⟩ := hc
        simp only [Option.map_eq_some_iff, Prod.mk.injEq] at h
        obtain ⟨e, hi', rfl, rfl, rfl⟩ := h
        obtain ⟨hi, rfl⟩ := List.getElem?_eq_some_iff.mp hi'
        clear hi'
        have hrow : Row G w m l b o' := by
          have := r.at hat hp
          match f, this with
          | 0, this =>
            generalize hv : Value.slice (some (at_ b o')) len cap = v at this
            cases this with
            | nils n => simp at hi
            | nila n a cap => simp at hi
            | sl n l b o cap vs hcap hn hc hv' =>
              cases hv
              exact ⟨hn, vs, fun i j hi hj => (hc i j hi hj).1, hv'⟩
          | 1, this =>
            rcases this with ⟨rfl, _⟩ | ⟨b', o'', cap', e, hr, _⟩
            · simp at hi
            · injection e with e _ _; injection e with e; cases e; exact hr
          | 2, this =>
            rcases this with ⟨rfl, _⟩ | ⟨rfl, _⟩ | ⟨b', o'', cap', e, hr, _⟩
            · simp at hi
            · simp at hi
            · injection e with e _ _; injection e with e; cases e; exact hr
          | _ + 3, this => exact this.elim
        obtain ⟨hm, vs, hcell, hro⟩ := hrow
        obtain ⟨hml, hmf⟩ := hm _ (List.getElem_mem hi)
        have hlen : ((l[i].drop off).take (T ty).size).length = (T ty).size := by simp; omega
        refine ⟨⟨_, w, G, fin b (o' + i * m + off) (fun j => vs i (off + j)) hn hx (fun j hj => by rw [Nat.add_assoc (o' + i * m)]; exact hcell i (off + j) hi (by omega)), r, ?_, step_refl _ _, unt_refl _ _ _ _⟩, ?_, .refl _ _⟩
        · refine slot_mk (by rw [hlen]; simp) (fun e => by rw [hlen]; exact size_one e (other_of_size hn)) fun j hj hj' => ?_
          have hj2 : j < (T ty).size := by rw [hlen] at hj; exact hj
          simp only [List.getElem_map, List.getElem_range, List.getElem_take, List.getElem_drop]
          exact ro_leaf (hro i (off + j) hi (by omega)) (hmf _ (List.getElem_mem _))
        · refine bors_mk (fun e => by rw [hlen]; exact size_one e (other_of_size hn)) (fun e he => ?_) (fun e he p hb => ?_)
          · obtain ⟨j, hj, rfl⟩ := List.mem_iff_getElem.mp (List.mem_of_mem_drop (List.mem_of_mem_take he))
            exact ⟨hmf _ (List.getElem_mem _), (ro_nobors (hro i j hi hj)).2⟩
          · obtain ⟨j, hj, rfl⟩ := List.mem_iff_getElem.mp (List.mem_of_mem_drop (List.mem_of_mem_take he))
            exact (ro_nolbor (hro i j hi hj) p hb).elim
      · cases h
    · cases h
  · cases h

end Go.PI
