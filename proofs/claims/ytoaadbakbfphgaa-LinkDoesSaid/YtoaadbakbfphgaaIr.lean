/- Literals of structs, arrays and slices. -/
import Derived.Test.YtoaadbakbfphgaaIq
namespace Go.PI
open Go

variable {P : Program} {base : Nat} {G : Gh} {w : World} {st : St} {tmps : Array Value} {T : Nat → TI}

theorem takes_ok (base : Nat) {w : World} {tmps : Array Value} (T : Nat → TI) (l : List (Operand × Nat)) : ∀ {G : Gh} {st st' : St} {ds : List D} (i0 : Nat), Rel G w st tmps → st.takes base T l = some (ds, st') →
    ∃ G', Rel G' w st' tmps ∧ Step G w G' w ∧ G'.bl = G.bl ∧ Grew base st st' ∧ (∀ i j, Moves G w G' w (.r i j) (.r i j)) ∧ ds.length = l.length ∧
      ∀ k (h : k < ds.length) (h' : k < l.length), ds[k].cells.length = (ev tmps l[k].1).cells.size ∧
        (∀ j (h : j < ds[k].cells.length) (h' : j < (ev tmps l[k].1).cells.size), Leaf G' w tmps (.r (i0 + k) j) ds[k].cells[j] (ev tmps l[k].1).cells[j]) ∧ ∀ e ∈ ds[k].cells, e.plain ∧ e ≠ .undef := by
  induction l with
  | nil =>
    intro G st st' ds i0 r h
    simp only [St.takes, Option.some.injEq, Prod.mk.injEq] at h
    obtain ⟨rfl, rfl⟩ := h
    exact ⟨G, r, step_refl _ _, rfl, .refl _ _, fun _ _ => .refl_of _, rfl, fun i h => by simp at h⟩
  | cons x l ih =>
    intro G st st' ds i0 r h
    obtain ⟨x, ty⟩ := x
    simp only [St.takes] at h
    split at h
    · cases h
    · rename_i d s1 h1
      split at h
      · cases h
      · rename_i ds' s2 h2
        simp only [Option.some.injEq, Prod.mk.injEq] at h
        obtain ⟨rfl, rfl⟩ := h
        obtain ⟨G1, r1, q1, b1, g1, m1, c1, v1, p1⟩ := take_cells base T ty i0 r h1
        obtain ⟨G2, r2, q2, b2, g2, m2, hl, hr⟩ := ih (i0 + 1) r1 h2
        refine ⟨G2, r2, ⟨q1.evo.trans q2.evo, fun l b h => q2.bl l b (q1.bl l b h)⟩, b2.trans b1, g1.trans g2, fun i j b hb => ?_, by simp [hl], fun k hk hk' => ?_⟩
        · have a := m1 i j b hb
          have c := m2 i j b hb
          exact ⟨fun e => c.1 (a.1 e).1, fun m e => (c.2 m (a.2 m e).1)⟩
        · cases k with
          | zero => exact ⟨c1, fun j hj hj' => (v1 j hj hj').move q2 (m2 _ _) fun p hb => absurd hb (lbors_plain (p1 _ (List.getElem_mem _)).1 p), p1⟩
          | succ k =>
            have := hr k (by simpa using hk) (by simpa using hk')
            rw [show i0 + (k + 1) = i0 + 1 + k by omega]
            exact this

theorem mapM_of {α β : Type} (g : α → Option β) : ∀ (l : List α) (m : List β), l.length = m.length → (∀ k (h : k < l.length) (h' : k < m.length), g l[k] = some m[k]) → l.mapM g = some m
  | [], [], _, _ => by simp
  | [], _ :: _, h, _ => by simp at h
  | _ :: _, [], h, _ => by simp at h
  | a :: l, b :: m, h, hk => by
    have h0 := hk 0 (by simp) (by simp)
    simp only [List.getElem_cons_zero] at h0
    have := mapM_of g l m (by simpa using h) fun k h1 h2 => hk (k + 1) (by simpa using h1) (by simpa using h2)
    simp [List.mapM_cons, h0, this]

/-- Where the parts' keys go. -/
def partK (offs : Nat → Nat) : Key → Key
  | .r k j => .r 0 (offs k + j)
  | κ => κ

theorem sub_rel0 (r : Rel G w st tmps) (ρ : Key → Key) (hb : ∀ l j, ρ (.b l j) = .b l j) (hs : ∀ u i j, ρ (.s u i j) = .s u i j) : Rel (G.sub ρ) w st tmps :=
  ⟨r.len, fun t h h' => (r.slot t h h').move (step_sub G w ρ) (fun i j => moves_sub_same G w ρ (hs t i j)) fun p _ => placeV_bl rfl p, r.ln,
    r.bx.keep (step_sub G w ρ) rfl (fun loc b e => ⟨by simp [Gh.sub, r.bx.var loc b e, subP], rfl⟩) fun loc j => moves_sub_same G w ρ (hb loc j)⟩

theorem build_fin {o : Oper} {ty : Nat} {parts : Array (Nat × Operand)} {pty : Nat × Operand → Nat} {place : Nat → Option (Nat × Nat)} {z l : List D} {zv : Value} {ds : List D} {s : St} (r : Rel G w st tmps) (ho : o.op = .build ty parts)
    (h : st.takes base T (parts.toList.map fun p => (p.2, pty p)) = some (ds, s)) (hz : Zs z zv.cells) (hf : fillD place z ((parts.toList.map (·.1)).zip ds) = some l)
    (hb : ∀ (ps : List (Nat × Value)) cells, Instr.fill place zv.cells ps = some cells → P.built ty ps = some cells) : Good P base G w st tmps o (.agg l) [] s := by
  obtain ⟨G1, r1, q1, b1, g1, m1, hl, hv⟩ := takes_ok base T _ 0 r h
  simp only [List.length_map, Array.length_toList] at hl
  let offs : Nat → Nat := fun k => match (parts[k]?).bind fun p => place p.1 with
    | some x => x.1
    | none => 0
  have hR := fill_ok (fun j d v => Leaf (G1.sub (partK offs)) w tmps (.r 0 j) d v ∧ d.plain) place ((parts.toList.map (·.1)).zip ds) ((parts.map fun (i, x) => (i, ev tmps x)).toList) z l zv.cells (by simp [hl])
    (fun k hk hk' => by
      have hk1 : k < ds.length := by simp at hk; omega
      have hk2 : k < parts.size := by omega
      obtain ⟨e1, e2, e3⟩ := hv k hk1 (by simpa using hk2)
      simp only [List.getElem_map, Array.getElem_toList] at e1 e2
      have a1 : ((parts.toList.map (·.1)).zip ds)[k] = (parts[k].1, ds[k]) := by simp
      have a2 : ((parts.map fun (i, x) => (i, ev tmps x)).toList)[k] = (parts[k].1, ev tmps parts[k].2) := by simp
      simp only [a1, a2]
      refine ⟨trivial, e1, fun off n hp j hj hj' => ⟨?_, (e3 _ (List.getElem_mem _)).1⟩⟩
      have ho : offs k = off := by simp [offs, hk2, hp]
      refine (e2 j hj hj').move (step_sub _ _ _) ?_ fun p hb => absurd hb (lbors_plain (e3 _ (List.getElem_mem _)).1 p)
      have := moves_sub G1 w (partK offs) (.r (0 + k) j)
      simp only [partK, Nat.zero_add, ho] at this
      rw [Nat.zero_add]
      exact this)
    hz.1 (fun j hj hj' => by
      obtain ⟨c1, c2, _⟩ := z_leaf (G := G1.sub (partK offs)) (w := w) (tmps := tmps) (κ := .r 0 j) (hz.2 j hj hj')
      exact ⟨c1, c2⟩) hf
  obtain ⟨cs', f1, f2, f3, f4⟩ := hR
  refine ⟨⟨.agg cs', w, G1.sub (partK offs), ?_, sub_rel0 r1 _ (fun _ _ => rfl) (fun _ _ _ => rfl), ⟨cs', rfl, f2, fun j hj hj' => (f4 j hj hj').1⟩, ⟨q1.evo.trans (step_sub _ _ _).evo, fun l b h => q1.bl l b h⟩, unt_refl _ _ _ _⟩, ?_, g1⟩
  · simp only [execOp, ho, Sem.run_bind, run_build w ty _ cs' (hb _ _ f1), Result.andThen_ok, Sem.run_pure]
  · rintro p ⟨e, he, hb⟩
    obtain ⟨j, hj, rfl⟩ := List.mem_iff_getElem.mp he
    exact absurd hb (lbors_plain (f4 j hj (by omega)).2 p)

theorem fillD_mono {p q : Nat → Option (Nat × Nat)} (hpq : ∀ i x, p i = some x → q i = some x) : ∀ (parts : List (Nat × D)) (cells l : List D), fillD p cells parts = some l → fillD q cells parts = some l
  | [], _, _, h => h
  | (i, v) :: r, cells, l, h => by
    simp only [fillD] at h ⊢
    cases hp : p i with
    | none => rw [hp] at h; cases h
    | some x =>
      rw [hp] at h
      rw [hpq i x hp]
      simp only at h ⊢
      split at h
      · rename_i hc
        rw [if_pos hc]
        exact fillD_mono hpq r _ l h
      · cases h

theorem build_ok {C : CallT} {ds : List Nat} {o : Oper} {parts : Array (Nat × Operand)} {ty : Nat} {d : D} {ps : List Pl} {s : St} (tk : TOk P T) (r : Rel G w st tmps) (ho : o.op = .build ty parts) (h : opV C T base ds o st = some (d, ps, s)) : Good P base G w st tmps o d ps s := by
  have hd := tk.desc ty
  unfold opV at h
  simp only [ho] at h
  split at h
  · rename_i fs z hT
    obtain ⟨it, zv, z', i1, i2, i3, i4, i5⟩ := tk.info ty (by rw [hT]; simp)
    rw [hT] at hd i4
    cases i4
    split at h
    · rename_i ds' s' hu
      simp only [Option.map_eq_some_iff] at h
      obtain ⟨l, h1, h2⟩ := h
      simp only [Prod.mk.injEq] at h2
      obtain ⟨rfl, rfl, rfl⟩ := h2
      refine build_fin (pty := fun p => (fs.getD p.1 (0, 0, 0)).2.2) r ho hu i5 h1 fun ps cells hf => ?_
      obtain ⟨fields, k1, ⟨k2, _⟩, k3⟩ := hd
      have hm : fields.toList.mapM (fun f => (P.info? f.type).map fun i => (f.offset, i.size)) = some (fs.map fun f => (f.1, f.2.1)) := by
        refine mapM_of _ _ _ (by simpa using k2) fun k h1 h2 => ?_
        have h3 : k < fs.length := by simpa using h2
        obtain ⟨fl, i, g1, g2, g3, g4, g5⟩ := k3 k fs[k] (List.getElem?_eq_getElem h3)
        have h4 : k < fields.size := by simpa using h1
        rw [Array.getElem?_eq_getElem h4] at g1
        simp only [Array.getElem_toList, Option.some.inj g1, List.getElem_map, g4, Option.map_some, g2, g5]
      have hpl : (fun (i : Nat) => (List.map (fun (f : Nat × Nat × Nat) => (f.1, f.2.1)) fs).toArray[i]?) = fun i => (fs[i]?).map fun (f : Nat × Nat × Nat) => (f.1, f.2.1) := by
        funext i
        simp
      simp only [Program.built, i1, k1, i3, hm]
      rw [hpl]
      exact hf
    · cases h
  · rename_i len n ety z hT
    obtain ⟨it, zv, z', i1, i2, i3, i4, i5⟩ := tk.info ty (by rw [hT]; simp)
    rw [hT] at hd i4
    cases i4
    split at h
    · rename_i ds' s' hu
      simp only [Option.map_eq_some_iff] at h
      obtain ⟨l, h1, h2⟩ := h
      simp only [Prod.mk.injEq] at h2
      obtain ⟨rfl, rfl, rfl⟩ := h2
      have h1 := fillD_mono (q := fun i => some (i * n, n)) (by intro i x hx; split at hx; exact hx; cases hx) _ _ _ h1
      refine build_fin (pty := fun p => ety) r ho hu i5 h1 fun ps cells hf => ?_
      obtain ⟨k1, ie, k2, k3⟩ := hd
      simp only [Program.built, i1, k1, i3, k2, k3]
      exact hf
    · cases h
  · cases h

theorem fillEls_flat {n : Nat} (hn : 0 < n) : ∀ (parts : List (Nat × D)) (els els' : List (List D)), (∀ x ∈ els, x.length = n) → fillEls n els parts = some els' →
    fillD (fun i => some (i * n, n)) els.flatten parts = some els'.flatten ∧ (∀ x ∈ els', x.length = n) ∧ els'.length = els.length
  | [], els, els', he, h => by cases h; exact ⟨rfl, he, rfl⟩
  | (i, v) :: r, els, els', he, h => by
    simp only [fillEls] at h
    split at h
    · rename_i hc
      obtain ⟨hc1, hc2⟩ := hc
      have he' : ∀ x ∈ els.set i v.cells, x.length = n := by
        intro x hx
        rcases List.mem_or_eq_of_mem_set hx with hx | rfl
        · exact he x hx
        · exact hc1
      obtain ⟨f1, f2, f3⟩ := fillEls_flat hn r _ els' he' h
      have hlen : ∀ m : List (List D), (∀ x ∈ m, x.length = n) → m.flatten.length = m.length * n := by
        intro m hm
        induction m with
        | nil => simp
        | cons a m ih =>
          have := hm a (by simp)
          simp [this, ih (fun x hx => hm x (by simp [hx])), Nat.add_mul, Nat.add_comm]
      have hflat : ∀ (m : List (List D)) (k : Nat), (∀ x ∈ m, x.length = n) → k < m.length → (m.set k v.cells).flatten = m.flatten.take (k * n) ++ v.cells ++ m.flatten.drop (k * n + n) := by
        intro m
        induction m with
        | nil => intro k _ hk; simp at hk
        | cons a m ih =>
          intro k hm hk
          have ha := hm a (by simp)
          cases k with
          | zero =>
            simp only [List.set_cons_zero, List.flatten_cons, Nat.zero_mul, List.take_zero, List.nil_append, Nat.zero_add]
            rw [List.drop_append_of_le_length (by omega), List.drop_of_length_le (by omega), List.nil_append]
          | succ k =>
            have := ih k (fun x hx => hm x (by simp [hx])) (by simpa using hk)
            simp only [List.set_cons_succ, List.flatten_cons, this]
            have e : (k + 1) * n = a.length + k * n := by rw [ha, Nat.add_mul, Nat.one_mul, Nat.add_comm]
            have e2 : (k + 1) * n + n = a.length + (k * n + n) := by omega
            rw [e2, e, List.take_length_add_append, List.drop_length_add_append]
            simp only [List.append_assoc]
      refine ⟨?_, f2, by rw [f3]; simp⟩
      simp only [fillD]
      have hb : i * n + n ≤ els.flatten.length := by
        rw [hlen els he]
        have : (i + 1) * n ≤ els.length * n := Nat.mul_le_mul_right n hc2
        rw [Nat.add_mul, Nat.one_mul] at this
        exact this
      rw [if_pos ⟨hc1, hb⟩, ← hflat els i he hc2]
      exact f1
    · cases h

theorem flat_get {n : Nat} : ∀ (m : List (List D)) (i j : Nat) (hi : i < m.length) (hj : j < m[i].length), (∀ x ∈ m, x.length = n) → m.flatten[i * n + j]? = some m[i][j]
  | [], _, _, h, _, _ => by simp at h
  | a :: m, i, j, hi, hj, hm => by
    have ha := hm a (by simp)
    cases i with
    | zero =>
      simp only [List.getElem_cons_zero] at hj ⊢
      simp only [List.flatten_cons, Nat.zero_mul, Nat.zero_add]
      rw [List.getElem?_append_left (by omega), List.getElem?_eq_getElem hj]
    | succ i =>
      have := flat_get m i j (by simpa using hi) (by simpa using hj) fun x hx => hm x (by simp [hx])
      simp only [List.getElem_cons_succ, List.flatten_cons]
      rw [List.getElem?_append_right (by rw [Nat.add_mul]; omega), ← this]
      congr 1
      rw [Nat.add_mul, Nat.one_mul]; omega

theorem z_ro {d : D} {v : Value} (h : Z d v) (hr : ∀ n l, d ≠ .sl 2 n l) : Ro G w d v ∧ ∀ q, d ≠ .agg q := by
  cases d with
  | int k n => obtain rfl := h; exact ⟨.int _ _, by simp⟩
  | bool b => obtain rfl := h; exact ⟨.bool _, by simp⟩
  | str s => obtain rfl := h; exact ⟨.str _, by simp⟩
  | sl f n l =>
    obtain ⟨h, rfl, rfl⟩ := h
    rcases h with rfl | rfl
    · exact ⟨.nils _, by simp⟩
    · exact absurd rfl (hr _ _)
  | nilp => obtain rfl := h; exact ⟨.nilp, by simp⟩
  | nilf => obtain rfl := h; exact ⟨.nilf, by simp⟩
  | nili => obtain rfl := h; exact ⟨.nili, by simp⟩
  | _ => exact h.elim

theorem buildSlice_ok {C : CallT} {ds : List Nat} {o : Oper} {parts : Array (Nat × Operand)} {ty len : Nat} {d : D} {ps : List Pl} {s : St} (tk : TOk P T) (r : Rel G w st tmps) (ho : o.op = .buildSlice ty len parts) (h : opV C T base ds o st = some (d, ps, s)) : Good P base G w st tmps o d ps s := by
  have hd := tk.desc ty
  unfold opV at h
  simp only [ho] at h
  split at h
  · rename_i e z hT
    rw [hT] at hd
    obtain ⟨hd, ie, zv, i1, i2, i3, i4, hz, hzl, hzr⟩ := hd
    split at h
    · rename_i ds' s' hu
      split at h
      · rename_i hc
        obtain ⟨hsm, hce⟩ := hc
        simp only [Option.map_eq_some_iff] at h
        obtain ⟨l, h1, h2⟩ := h
        simp only [Prod.mk.injEq] at h2
        obtain ⟨rfl, rfl, rfl⟩ := h2
        obtain ⟨G1, r1, q1, b1, g1, hl, hv⟩ := uses_ok base T _ r hu
        simp only [List.length_map, Array.length_toList] at hl
        have hzm : ∀ x ∈ zerosD z len, x = z := fun x hx => by simp only [zerosD] at hx; exact (List.mem_replicate.mp hx).2
        obtain ⟨f1, f2, f3⟩ := fillEls_flat hce _ _ l (fun x hx => by rw [hzm x hx, hzl]) h1
        have hzlen : (zerosD z len).length = len := by simp [zerosD]
        have hflen : (zerosD z len).flatten.length = len * e.cells := by simp [zerosD, hzl]
        have hR := fill_ok (fun _ d v => Ro G1 w d v ∧ ∀ q, d ≠ .agg q) (fun i => some (i * e.cells, e.cells)) ((parts.toList.map (·.1)).zip ds') ((parts.map fun (i, x) => (i, ev tmps x)).toList) (zerosD z len).flatten l.flatten (madeCells zv.cells (len * e.cells)) (by simp [hl])
          (fun k hk hk' => by
            have hk1 : k < ds'.length := by simp at hk; omega
            have hk2 : k < parts.size := by omega
            obtain ⟨e1, e2⟩ := hv k hk1 (by simpa using hk2)
            simp only [List.getElem_map, Array.getElem_toList] at e1 e2
            have a1 : ((parts.toList.map (·.1)).zip ds')[k] = (parts[k].1, ds'[k]) := by simp
            have a2 : ((parts.map fun (i, x) => (i, ev tmps x)).toList)[k] = (parts[k].1, ev tmps parts[k].2) := by simp
            simp only [a1, a2]
            obtain ⟨c1, c2⟩ := ro_cells e1 e2
            exact ⟨trivial, c1, fun off n hp j hj hj' => c2 j hj hj'⟩)
          (by rw [size_madeCells, hflen]) (fun j hj hj' => by
            have hzs : zv.cells.size = e.cells := by rw [hz.1, hzl]
            have hm : j % e.cells < e.cells := Nat.mod_lt _ hce
            have hdv : j / e.cells < len := by rw [Nat.div_lt_iff_lt_mul hce, ← hflen]; exact hj
            have a0 := flat_get (n := e.cells) (zerosD z len) (j / e.cells) (j % e.cells) (by rw [hzlen]; exact hdv) (by rw [hzm _ (List.getElem_mem _), hzl]; exact hm) (fun x hx => by rw [hzm x hx, hzl])
            have ej : j / e.cells * e.cells + j % e.cells = j := by rw [Nat.mul_comm]; exact Nat.div_add_mod j e.cells
            rw [ej, List.getElem?_eq_getElem hj] at a0
            have a1 : (zerosD z len).flatten[j] = z[j % e.cells]'(by rw [hzl]; exact hm) := by
              rw [Option.some.inj a0]
              simp [zerosD]
            have a2 : (madeCells zv.cells (len * e.cells))[j] = zv.cells[j % e.cells]'(by rw [hzs]; exact hm) := by
              simp [madeCells, hzs, hm]
            rw [a1, a2]
            exact z_ro (hz.2 _ _ _) (hzr _ (List.getElem_mem _))) f1
        obtain ⟨cs', k1, k2, k3, k4⟩ := hR
        have hcs : cs'.size = len * e.cells := by rw [k2, k3, hflen]
        have hll : l.length = len := by rw [f3, hzlen]
        have m := more_alloc w (.cells cs' e.ty)
        have own : Own (G1.grant w.heap.size (.ex (.r 0 0))) (w.alloc (.cells cs' e.ty)) (.r 0 0) e.cells l (.slice (some (at_ w.heap.size 0)) len len) := by
          by_cases hl0 : len = 0
          · subst hl0
            have : l = [] := List.length_eq_zero_iff.mp hll
            exact .inr (.inl ⟨this, _, _, rfl⟩)
          · have := new_own (G := G1) m rfl (fun i hi => by unfold World.frozen?; rw [show (w.alloc (.cells cs' e.ty)).heap[(at_ w.heap.size i).block]? = _ from m.new]; simp) (n := e.cells) (cap := len) (l := l) (by omega) (by omega) (fun x hx => ⟨f2 x hx, fun d hd q e' => ?_⟩) (fun i j hi hj => ?_) (.r 0 0)
            · rw [hll] at this; exact this
            · subst e'
              obtain ⟨j, hj, e1⟩ := List.mem_iff_getElem.mp (List.mem_flatten.mpr ⟨x, hx, hd⟩)
              have := (k4 j hj (by omega)).2
              rw [e1] at this
              exact this q rfl
            · have h3 := flat_get l i j hi hj f2
              obtain ⟨hj2, h4⟩ := List.getElem?_eq_some_iff.mp h3
              refine ⟨cs'[i * e.cells + j]'(by omega), Array.getElem?_eq_getElem (by omega), ?_⟩
              have := (k4 _ hj2 (by omega)).1
              rw [h4] at this
              exact this
        have good := good_new (P := P) (base := base) (o := o) r1 m (d := .sl 2 e.cells l) (v := .slice (some (at_ w.heap.size 0)) len len) (q := .ex (.r 0 0)) ?_ own trivial
        · obtain ⟨⟨v', w', G', x1, x2, x3, x4, x5⟩, x6, x7⟩ := good
          exact ⟨⟨v', w', G', x1, x2, x3, ⟨q1.evo.trans x4.evo, fun l b h => x4.bl l b (q1.bl l b h)⟩, fun loc b hl hb hd => x5 loc b hl (q1.bl loc b hb) hd⟩, x6, g1.trans x7⟩
        · by_cases hl0 : len = 0
          · subst hl0
            have hp0 : parts = #[] := by
              match hpe : parts.toList, h1 with
              | [], _ => exact Array.ext' hpe
              | p :: q, h1 =>
                exfalso
                have : ds' ≠ [] := by rintro rfl; simp at hl; rw [← Array.length_toList, hpe] at hl; simp at hl
                obtain ⟨d0, ds0, rfl⟩ := List.exists_cons_of_ne_nil this
                simp [fillEls, zerosD] at h1
            have hc0 : cs' = #[] := Array.eq_empty_of_size_eq_zero (by rw [hcs]; simp)
            subst hp0
            subst hc0
            simp [execOp, ho, Instr.buildSlice, run_underlying hd, Go.sizeOf, typeInfo, i1, Instr.fill, newRow, at_]
            have : Array.range 0 = #[] := Array.eq_empty_of_size_eq_zero (by simp)
            rw [this]
            simp
          · have := run_buildSlice (P := P) w ty e.ty len (parts.map fun (i, x) => (i, ev tmps x)) cs' ie zv hd i1 i4 (by rw [i2]; omega) (by rw [i2]; exact fun h => by rcases Nat.mul_eq_zero.mp h with h | h <;> omega) (by rw [i2]; exact k1)
            simp only [execOp, ho, Sem.run_bind, this, Result.andThen_ok, Sem.run_pure]
            rfl
      · cases h
    · cases h
  · cases h

end Go.PI
