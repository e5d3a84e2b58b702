/- Operations that make new memory. -/
import Derived.Test.YtoaadbakbfphgaaIk
namespace Go.PI
open Go Go.Lib

variable {P : Program} {base : Nat} {G : Gh} {w w' : World} {st : St} {tmps : Array Value} {T : Nat → TI}

/-- One block more. -/
structure More (w w' : World) (o : Obj) : Prop where
  os : w'.os = w.os
  tape : w'.tape = w.tape
  output : w'.output = w.output
  size : w'.heap.size = w.heap.size + 1
  old : ∀ k, k < w.heap.size → w'.heap[k]? = w.heap[k]?
  new : w'.heap[w.heap.size]? = some o

theorem more_alloc (w : World) (o : Obj) : More w (w.alloc o) o := ⟨rfl, rfl, rfl, by simp, fun k hk => heap_alloc_old w o k hk, heap_alloc_new w o⟩

theorem more_drew_alloc (w : World) (o : Obj) : More w (w.drew.alloc o) o := ⟨rfl, rfl, rfl, by simp, fun k hk => heap_alloc_old w.drew o k hk, heap_alloc_new w.drew o⟩

theorem more_bytes (w : World) (e : TypeId) (s : ByteArray) : More w (bytesWorld w e s) (.cells (bytesCells w e s) e ((bytesCells w e s).size, (bytesCells w e s).size + 1)) :=
  ⟨rfl, rfl, rfl, bytesWorld_size w e s, fun k hk => bytesWorld_at_old w e s k hk, bytesWorld_at_new w e s⟩

theorem More.step {o : Obj} (m : More w w' o) (G : Gh) (q : Perm) : Step G w (G.grant w.heap.size q) w' := by
  refine ⟨⟨m.os, m.tape, m.output, by rw [m.size]; omega, fun b hb e => ⟨(grant_ne G q (by omega)).trans e, m.old b hb⟩, fun b _ hb e => ⟨(grant_ne G q (by omega)).trans e, m.old b hb⟩, fun b n k hb e => ?_, fun _ _ _ h => h⟩, fun _ _ h => h⟩
  exact ⟨.inl ⟨n, k, Nat.le_refl _, (grant_ne G q (by omega)).trans e⟩, fun i _ => cell_of_heap (m.old b hb) i⟩

theorem More.moves {o : Obj} (m : More w w' o) (G : Gh) (q : Perm) (κ : Key) : Moves G w (G.grant w.heap.size q) w' κ κ := by
  intro b hb
  rw [grant_ne G q (by omega)]
  exact ⟨fun e => ⟨e, m.old b hb⟩, fun _ e => ⟨e, m.old b hb⟩⟩

theorem Boxes.lt {bx : List (List D)} (r : Boxes G w bx) (loc b : Nat) (h : G.bl[loc]? = some (some b)) : b < w.heap.size := by
  have hl : loc < bx.length := by rw [← r.len]; exact (List.getElem?_eq_some_iff.mp h).1
  obtain ⟨_, cs, ty, h2, _⟩ := r.box loc b _ h (List.getElem?_eq_getElem hl)
  exact (Array.getElem?_eq_some_iff.mp h2).1

theorem More.rel {o : Obj} (m : More w w' o) (q : Perm) (r : Rel G w st tmps) : Rel (G.grant w.heap.size q) w' st tmps := by
  have hv : ∀ (loc b : Nat), G.bl[loc]? = some (some b) → (G.grant w.heap.size q).pm b = G.pm b ∧ w'.heap[b]? = w.heap[b]? := fun loc b e => by
    have := r.bx.lt loc b e
    exact ⟨grant_ne G q (by omega), m.old b this⟩
  refine ⟨r.len, fun t h h' => (r.slot t h h').move (m.step G q) (fun i j => m.moves G q _) fun p _ => placeV_step rfl (fun loc b e => (hv loc b e).2) p, r.ln, r.bx.keep (m.step G q) rfl hv fun loc j => m.moves G q _⟩

theorem More.unt {o : Obj} (m : More w w' o) (r : Rel G w st tmps) (dirty : List Nat) : Unt base G w w' dirty := fun loc b _ e _ => m.old b (r.bx.lt loc b e)

theorem oneCell_of_leaf {κ : Key} {d : D} {v : Value} (h : Leaf G w tmps κ d v) (hp : d.plain) (hu : d ≠ .undef) : v.oneCell' = true := by
  have ro : Ro G w d v → (∀ l, d ≠ .agg l) → v.oneCell' = true := by
    intro h ha
    cases h <;> first | rfl | exact absurd rfl (ha _)
  cases d with
  | undef => exact absurd rfl hu
  | bor p => exact hp.elim
  | ea p n i off => exact hp.elim
  | rp l => exact hp.elim
  | agg l => exact h.elim
  | tup l => exact h.elim
  | sl f n l => obtain ⟨a, len, cap, rfl⟩ := leaf_slice h; rfl
  | _ => exact ro h (by simp)

theorem oneCell_of_ro {d : D} {v : Value} (h : Ro G w d v) (ha : ∀ l, d ≠ .agg l) : v.oneCell' = true := by
  cases h <;> first | rfl | exact absurd rfl (ha _)

/-- A new row of elements that are told for good. -/
theorem new_own {obj : Obj} {cs : Array Value} {ty : TypeId} {fz : Nat × Nat} (m : More w w' obj) (ho : obj = .cells cs ty fz) (hfz : ∀ i, i < cs.size → w'.frozen? (at_ w.heap.size i) = false) {n cap : Nat} {l : List (List D)} (hcap : l.length ≤ cap) (hs : cap * n ≤ cs.size)
    (hn : ∀ x ∈ l, x.length = n ∧ ∀ d ∈ x, ∀ q, d ≠ .agg q) (hv : ∀ i j (hi : i < l.length) (hj : j < l[i].length), ∃ v, cs[i * n + j]? = some v ∧ Ro G w l[i][j] v) (κ : Key) :
    Own (G.grant w.heap.size (.ex κ)) w' κ n l (.slice (some (at_ w.heap.size 0)) l.length cap) := by
  have hcell : ∀ i, w'.cell? (at_ w.heap.size i) = cs[i]? := fun i => by simp [World.cell?, at_, m.new, ho]
  refine .inr (.inr ⟨_, 0, cap, rfl, ⟨hn, fun i j => (cs[i * n + j]?).getD undef, fun i j hi hj => ?_, fun i j hi hj => ?_⟩, hcap, grant_self _ _ _, ⟨cs, ty, fz, by rw [m.new, ho], by omega, hfz⟩⟩)
  · have h1 := (hn _ (List.getElem_mem hi)).1
    obtain ⟨v, h2, _⟩ := hv i j hi (by omega)
    rw [hcell, Nat.zero_add, h2]; simp [h2]
  · obtain ⟨v, h2, h3⟩ := hv i j hi hj
    simp only [h2, Option.getD_some]
    exact h3.evo (m.step G _).evo (m.step G _).bl

theorem good_new {o : Oper} {obj : Obj} {d : D} {v : Value} {q : Perm} (r : Rel G w st tmps) (m : More w w' obj) (he : (execOp (ev tmps) o).run P w = .ok (.value v) w') (hd : Leaf (G.grant w.heap.size q) w' tmps (.r 0 0) d v) (hp : d.plain) :
    Good P base G w st tmps o d [] st := by
  have ha : ∀ l, d ≠ .agg l := by rintro l rfl; exact hd
  have ht : ∀ l, d ≠ .tup l := by rintro l rfl; exact hd
  exact ⟨⟨v, w', _, he, m.rel q r, (slot_of ht).mpr ((val_of ha).mpr hd), m.step G q, m.unt r _⟩, fun p hb => absurd ((bors_of ha).mp ((sbors_of ht).mp hb)) (lbors_plain hp p), .refl _ _⟩

theorem mul_add_lt {i j n k : Nat} (hi : i < k) (hj : j < n) : i * n + j < k * n := by
  have : (i + 1) * n ≤ k * n := Nat.mul_le_mul_right n hi
  rw [Nat.add_mul, Nat.one_mul] at this
  omega

/-- The elements of a made row. -/
theorem zeros_own {obj : Obj} {cs : Array Value} {ty : TypeId} {zc : Array Value} {z : List D} (m : More w w' obj) (ho : obj = .cells cs ty (0, 0)) (hz : Zs z zc) (hr : ∀ d ∈ z, ∀ n l, d ≠ .sl 2 n l) {len cap : Nat} (hlc : len ≤ cap) (hcs : cs = madeCells zc (cap * z.length)) (κ : Key) :
    Own (G.grant w.heap.size (.ex κ)) w' κ z.length (zerosD z len) (.slice (some (at_ w.heap.size 0)) len cap) := by
  have hl : (zerosD z len).length = len := by simp [zerosD]
  have hsz : cs.size = cap * z.length := by rw [hcs, size_madeCells]
  have hfz : ∀ i, i < cs.size → w'.frozen? (at_ w.heap.size i) = false := fun i _ => by simp [World.frozen?, at_, m.new, ho]
  have hm : ∀ x ∈ zerosD z len, x = z := fun x hx => by simp only [zerosD] at hx; exact (List.mem_replicate.mp hx).2
  have hna : ∀ d ∈ z, ∀ q, d ≠ .agg q := by
    intro d hd q e
    subst e
    obtain ⟨j, hj, e⟩ := List.mem_iff_getElem.mp hd
    have := hz.2 j hj (by rw [hz.1]; exact hj)
    rw [e] at this
    exact this
  have := new_own (G := G) m ho hfz (n := z.length) (cap := cap) (l := zerosD z len) (by omega) (by omega) (fun x hx => by rw [hm x hx]; exact ⟨rfl, hna⟩) (fun i j hi hj => ?_) κ
  · rw [hl] at this; exact this
  · have e : (zerosD z len)[i] = z := hm _ (List.getElem_mem _)
    simp only [e] at hj ⊢
    have hlt := mul_add_lt (n := z.length) (show i < cap by omega) hj
    have hmod : (i * z.length + j) % zc.size = j := by
      rw [hz.1, Nat.mul_comm, Nat.mul_add_mod, Nat.mod_eq_of_lt hj]
    have hj2 : j < zc.size := by rw [hz.1]; exact hj
    refine ⟨zc[j], ?_, ?_⟩
    · rw [hcs]
      simp [madeCells, hlt, hmod, hj2]
    · have := hz.2 j hj hj2
      have hr := hr _ (List.getElem_mem hj)
      generalize z[j] = d at this hr
      generalize zc[j] = v at this
      cases d with
      | int k n => obtain rfl := this; exact .int _ _
      | bool b => obtain rfl := this; exact .bool _
      | str s => obtain rfl := this; exact .str _
      | sl f n l => obtain ⟨h, rfl, rfl⟩ := this; rcases h with rfl | rfl; exact .nils _; exact absurd rfl (hr _ _)
      | nilp => obtain rfl := this; exact .nilp
      | nilf => obtain rfl := this; exact .nilf
      | nili => obtain rfl := this; exact .nili
      | _ => exact this.elim

theorem makeSlice_ok {C : CallT} {ds : List Nat} {o : Oper} {x y : Operand} {ty : Nat} {d : D} {ps : List Pl} {s : St} (tk : TOk P T) (r : Rel G w st tmps) (ho : o.op = .makeSlice ty x y) (h : opV C T base ds o st = some (d, ps, s)) : Good P base G w st tmps o d ps s := by
  unfold opV at h
  simp only [ho] at h
  split at h
  · rename_i e z l c hT hl hc
    obtain ⟨kl, hx⟩ := see_intD r hl
    obtain ⟨kc, hy⟩ := see_intD r hc
    have hd := tk.desc ty
    rw [hT] at hd
    obtain ⟨hd, ii, zv, i1, i2, i3, i4, hz, hzl, hzr⟩ := hd
    split at h
    · rename_i hc
      obtain ⟨h0, h1, h2, h3⟩ := hc
      simp only [Option.some.injEq, Prod.mk.injEq] at h
      obtain ⟨rfl, rfl, rfl⟩ := h
      unfold room at h2
      have hcb : c.toNat ≤ c.toNat * e.bytes := Nat.le_mul_of_pos_right _ h3
      have hb : (ii.bytes : Int) * c ≤ 281474976710656 := by
        rw [i3, Int.mul_comm]
        have : ((c.toNat * e.bytes : Nat) : Int) ≤ 140737488355328 := by omega
        have hcc : (c.toNat : Int) = c := by omega
        rw [Int.natCast_mul, hcc] at this
        omega
      have run := run_make (P := P) w ty e.ty ii zv hd i1 i4 kl kc l c h0 h1 hb (by omega)
      have m := more_alloc w (.cells (madeCells zv.cells (c.toNat * ii.size)) e.ty)
      refine good_new (q := .ex (.r 0 0)) r m (v := .slice (some (at_ w.heap.size 0)) l.toNat c.toNat) ?_ ?_ trivial
      · simp only [execOp, ho, hx, hy, Sem.run_bind, run, Result.andThen_ok, Sem.run_pure]; rfl
      · have := zeros_own (G := G) m rfl hz hzr (len := l.toNat) (cap := c.toNat) (by omega) (by rw [i2, hzl]) (.r 0 0)
        rw [hzl] at this
        exact this
    · cases h
  · cases h

theorem arr_one {α : Type} {a : Array α} {x : α} (h : a.toList = [x]) : a = #[x] := Array.ext' h
theorem arr_two {α : Type} {a : Array α} {x y : α} (h : a.toList = [x, y]) : a = #[x, y] := Array.ext' h

theorem len_ok {o : Oper} {c : Call} {x : Operand} {t : TypeId} {d : D} {ps : List Pl} {s : St} (tk : TOk P T) (r : Rel G w st tmps) (ho : o.op = .call c) (hc : c.callee = .builtin .len) (ha : c.args.toList = [x]) (ht : c.argTypes.toList = [t])
    (h : builtinV T base .len [x] [t] st = some (d, ps, s)) : Good P base G w st tmps o d ps s := by
  have hd := tk.desc t
  simp only [builtinV] at h
  split at h
  · rename_i hT hs
    rw [hT] at hd
    simp only [Option.some.injEq, Prod.mk.injEq] at h
    obtain ⟨rfl, rfl, rfl⟩ := h
    refine good_ro r ?_ (.int _ _) (by simp)
    rcases see_sl r hs with ⟨rfl, a, cap, hx⟩ | ⟨b, o', cap, hx, _⟩
    · simp [execOp, ho, resolve, hc, arr_one ha, arr_one ht, hx, invoke, builtin, Builtin.len_, run_underlying hd.1, goInt]
    · simp [execOp, ho, resolve, hc, arr_one ha, arr_one ht, hx, invoke, builtin, Builtin.len_, run_underlying hd.1, goInt]
  · rename_i hT hs
    rw [hT] at hd
    simp only [Option.some.injEq, Prod.mk.injEq] at h
    obtain ⟨rfl, rfl, rfl⟩ := h
    refine good_ro r ?_ (.int _ _) (by simp)
    simp only [TDesc] at hd
    simp [execOp, ho, resolve, hc, arr_one ha, arr_one ht, see_str r hs, invoke, builtin, Builtin.len_, run_underlying hd, goInt]
  · cases h

theorem best_ok (g : Int → Int → Bool) (f : Value → Value → Sem Value) (hf : ∀ (k : IntKind) (x y : Int) (w : World), (f (.int k x) (.int k y)).run P w = .ok (.int k (if g x y then y else x)) w) (r : Rel G w st tmps) (rest : List Operand) :
    ∀ (k : IntKind) (a : Int) (d : D), bestD g (.int k a) (rest.map (st.see T 3)) = some d → ∃ b, d = .int k b ∧ ((rest.map (ev tmps)).foldlM f (.int k a)).run P w = .ok (.int k b) w := by
  induction rest with
  | nil => intro k a d h; cases h; exact ⟨a, rfl, rfl⟩
  | cons x t ih =>
    intro k a d h
    simp only [List.map_cons] at h
    generalize hx : st.see T 3 x = dx at h
    cases dx <;> simp only [bestD] at h <;> first | (cases h; done) | skip
    rename_i k' y
    split at h
    · rename_i hk
      subst hk
      obtain ⟨b, e, hr⟩ := ih k _ d h
      exact ⟨b, e, by simp only [List.map_cons, List.foldlM_cons, see_int r hx, Sem.run_bind, hf, Result.andThen_ok]; exact hr⟩
    · cases h

theorem minmax_ok {o : Oper} {c : Call} {x : Operand} {t : List Operand} {tys : List TypeId} {d : D} {ps : List Pl} {s : St} (r : Rel G w st tmps) (ho : o.op = .call c) (ha : c.args.toList = x :: t)
    (h : (c.callee = .builtin .min ∧ builtinV T base .min (x :: t) tys st = some (d, ps, s)) ∨ (c.callee = .builtin .max ∧ builtinV T base .max (x :: t) tys st = some (d, ps, s))) : Good P base G w st tmps o d ps s := by
  have hm : (c.args.map (ev tmps)).toList = ev tmps x :: t.map (ev tmps) := by rw [Array.toList_map, ha]; rfl
  rcases h with ⟨hc, h⟩ | ⟨hc, h⟩
  · simp only [builtinV, Option.map_eq_some_iff, Prod.mk.injEq] at h
    obtain ⟨d', h, rfl, rfl, rfl⟩ := h
    generalize hx : st.see T 3 x = dx at h
    have key : ∀ k a, dx = .int k a → Good P base G w st tmps o d' [] st := by
      rintro k a rfl
      obtain ⟨b, rfl, hr⟩ := best_ok (P := P) _ Builtin.min2 (fun k x y w => by simp [Builtin.min2]) r t k a d' h
      refine good_ro r (v := .int k b) ?_ (.int _ _) (by simp)
      simp only [execOp, ho, resolve, hc, invoke, builtin, Builtin.min_, Sem.run_bind, Sem.run_pure, Result.andThen_ok, hm, see_int r hx, hr]
    cases dx with
    | int k a => exact key k a rfl
    | _ => cases t <;> simp only [List.map_nil, List.map_cons, bestD] at h <;> cases h
  · simp only [builtinV, Option.map_eq_some_iff, Prod.mk.injEq] at h
    obtain ⟨d', h, rfl, rfl, rfl⟩ := h
    generalize hx : st.see T 3 x = dx at h
    have key : ∀ k a, dx = .int k a → Good P base G w st tmps o d' [] st := by
      rintro k a rfl
      obtain ⟨b, rfl, hr⟩ := best_ok (P := P) _ Builtin.max2 (fun k x y w => by simp [Builtin.max2]) r t k a d' h
      refine good_ro r (v := .int k b) ?_ (.int _ _) (by simp)
      simp only [execOp, ho, resolve, hc, invoke, builtin, Builtin.max_, Sem.run_bind, Sem.run_pure, Result.andThen_ok, hm, see_int r hx, hr]
    cases dx with
    | int k a => exact key k a rfl
    | _ => cases t <;> simp only [List.map_nil, List.map_cons, bestD] at h <;> cases h

/-- Elements as values in a row: all that an append asks of what it appends. -/
structure Vals (G : Gh) (w : World) (n : Nat) (m : List (List D)) (vs : List Value) : Prop where
  len : vs.length = m.length * n
  el : ∀ x ∈ m, x.length = n ∧ ∀ d ∈ x, ∀ q, d ≠ .agg q
  ro : ∀ i j (hi : i < m.length) (hj : j < m[i].length), ∃ v, vs[i * n + j]? = some v ∧ Ro G w m[i][j] v
  one : ∀ v ∈ vs, v.oneCell' = true

theorem row_vals {n b o : Nat} {l : List (List D)} (h : Row G w n l b o) (hn : 0 < n) : ∃ vs, Vals G w n l vs ∧ ∀ j u, vs[j]? = some u → w.cell? (at_ b (o + j)) = some u := by
  obtain ⟨he, f, hc, hr⟩ := h
  have hdm : ∀ k, k < l.length * n → k / n < l.length ∧ k % n < n ∧ k / n * n + k % n = k := fun k hk => by
    refine ⟨(Nat.div_lt_iff_lt_mul hn).mpr hk, Nat.mod_lt _ hn, ?_⟩
    rw [Nat.mul_comm]; exact Nat.div_add_mod k n
  refine ⟨(List.range (l.length * n)).map fun k => f (k / n) (k % n), ⟨by simp, he, fun i j hi hj => ?_, fun v hv => ?_⟩, fun j u hu => ?_⟩
  · have hj2 : j < n := by rw [← (he _ (List.getElem_mem hi)).1]; exact hj
    refine ⟨f i j, ?_, hr i j hi hj⟩
    have hlt := mul_add_lt hi hj2
    have e1 : (i * n + j) / n = i := by rw [Nat.mul_comm, Nat.mul_add_div hn, Nat.div_eq_of_lt hj2]; rfl
    have e2 : (i * n + j) % n = j := by rw [Nat.mul_comm, Nat.mul_add_mod, Nat.mod_eq_of_lt hj2]
    simp [hlt, e1, e2]
  · simp only [List.mem_map, List.mem_range] at hv
    obtain ⟨k, hk, rfl⟩ := hv
    obtain ⟨h1, h2, _⟩ := hdm k hk
    have hlen := (he _ (List.getElem_mem h1)).1
    exact oneCell_of_ro (hr _ _ h1 (by omega)) ((he _ (List.getElem_mem h1)).2 _ (List.getElem_mem _))
  · simp only [List.getElem?_map, Option.map_eq_some_iff] at hu
    obtain ⟨k, hk, rfl⟩ := hu
    obtain ⟨hk1, hk2⟩ := List.getElem?_eq_some_iff.mp hk
    simp only [List.length_range] at hk1
    simp only [List.getElem_range] at hk2
    subst hk2
    obtain ⟨h1, h2, h3⟩ := hdm j hk1
    have := hc _ _ h1 h2
    rw [Nat.add_assoc, h3] at this
    exact this

end Go.PI
