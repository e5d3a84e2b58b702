/- Addresses of fields and elements; numbers. -/
import Derived.Test.YtoaadbakbfphgaaJa
namespace Go.PI
open Go

variable {P : Program} {base : Nat} {G : Gh} {w : World} {st : St} {tmps : Array Value} {T : Nat → TI}

theorem good_ptr {o : Oper} {loc off b : Nat} (r : Rel G w st tmps) (hb : G.bl[loc]? = some (some b)) (he : (execOp (ev tmps) o).run P w = .ok (.value (.pointer (some (at_ b off)))) w) : Good P base G w st tmps o (.ptr loc off) [] st :=
  good_ro r he (.ptr loc off b hb) (by simp)

theorem good_rp {o : Oper} {l : List D} {b off : Nat} (r : Rel G w st tmps) (hv : ∃ vs : Nat → Value, ∀ j (h : j < l.length), w.cell? (at_ b (off + j)) = some (vs j) ∧ G.fz b (off + j) ∧ Ro G w l[j] (vs j) ∧ ∀ q, l[j] ≠ .agg q)
    (he : (execOp (ev tmps) o).run P w = .ok (.value (.pointer (some (at_ b off)))) w) : Good P base G w st tmps o (.rp l) [] st :=
  ⟨⟨_, w, G, he, r, ⟨b, off, rfl, hv⟩, step_refl _ _, unt_refl _ _ _ _⟩, fun _ hb => hb.elim, .refl _ _⟩

theorem good_ea {o : Oper} {p : Pl} {n i off b o' len cap : Nat} (r : Rel G w st tmps) (hp : placeV G w tmps p = some (.slice (some (at_ b o')) len cap))
    (he : (execOp (ev tmps) o).run P w = .ok (.value (.pointer (some (at_ b (o' + i * n + off))))) w) : Good P base G w st tmps o (.ea p n i off) [p] st :=
  ⟨⟨_, w, G, he, r, ⟨b, o', len, cap, hp, rfl⟩, step_refl _ _, unt_refl _ _ _ _⟩, fun _ hb => by cases hb; simp, .refl _ _⟩

theorem rp_drop {l : List D} {b off k : Nat} (hv : ∃ vs : Nat → Value, ∀ j (h : j < l.length), w.cell? (at_ b (off + j)) = some (vs j) ∧ G.fz b (off + j) ∧ Ro G w l[j] (vs j) ∧ ∀ q, l[j] ≠ .agg q) :
    ∃ vs : Nat → Value, ∀ j (h : j < (l.drop k).length), w.cell? (at_ b (off + k + j)) = some (vs j) ∧ G.fz b (off + k + j) ∧ Ro G w (l.drop k)[j] (vs j) ∧ ∀ q, (l.drop k)[j] ≠ .agg q := by
  obtain ⟨vs, hv⟩ := hv
  refine ⟨fun j => vs (k + j), fun j hj => ?_⟩
  have := hv (k + j) (by simp at hj; omega)
  rw [Nat.add_assoc, List.getElem_drop]
  exact this

theorem fieldAddr_ok {C : CallT} {ds : List Nat} {o : Oper} {x : Operand} {sT f : Nat} {d : D} {ps : List Pl} {s : St} (tk : TOk P T) (r : Rel G w st tmps) (ho : o.op = .fieldAddr sT x f) (h : opV C T base ds o st = some (d, ps, s)) : Good P base G w st tmps o d ps s := by
  unfold opV at h
  simp only [ho] at h
  have hd := tk.desc sT
  split at h
  · rename_i fs z hT
    rw [hT] at hd
    obtain ⟨fields, hd, _, hf⟩ := hd
    split at h
    · rename_i off n ty hfs
      obtain ⟨fl, i, h1, h2, h3, h4, h5⟩ := hf f _ hfs
      simp only at h2 h3 h5
      split at h
      · cases h
      · rename_i hn
        have run : ∀ (b o' : Nat), ev tmps x = .pointer (some (at_ b o')) → (execOp (ev tmps) o).run P w = .ok (.value (.pointer (some (at_ b (o' + off))))) w := by
          intro b o' hx
          have hsz : i.size ≠ 0 := by omega
          simp only [execOp, ho, hx, Instr.fieldAt, Sem.run_bind, run_underlying hd, Result.andThen_ok, h1, Instr.sureAddr, Sem.run_pure, fieldPlace, Go.sizeOf, typeInfo, run_program, h4, Sem.run_ite, if_neg hsz, h2, add_at]
        split at h
        · rename_i loc o' hs
          obtain ⟨b, hb, hx⟩ := see_ptr r hs
          simp only [Option.some.injEq, Prod.mk.injEq] at h
          obtain ⟨rfl, rfl, rfl⟩ := h
          exact good_ptr r hb (run b o' hx)
        · rename_i l hs
          obtain ⟨b, o', hx, hv⟩ := see_rp r hs
          simp only [Option.some.injEq, Prod.mk.injEq] at h
          obtain ⟨rfl, rfl, rfl⟩ := h
          exact good_rp r (rp_drop hv) (run b o' hx)
        · rename_i p m i' o' hs
          obtain ⟨b, o'', len, cap, hp, hx⟩ := see_ea r hs
          simp only [Option.some.injEq, Prod.mk.injEq] at h
          obtain ⟨rfl, rfl, rfl⟩ := h
          refine good_ea r hp ?_
          rw [← Nat.add_assoc]
          exact run b _ hx
        · cases h
    · cases h
  · cases h

theorem intD_eq {d : D} {i : Int} (h : intD d = some i) : ∃ k, d = .int k i := by
  cases d <;> first | (simp [intD] at h; done) | skip
  rename_i k n
  simp only [intD, Option.some.injEq] at h
  exact ⟨k, by rw [h]⟩

theorem see_intD (r : Rel G w st tmps) {ty : Nat} {x : Operand} {i : Int} (h : intD (st.see T ty x) = some i) : ∃ k, ev tmps x = .int k i := by
  obtain ⟨k, e⟩ := intD_eq h
  exact ⟨k, see_int r e⟩

/-- A slice's element's address. -/
theorem elem_rp {κ : Key} {f n : Nat} {l : List (List D)} {v : Value} (h : Leaf G w tmps κ (.sl f n l) v) (hf : f ≠ 2) {i : Nat} (hi : i < l.length) :
    ∃ b o cap, v = .slice (some (at_ b o)) l.length cap ∧ ∃ vs : Nat → Value, ∀ j (h : j < (l.getD i []).length), w.cell? (at_ b (o + i * n + j)) = some (vs j) ∧ G.fz b (o + i * n + j) ∧ Ro G w (l.getD i [])[j] (vs j) ∧ ∀ q, (l.getD i [])[j] ≠ .agg q := by
  have key : ∀ (v : Value), Ro G w (.sl 0 n l) v → ∃ b o cap, v = .slice (some (at_ b o)) l.length cap ∧ ∃ vs : Nat → Value, ∀ j (h : j < (l.getD i []).length), w.cell? (at_ b (o + i * n + j)) = some (vs j) ∧ G.fz b (o + i * n + j) ∧ Ro G w (l.getD i [])[j] (vs j) ∧ ∀ q, (l.getD i [])[j] ≠ .agg q := by
    intro v hr
    cases hr with
    | nils n => simp at hi
    | nila n a cap => simp at hi
    | sl n l b o cap vs hcap hn hc hv =>
      refine ⟨b, o, cap, rfl, vs i, fun j hj => ?_⟩
      have e : l.getD i [] = l[i] := getD_lt hi
      obtain ⟨h1, h2⟩ := hn _ (List.getElem_mem hi)
      have hj2 : j < l[i].length := by rw [e] at hj; exact hj
      refine ⟨(hc i j hi (by omega)).1, (hc i j hi (by omega)).2, ?_, ?_⟩
      · simp only [e]; exact hv i j hi hj2
      · simp only [e]; exact h2 _ (List.getElem_mem _)
  match f, h with
  | 0, h => exact key _ h
  | 1, h => exact key _ (Tip.ro h)
  | 2, _ => exact absurd rfl hf
  | _ + 3, h => exact h.elim

theorem own_head {κ : Key} {n : Nat} {l : List (List D)} {v : Value} (h : Leaf G w tmps κ (.sl 2 n l) v) (hl : l ≠ []) : ∃ b o cap, v = .slice (some (at_ b o)) l.length cap := by
  rcases h with ⟨rfl, _⟩ | ⟨rfl, _⟩ | ⟨b, o, cap, rfl, _⟩
  · exact absurd rfl hl
  · exact absurd rfl hl
  · exact ⟨b, o, cap, rfl⟩

theorem run_indexAt_slice (t : TOk P T) {ty : Nat} {e : El} {z : List D} (hT : T ty = .sl e z) {b o n cap : Nat} {k : IntKind} {i : Int} (h0 : 0 ≤ i) (h1 : i < n) :
    (Instr.indexAt ty (.slice (some (at_ b o)) n cap) (.int k i)).run P w = .ok (.pointer (some (at_ b (o + i.toNat * e.cells)))) w := by
  have hd := t.desc ty
  rw [hT] at hd
  obtain ⟨hd, ii, zv, h2, h3, _⟩ := hd
  have hc : 0 ≤ i ∧ i < (n : Int) := ⟨h0, h1⟩
  simp only [Instr.indexAt, Sem.run_bind, asIntOf, Sem.run_pure, Result.andThen_ok, run_underlying hd, Sem.run_ite, if_pos hc, Go.sizeOf, typeInfo, run_program, h2, h3, add_at]

theorem indexAddr_ok {C : CallT} {ds : List Nat} {o : Oper} {x y : Operand} {ty : Nat} {d : D} {ps : List Pl} {s : St} (tk : TOk P T) (r : Rel G w st tmps) (ho : o.op = .indexAddr ty x y) (h : opV C T base ds o st = some (d, ps, s)) : Good P base G w st tmps o d ps s := by
  unfold opV at h
  simp only [ho] at h
  split at h
  · rename_i i e z hi hT
    obtain ⟨k, hy⟩ := see_intD r hi
    have run : ∀ b o' n cap, ev tmps x = .slice (some (at_ b o')) n cap → 0 ≤ i → i < n → (execOp (ev tmps) o).run P w = .ok (.value (.pointer (some (at_ b (o' + i.toNat * e.cells))))) w := by
      intro b o' n cap hx h0 h1
      have := run_indexAt_slice (P := P) (w := w) tk hT (b := b) (o := o') (cap := cap) (k := k) h0 h1
      simp only [execOp, ho, hx, hy, Sem.run_bind, this, Result.andThen_ok, Sem.run_pure]
    have fin : ∀ (p : Pl) (f n : Nat) (l : List (List D)) (v : Value) (κ : Key), placeV G w tmps p = some v → ev tmps x = v → Leaf G w tmps κ (.sl f n l) v →
        (if n = e.cells ∧ 0 ≤ i ∧ i < l.length then (if f = 2 then some (D.ea p n i.toNat 0, [p], st) else some (.rp (l.getD i.toNat []), [], st)) else none) = some (d, ps, s) → Good P base G w st tmps o d ps s := by
      intro p f n l v κ hp hx hl h
      split at h
      · rename_i hc
        obtain ⟨rfl, h0, h1⟩ := hc
        have hi' : i.toNat < l.length := by omega
        split at h
        · rename_i hf
          subst hf
          simp only [Option.some.injEq, Prod.mk.injEq] at h
          obtain ⟨rfl, rfl, rfl⟩ := h
          obtain ⟨b, o', cap, rfl⟩ := own_head hl (by rintro rfl; simp at hi')
          exact good_ea r hp (run b o' _ cap hx h0 h1)
        · rename_i hf
          simp only [Option.some.injEq, Prod.mk.injEq] at h
          obtain ⟨rfl, rfl, rfl⟩ := h
          obtain ⟨b, o', cap, rfl, hv⟩ := elem_rp hl hf hi'
          exact good_rp r hv (run b o' _ cap hx h0 h1)
      · cases h
    split at h
    · rename_i p hr
      split at h
      · rename_i f n l hat
        have hx : placeV G w tmps p = some (ev tmps x) := by
          cases x with
          | tmp t =>
            simp only [St.raw] at hr
            rcases slot_leaves r t with e | ⟨l, e⟩ | ⟨l, vs, e, _⟩ | ⟨_, hl, _⟩
            · rw [e] at hr; cases hr
            · rw [e] at hr; cases hr
            · rw [e] at hr; cases hr
            · rw [hr] at hl; exact hl
          | const v =>
            simp only [St.raw] at hr
            unfold constD at hr
            split at hr <;> first | cases hr | (split at hr <;> cases hr)
          | func f => cases hr
          | global g => cases hr
        exact fin p f n l _ p.key hx rfl (r.at hat hx) h
      · cases h
    · rename_i f n l hr
      split at h
      · rename_i t ht
        cases x with
        | tmp t' =>
          simp only [tmpOf, Option.some.injEq] at ht
          subst ht
          simp only [St.raw] at hr
          rcases slot_leaves r t' with e | ⟨l, e⟩ | ⟨l, vs, e, _⟩ | ⟨_, hl, hp⟩
          · rw [e] at hr; cases hr
          · rw [e] at hr; cases hr
          · rw [e] at hr; cases hr
          · rw [hr] at hl hp
            exact fin (.s t' 0) f n l _ _ (hp ⟨_, _, _, rfl⟩) rfl hl h
        | const v => cases ht
        | func f => cases ht
        | global g => cases ht
      · cases h
    · cases h
  · rename_i i len n ety z hi hT
    obtain ⟨k, hy⟩ := see_intD r hi
    have hd := tk.desc ty
    rw [hT] at hd
    obtain ⟨hd, ii, h2, h3⟩ := hd
    split at h
    · rename_i hc
      have run : ∀ (b o' : Nat), ev tmps x = .pointer (some (at_ b o')) → (execOp (ev tmps) o).run P w = .ok (.value (.pointer (some (at_ b (o' + i.toNat * n))))) w := by
        intro b o' hx
        simp only [execOp, ho, hx, hy, Instr.indexAt, Sem.run_bind, asIntOf, Sem.run_pure, Result.andThen_ok, run_underlying hd, Instr.sureAddr, Sem.run_ite, if_pos hc, Go.sizeOf, typeInfo, run_program, h2, h3, add_at]
      split at h
      · rename_i loc o' hs
        obtain ⟨b, hb, hx⟩ := see_ptr r hs
        simp only [Option.some.injEq, Prod.mk.injEq] at h
        obtain ⟨rfl, rfl, rfl⟩ := h
        exact good_ptr r hb (run b o' hx)
      · rename_i l hs
        obtain ⟨b, o', hx, hv⟩ := see_rp r hs
        simp only [Option.some.injEq, Prod.mk.injEq] at h
        obtain ⟨rfl, rfl, rfl⟩ := h
        exact good_rp r (rp_drop hv) (run b o' hx)
      · rename_i p m i' o' hs
        obtain ⟨b, o'', ln, cap, hp, hx⟩ := see_ea r hs
        simp only [Option.some.injEq, Prod.mk.injEq] at h
        obtain ⟨rfl, rfl, rfl⟩ := h
        refine good_ea r hp ?_
        rw [← Nat.add_assoc]
        exact run b _ hx
      · cases h
    · cases h
  · cases h

theorem good_one {o : Oper} {d : D} {v : Value} (r : Rel G w st tmps) (he : (execOp (ev tmps) o).run P w = .ok (.value v) w) (h : Ro G w d v) (ha : ∀ l, d ≠ .agg l) {d' : D} {ps : List Pl} {s : St}
    (e : (some d).map (fun d => (d, ([] : List Pl), st)) = some (d', ps, s)) : Good P base G w st tmps o d' ps s := by
  simp only [Option.map_some, Option.some.injEq, Prod.mk.injEq] at e
  obtain ⟨rfl, rfl, rfl⟩ := e
  exact good_ro r he h ha

theorem run_eqGuard_int {op : BinOp} {t : TypeId} {x y : Operand} {a b : Value} (ha : ∀ c, a ≠ .agg c) (hb : a ≠ .nilIface) : (eqGuard op t x y a b).run P w = .ok () w := by
  unfold eqGuard
  cases a <;> first | exact absurd rfl (ha _) | exact absurd rfl hb | skip
  all_goals (simp only []; cases op <;> rfl)

theorem bits_ok (op : BinOp) (k : IntKind) (a b : Int) (h : op = .and ∨ op = .or ∨ op = .xor ∨ op = .andNot) : (Op.intBits op k a b).run P w = .ok (.int k (bitsOf op k a b)) w := by
  rcases h with rfl | rfl | rfl | rfl <;> simp [Op.intBits, bitsOf]

theorem binOp_int {op : BinOp} {t : TypeId} {k k' : IntKind} {a b : Int} {d : D} {ti : TI} (h : binD ti op (.int k a) (.int k' b) = some d) : ∃ v, (binOp op t (.int k a) (.int k' b)).run P w = .ok v w ∧ Ro G w d v ∧ ∀ l, d ≠ .agg l := by
  simp only [binD] at h
  cases op
  case shl =>
    simp only at h
    split at h
    · cases h
    · rename_i hb
      cases h
      exact ⟨_, by simp [binOp, Op.shift, hb], .int _ _, by simp⟩
  case shr =>
    simp only at h
    split at h
    · cases h
    · rename_i hb
      cases h
      exact ⟨_, by simp [binOp, Op.shift, hb], .int _ _, by simp⟩
  case quo =>
    simp only at h
    split at h
    · rename_i hk
      subst hk
      split at h
      · cases h
      · rename_i hb
        cases h
        exact ⟨_, by simp [binOp, Op.intDiv, hb], .int _ _, by simp⟩
    · cases h
  case rem =>
    simp only at h
    split at h
    · rename_i hk
      subst hk
      split at h
      · cases h
      · rename_i hb
        cases h
        exact ⟨_, by simp [binOp, Op.intDiv, hb], .int _ _, by simp⟩
    · cases h
  case add | sub | mul =>
    simp only at h
    split at h
    · rename_i hk
      subst hk
      cases h
      exact ⟨_, by simp [binOp, Op.intArith], .int _ _, by simp⟩
    · cases h
  case and | or | xor | andNot =>
    simp only at h
    split at h
    · rename_i hk
      subst hk
      cases h
      exact ⟨_, by simp only [binOp, ne_eq, not_true_eq_false, if_false]; exact bits_ok _ _ _ _ (by simp), .int _ _, by simp⟩
    · cases h
  all_goals
    simp only at h
    split at h
    · rename_i hk
      subst hk
      cases h
      exact ⟨_, by simp [binOp, Op.intCmp], .bool _, by simp⟩
    · cases h

theorem binOp_str {op : BinOp} {t : TypeId} {a b : ByteArray} {d : D} {ti : TI} (h : binD ti op (.str a) (.str b) = some d) : ∃ v, (binOp op t (.string a) (.string b)).run P w = .ok v w ∧ Ro G w d v ∧ ∀ l, d ≠ .agg l := by
  simp only [binD] at h
  cases op
  case add =>
    simp only at h
    split at h
    · cases h
    · rename_i hb
      cases h
      exact ⟨_, by simp only [binOp, Op.stringOp, if_neg hb, Sem.run_pure], .str _, by simp⟩
  case eql | neq | lss | leq | gtr | geq =>
    cases h
    exact ⟨_, by simp [binOp, Op.stringOp], .bool _, by simp⟩
  all_goals cases h

theorem see_nil_or (r : Rel G w st tmps) {ty : Nat} {x : Operand} {d : D} (h : st.see T ty x = d) (hd : d = .nilp ∨ ∃ l o, d = .ptr l o) : (d = .nilp ∧ ev tmps x = .pointer none) ∨ ∃ l o b, d = .ptr l o ∧ ev tmps x = .pointer (some (at_ b o)) := by
  rcases hd with rfl | ⟨l, o, rfl⟩
  · exact .inl ⟨rfl, see_nilp r h⟩
  · obtain ⟨b, _, hx⟩ := see_ptr r h
    exact .inr ⟨l, o, b, rfl, hx⟩

theorem eqLeaf_ptr {x y : D} {b : Bool} (h : eqLeaf x y = some b) (hx : ∀ k n, x ≠ .int k n) (hb : ∀ b, x ≠ .bool b) (hs : ∀ s, x ≠ .str s) :
    (x = .nilp ∧ y = .nilp ∧ b = true) ∨ ((∃ l o, x = .ptr l o) ∧ y = .nilp ∧ b = false) ∨ (x = .nilp ∧ (∃ l o, y = .ptr l o) ∧ b = false) := by
  cases x <;> first | exact absurd rfl (hx _ _) | exact absurd rfl (hb _) | exact absurd rfl (hs _) | skip
  all_goals (cases y <;> simp [eqLeaf] at h)
  · exact .inr (.inl ⟨⟨_, _, rfl⟩, rfl, h⟩)
  · exact .inr (.inr ⟨rfl, ⟨_, _, rfl⟩, h⟩)
  · exact .inl ⟨rfl, rfl, h⟩

theorem run_equal_ptr {ty : Nat} (tk : TOk P T) (hT : T ty = .ptr) (a b : Option Addr) (h : a = none ∨ b = none) : (Op.equal ty (.pointer a) (.pointer b)).run P w = .ok (a.isNone && b.isNone) w := by
  have hd := tk.desc ty
  rw [hT] at hd
  obtain ⟨e, hd⟩ := hd
  unfold Op.equal Op.maxDepth Op.equalIn
  rcases h with rfl | rfl
  · simp [run_underlying hd]
  · cases a <;> simp [run_underlying hd]

theorem eqGuardIn_plain (tk : TOk P T) : ∀ (k m ty : Nat), k ≤ m → plainT T k ty = true → P.eqGuardType m ty = false
  | 0, _, _, _, h => by cases h
  | _ + 1, 0, _, hm, _ => by omega
  | k + 1, m + 1, ty, hm, h => by
    have ht := tk.desc ty
    simp only [plainT] at h
    revert h
    generalize T ty = ti at ht
    intro h
    cases ti with
    | st fs z =>
      obtain ⟨fields, hu, ⟨hsz, _, _⟩, hf⟩ := ht
      simp only [List.all_eq_true] at h
      unfold Program.eqGuardType
      simp only [hu]
      rw [Array.any_eq_false]
      intro i hi
      have hi2 : i < fs.length := by omega
      obtain ⟨fl, _, h1, _, h3, _⟩ := hf i fs[i] (List.getElem?_eq_getElem hi2)
      rw [Array.getElem?_eq_getElem hi] at h1
      cases h1
      have := eqGuardIn_plain tk k m fs[i].2.2 (by omega) (h _ (List.getElem_mem hi2))
      simp [h3, this]
    | int k => simp only [TDesc] at ht; simp [Program.eqGuardType, ht]
    | bool => simp only [TDesc] at ht; simp [Program.eqGuardType, ht]
    | str => simp only [TDesc] at ht; simp [Program.eqGuardType, ht]
    | ptr => obtain ⟨e, ht⟩ := ht; simp [Program.eqGuardType, ht]
    | _ => cases h

theorem run_eqGuard_agg {op : BinOp} {t : TypeId} {x y : Operand} {a b : Array Value} (h : P.eqGuardType P.depth t = false) : (eqGuard op t x y (.agg a) (.agg b)).run P w = .ok () w := by
  cases op <;> simp [eqGuard, h]

theorem boolOp_run {op : BinOp} {t : TypeId} {u v : Value} {b : Bool} {d : D} (h : boolOp op b = some d) (hi : ∀ k n, u ≠ .int k n) (hs : ∀ s, u ≠ .string s) (hf : ∀ k n, u ≠ .float k n) (hc : ∀ k n m, u ≠ .complex k n m) (he : (Op.equal t u v).run P w = .ok b w) :
    ∃ c, d = .bool c ∧ (binOp op t u v).run P w = .ok (.bool c) w := by
  cases op <;> simp only [boolOp] at h <;> first | (cases h; done) | skip
  · cases h
    refine ⟨b, rfl, ?_⟩
    unfold binOp
    cases u <;> first | exact absurd rfl (hi _ _) | exact absurd rfl (hs _) | exact absurd rfl (hf _ _) | exact absurd rfl (hc _ _ _) | simp [he]
  · cases h
    refine ⟨!b, rfl, ?_⟩
    unfold binOp
    cases u <;> first | exact absurd rfl (hi _ _) | exact absurd rfl (hs _) | exact absurd rfl (hf _ _) | exact absurd rfl (hc _ _ _) | simp [he]

theorem depth_ge (P : Program) : 8 ≤ P.depth := by
  unfold Program.depth Made.depth
  omega

theorem binD_ok {o : Oper} {x y : Operand} {op : BinOp} {ty yt : Nat} {d : D} {ps : List Pl} {s : St} (tk : TOk P T) (r : Rel G w st tmps) (ho : o.op = .binOp op ty x y yt) (h : (binD (T ty) op (st.see T ty x) (st.see T ty y)).map (fun d => (d, ([] : List Pl), st)) = some (d, ps, s)) : Good P base G w st tmps o d ps s := by
  cases hb : binD (T ty) op (st.see T ty x) (st.see T ty y) with
  | none => rw [hb] at h; cases h
  | some d' =>
    rw [hb] at h
    generalize hx : st.see T ty x = dx at hb
    generalize hy : st.see T ty y = dy at hb
    have fin : ∀ (vx vy v : Value), ev tmps x = vx → ev tmps y = vy → (∀ c, vx ≠ .agg c) → vx ≠ .nilIface → (binOp op ty vx vy).run P w = .ok v w → Ro G w d' v → (∀ l, d' ≠ .agg l) → Good P base G w st tmps o d ps s := by
      intro vx vy v ex ey ha hn hr hro hna
      refine good_one r ?_ hro hna h
      simp only [execOp, ho, ex, ey, Sem.run_bind, run_eqGuard_int ha hn, Result.andThen_ok, hr, Sem.run_pure]
    have ptr : (∀ k n, dx ≠ .int k n) → (∀ b, dx ≠ .bool b) → (∀ s, dx ≠ .str s) → (∀ l, dx ≠ .agg l) → Good P base G w st tmps o d ps s := by
      intro h1 h2 h3 h4
      have hTy : T ty = .ptr ∧ ∃ b, eqLeaf dx dy = some b ∧ ((op = .eql ∧ d' = .bool b) ∨ (op = .neq ∧ d' = .bool !b)) := by
        revert hb
        generalize T ty = ti
        intro hb
        cases dx <;> first | exact absurd rfl (h1 _ _) | exact absurd rfl (h2 _) | exact absurd rfl (h3 _) | exact absurd rfl (h4 _) | skip
        all_goals
          cases ti <;> simp only [binD] at hb <;> first | (cases hb; done) | skip
          cases op <;> simp only [Option.map_eq_some_iff] at hb <;> first | (cases hb; done) | skip
          all_goals
            obtain ⟨b, hb, rfl⟩ := hb
            exact ⟨rfl, b, hb, by simp⟩
      obtain ⟨hT, b, hb', hop⟩ := hTy
      have run : ∀ (u v : Option Addr), ev tmps x = .pointer u → ev tmps y = .pointer v → u = none ∨ v = none → (u.isNone && v.isNone) = b → Good P base G w st tmps o d ps s := by
        intro u v hu hv hn hbb
        have he := run_equal_ptr (P := P) (w := w) tk hT u v hn
        rw [hbb] at he
        rcases hop with ⟨rfl, rfl⟩ | ⟨rfl, rfl⟩
        · exact fin _ _ (.bool b) hu hv (by simp) (by simp) (by simp [binOp, he]) (.bool _) (by simp)
        · exact fin _ _ (.bool !b) hu hv (by simp) (by simp) (by simp [binOp, he]) (.bool _) (by simp)
      rcases eqLeaf_ptr hb' h1 h2 h3 with ⟨rfl, rfl, rfl⟩ | ⟨⟨l, o', rfl⟩, rfl, rfl⟩ | ⟨rfl, ⟨l, o', rfl⟩, rfl⟩
      · exact run none none (see_nilp r hx) (see_nilp r hy) (.inl rfl) rfl
      · obtain ⟨b, _, hx⟩ := see_ptr r hx
        exact run _ none hx (see_nilp r hy) (.inr rfl) rfl
      · obtain ⟨b, _, hy⟩ := see_ptr r hy
        exact run none _ (see_nilp r hx) hy (.inl rfl) rfl
    cases dx with
    | int k a =>
      cases dy with
      | int k' b =>
        obtain ⟨v, h1, h2, h3⟩ := binOp_int (P := P) (G := G) (w := w) (t := ty) hb
        exact fin _ _ v (see_int r hx) (see_int r hy) (by simp) (by simp) h1 h2 h3
      | _ =>
        exfalso
        revert hb
        generalize T ty = ti
        intro hb
        cases ti <;> simp only [binD] at hb <;> first | (cases hb; done) | (cases op <;> simp [eqLeaf] at hb)
    | str a =>
      cases dy with
      | str b =>
        obtain ⟨v, h1, h2, h3⟩ := binOp_str (P := P) (G := G) (w := w) (t := ty) hb
        exact fin _ _ v (see_str r hx) (see_str r hy) (by simp) (by simp) h1 h2 h3
      | _ =>
        exfalso
        revert hb
        generalize T ty = ti
        intro hb
        cases ti <;> simp only [binD] at hb <;> first | (cases hb; done) | (cases op <;> simp [eqLeaf] at hb)
    | bool a =>
      cases dy with
      | bool b =>
        have hd := tk.desc ty
        revert hb
        generalize hT : T ty = ti at hd
        intro hb
        cases ti <;> simp only [binD] at hb <;> first | (cases hb; done) | skip
        have he : (Op.equal ty (.bool a) (.bool b)).run P w = .ok (a == b) w := by
          unfold Op.equal Op.maxDepth Op.equalIn
          simp [run_underlying hd]
        cases op <;> simp only [Option.some.injEq] at hb <;> first | (cases hb; done) | skip
        · subst hb
          exact fin _ _ (.bool (a == b)) (see_bool r hx) (see_bool r hy) (by simp) (by simp) (by simp [binOp, he]) (.bool _) (by simp)
        · subst hb
          exact fin _ _ (.bool (a != b)) (see_bool r hx) (see_bool r hy) (by simp) (by simp) (by simp [binOp, he, bne]) (.bool _) (by simp)
      | _ =>
        exfalso
        revert hb
        generalize T ty = ti
        intro hb
        cases ti <;> simp only [binD] at hb <;> first | (cases hb; done) | (cases op <;> simp [eqLeaf] at hb)
    | agg l =>
      exfalso
      revert hb
      generalize T ty = ti
      intro hb
      cases ti <;> cases dy <;> simp only [binD] at hb <;> first | (cases hb; done) | (cases op <;> simp [eqLeaf] at hb)
    | _ => exact ptr (by simp) (by simp) (by simp) (by simp)

theorem nilC_eq {x : Operand} {c : Nat} (h : nilC x = some c) : (c = 0 ∧ x = .const (.slice none 0 0)) ∨ (c = 1 ∧ x = .const .nilFunc) ∨ (c = 2 ∧ x = .const .nilIface) := by
  unfold nilC at h
  split at h <;> cases h <;> simp

/-- What a value is, of which binN speaks. -/
theorem binN_see (r : Rel G w st tmps) {ty c : Nat} {x : Operand} {op : BinOp} {d : D} (h : binN (T ty) op c (st.see T ty x) = some d) :
    (∃ e z a len cap, T ty = .sl e z ∧ c = 0 ∧ ev tmps x = .slice a len cap ∧ (d = .unk ∧ (op = .eql ∨ op = .neq) ∨ ∃ b, a = some b ∧ boolOp op false = some d)) ∨
    (T ty = .fn ∧ c = 1 ∧ ((ev tmps x = .nilFunc ∧ boolOp op true = some d) ∨ ∃ f a b, ev tmps x = .func f a b ∧ boolOp op false = some d)) ∨
    (T ty = .ifc ∧ c = 2 ∧ ((ev tmps x = .nilIface ∧ boolOp op true = some d) ∨ ∃ f a, ev tmps x = .iface f a ∧ boolOp op false = some d)) := by
  generalize hx : st.see T ty x = dx at h
  cases dx with
  | sl f n l =>
    simp only [binN] at h
    split at h
    · rename_i e z hT
      left
      rcases see_sl r hx with ⟨rfl, a, cap, he⟩ | ⟨b, o, cap, he, _⟩
      · simp only at h
        refine ⟨e, z, a, 0, cap, hT, rfl, he, .inl ?_⟩
        cases op <;> simp at h <;> simp [h]
      · refine ⟨e, z, _, _, cap, hT, rfl, he, ?_⟩
        cases l with
        | nil =>
          left
          cases op <;> simp at h <;> simp [h]
        | cons y l => exact .inr ⟨_, rfl, h⟩
    · cases h
  | nilf =>
    simp only [binN] at h
    split at h
    · rename_i hT
      refine .inr (.inl ⟨hT, rfl, .inl ⟨?_, h⟩⟩)
      rcases see_ok T ty r hx (by simp) (by simp) with ⟨l, e, _⟩ | ⟨_, _, κ, hl⟩
      · cases e
      · have hl : Ro G w .nilf _ := hl
        generalize ev tmps x = v at hl ⊢; cases hl; rfl
    · cases h
  | fn f a b =>
    simp only [binN] at h
    split at h
    · rename_i hT
      refine .inr (.inl ⟨hT, rfl, .inr ?_⟩)
      rcases see_ok T ty r hx (by simp) (by simp) with ⟨l, e, _⟩ | ⟨_, _, κ, hl⟩
      · cases e
      · have hl : Ro G w (.fn f a b) _ := hl
        generalize ev tmps x = v at hl ⊢; cases hl; exact ⟨_, _, _, rfl, h⟩
    · cases h
  | nili =>
    simp only [binN] at h
    split at h
    · rename_i hT
      refine .inr (.inr ⟨hT, rfl, .inl ⟨?_, h⟩⟩)
      rcases see_ok T ty r hx (by simp) (by simp) with ⟨l, e, _⟩ | ⟨_, _, κ, hl⟩
      · cases e
      · have hl : Ro G w .nili _ := hl
        generalize ev tmps x = v at hl ⊢; cases hl; rfl
    · cases h
  | iface t a =>
    simp only [binN] at h
    split at h
    · rename_i hT
      refine .inr (.inr ⟨hT, rfl, .inr ?_⟩)
      rcases see_ok T ty r hx (by simp) (by simp) with ⟨l, e, _⟩ | ⟨_, _, κ, hl⟩
      · cases e
      · have hl : Ro G w (.iface t a) _ := hl
        generalize ev tmps x = v at hl ⊢; cases hl; exact ⟨_, _, rfl, h⟩
    · cases h
  | _ => cases h

/-- Both ways round. -/
theorem run_nil (tk : TOk P T) (r : Rel G w st tmps) {ty c : Nat} {x y : Operand} {op : BinOp} {d : D} (h : binN (T ty) op c (st.see T ty x) = some d) (hy : nilC y = some c) :
    ∃ b, Ro G w d (.bool b) ∧ (∀ l, d ≠ .agg l) ∧ (binOp op ty (ev tmps x) (ev tmps y)).run P w = .ok (.bool b) w ∧ (binOp op ty (ev tmps y) (ev tmps x)).run P w = .ok (.bool b) w ∧
      (eqGuard op ty x y (ev tmps x) (ev tmps y)).run P w = .ok () w ∧ (eqGuard op ty y x (ev tmps y) (ev tmps x)).run P w = .ok () w := by
  have ht := tk.desc ty
  have fin : ∀ (u v : Value) (e : Bool), ev tmps x = u → ev tmps y = v → (Op.equal ty u v).run P w = .ok e w → (Op.equal ty v u).run P w = .ok e w → boolOp op e = some d →
      (∀ k n, u ≠ .int k n) → (∀ s, u ≠ .string s) → (∀ k n, u ≠ .float k n) → (∀ k n m, u ≠ .complex k n m) → (∀ k n, v ≠ .int k n) → (∀ s, v ≠ .string s) → (∀ k n, v ≠ .float k n) → (∀ k n m, v ≠ .complex k n m) →
      ∃ b, Ro G w d (.bool b) ∧ (∀ l, d ≠ .agg l) ∧ (binOp op ty u v).run P w = .ok (.bool b) w ∧ (binOp op ty v u).run P w = .ok (.bool b) w := by
    intro u v e _ _ e1 e2 hb a1 a2 a3 a4 b1 b2 b3 b4
    obtain ⟨c1, rfl, r1⟩ := boolOp_run (P := P) (w := w) (t := ty) hb a1 a2 a3 a4 e1
    obtain ⟨c2, h2, r2⟩ := boolOp_run (P := P) (w := w) (t := ty) hb b1 b2 b3 b4 e2
    cases h2
    exact ⟨c1, .bool _, by simp, r1, r2⟩
  rcases binN_see r h with ⟨e, z, a, len, cap, hT, rfl, hx, hc⟩ | ⟨hT, rfl, hc⟩ | ⟨hT, rfl, hc⟩
  · rw [hT] at ht
    have hu := ht.1
    rcases nilC_eq hy with ⟨_, rfl⟩ | ⟨h, _⟩ | ⟨h, _⟩ <;> first | (cases h; done) | skip
    have g1 : (eqGuard op ty x (.const (.slice none 0 0)) (.slice a len cap) (.slice none 0 0)).run P w = .ok () w := by cases op <;> simp [eqGuard]
    have g2 : (eqGuard op ty (.const (.slice none 0 0)) x (.slice none 0 0) (.slice a len cap)).run P w = .ok () w := by cases op <;> simp [eqGuard]
    have e1 : (Op.equal ty (.slice a len cap) (.slice none 0 0)).run P w = .ok a.isNone w := by
      unfold Op.equal Op.maxDepth Op.equalIn
      cases a <;> simp [run_underlying hu]
    have e2 : (Op.equal ty (.slice none 0 0) (.slice a len cap)).run P w = .ok a.isNone w := by
      unfold Op.equal Op.maxDepth Op.equalIn
      cases a <;> simp [run_underlying hu]
    rw [hx]
    simp only [ev]
    rcases hc with ⟨rfl, rfl | rfl⟩ | ⟨b, rfl, hb⟩
    · exact ⟨a.isNone, .unk _, by simp, by simp [binOp, e1], by simp [binOp, e2], g1, g2⟩
    · exact ⟨!a.isNone, .unk _, by simp, by simp [binOp, e1], by simp [binOp, e2], g1, g2⟩
    · obtain ⟨c, q1, q2, q3, q4⟩ := fin _ _ _ hx rfl e1 e2 hb (by simp) (by simp) (by simp) (by simp) (by simp [ev]) (by simp [ev]) (by simp [ev]) (by simp [ev])
      exact ⟨c, q1, q2, q3, q4, g1, g2⟩
  · rw [hT] at ht
    obtain ⟨p1, p2, p3, hu⟩ := ht
    rcases nilC_eq hy with ⟨h, _⟩ | ⟨_, rfl⟩ | ⟨h, _⟩ <;> first | (cases h; done) | skip
    rcases hc with ⟨hx, hb⟩ | ⟨f, a, b, hx, hb⟩
    · rw [hx]
      simp only [ev]
      have e1 : (Op.equal ty .nilFunc .nilFunc).run P w = .ok true w := by
        unfold Op.equal Op.maxDepth Op.equalIn
        simp [run_underlying hu]
      obtain ⟨c, q1, q2, q3, q4⟩ := fin _ _ _ hx rfl e1 e1 hb (by simp) (by simp) (by simp) (by simp) (by simp [ev]) (by simp [ev]) (by simp [ev]) (by simp [ev])
      exact ⟨c, q1, q2, q3, q4, by cases op <;> simp [eqGuard], by cases op <;> simp [eqGuard]⟩
    · rw [hx]
      simp only [ev]
      have e1 : (Op.equal ty (.func f a b) .nilFunc).run P w = .ok false w := by
        unfold Op.equal Op.maxDepth Op.equalIn
        simp [run_underlying hu]
      have e2 : (Op.equal ty .nilFunc (.func f a b)).run P w = .ok false w := by
        unfold Op.equal Op.maxDepth Op.equalIn
        simp [run_underlying hu]
      obtain ⟨c, q1, q2, q3, q4⟩ := fin _ _ _ hx rfl e1 e2 hb (by simp) (by simp) (by simp) (by simp) (by simp [ev]) (by simp [ev]) (by simp [ev]) (by simp [ev])
      exact ⟨c, q1, q2, q3, q4, by cases op <;> simp [eqGuard], by cases op <;> simp [eqGuard]⟩
  · rw [hT] at ht
    obtain ⟨p1, hu⟩ := ht
    rcases nilC_eq hy with ⟨h, _⟩ | ⟨h, _⟩ | ⟨_, rfl⟩ <;> first | (cases h; done) | skip
    rcases hc with ⟨hx, hb⟩ | ⟨f, a, hx, hb⟩
    · rw [hx]
      simp only [ev]
      have e1 : (Op.equal ty .nilIface .nilIface).run P w = .ok true w := by
        unfold Op.equal Op.maxDepth Op.equalIn
        simp [run_underlying hu]
      obtain ⟨c, q1, q2, q3, q4⟩ := fin _ _ _ hx rfl e1 e1 hb (by simp) (by simp) (by simp) (by simp) (by simp [ev]) (by simp [ev]) (by simp [ev]) (by simp [ev])
      exact ⟨c, q1, q2, q3, q4, by cases op <;> simp [eqGuard], by cases op <;> simp [eqGuard]⟩
    · rw [hx]
      simp only [ev]
      have e1 : (Op.equal ty (.iface f a) .nilIface).run P w = .ok false w := by
        unfold Op.equal Op.maxDepth Op.equalIn
        simp [run_underlying hu]
      have e2 : (Op.equal ty .nilIface (.iface f a)).run P w = .ok false w := by
        unfold Op.equal Op.maxDepth Op.equalIn
        simp [run_underlying hu]
      obtain ⟨c, q1, q2, q3, q4⟩ := fin _ _ _ hx rfl e1 e2 hb (by simp) (by simp) (by simp) (by simp) (by simp [ev]) (by simp [ev]) (by simp [ev]) (by simp [ev])
      exact ⟨c, q1, q2, q3, q4, by cases op <;> simp [eqGuard], by cases op <;> simp [eqGuard]⟩

theorem see_agg (r : Rel G w st tmps) {ty : Nat} {x : Operand} {l : List D} (h : st.see T ty x = .agg l) : ∃ vs, ev tmps x = .agg vs ∧ Cl l vs := by
  rcases see_ok T ty r h (by simp) (by simp) with ⟨l', e, hv⟩ | ⟨ha, _⟩
  · obtain ⟨vs, h1, h2, h3⟩ := hv
    exact ⟨vs, h1, h2, fun j hj hj' => leaf_lf (h3 j hj hj')⟩
  · exact absurd rfl (ha _)

theorem binOp_ok {C : CallT} {ds : List Nat} {o : Oper} {x y : Operand} {op : BinOp} {ty yt : Nat} {d : D} {ps : List Pl} {s : St} (tk : TOk P T) (r : Rel G w st tmps) (ho : o.op = .binOp op ty x y yt) (h : opV C T base ds o st = some (d, ps, s)) : Good P base G w st tmps o d ps s := by
  unfold opV at h
  simp only [ho] at h
  unfold binO at h
  split at h
  · rename_i c hc
    cases hb : binN (T ty) op c (st.see T ty x) with
    | none => rw [hb] at h; cases h
    | some d' =>
      rw [hb] at h
      obtain ⟨b, h1, h2, h3, _, h5, _⟩ := run_nil tk r hb hc
      exact good_one r (by simp only [execOp, ho, Sem.run_bind, h5, Result.andThen_ok, h3, Sem.run_pure]) h1 h2 h
  · rename_i c _ hc
    cases hb : binN (T ty) op c (st.see T ty y) with
    | none => rw [hb] at h; cases h
    | some d' =>
      rw [hb] at h
      obtain ⟨b, h1, h2, _, h4, _, h6⟩ := run_nil tk r hb hc
      exact good_one r (by simp only [execOp, ho, Sem.run_bind, h6, Result.andThen_ok, h4, Sem.run_pure]) h1 h2 h
  · unfold binA at h
    split at h
    · rename_i a b hx hy
      split at h
      · rename_i hp
        obtain ⟨hp, hag⟩ := hp
        cases he : eqD T 8 ty a b with
        | none => rw [he] at h; cases h
        | some e =>
          rw [he] at h
          simp only [Option.bind_some] at h
          cases hb : boolOp op e with
          | none => rw [hb] at h; cases h
          | some d' =>
            rw [hb] at h
            obtain ⟨va, h1, h2⟩ := see_agg r hx
            obtain ⟨vb, h3, h4⟩ := see_agg r hy
            have key := eqD_ok (w := w) tk 8 Op.maxDepth ty a b e (by decide) he va vb h2 h4
            rw [hag] at key
            simp only [asV, if_true] at key
            obtain ⟨c, rfl, h5⟩ := boolOp_run (P := P) (w := w) (t := ty) hb (by simp) (by simp) (by simp) (by simp) key
            have hg := eqGuardIn_plain tk 8 P.depth ty (depth_ge P) hp
            exact good_one r (by simp only [execOp, ho, h1, h3, Sem.run_bind, run_eqGuard_agg hg, Result.andThen_ok, h5, Sem.run_pure]) (.bool _) (by simp) h
      · cases h
    · exact binD_ok tk r ho h

end Go.PI
