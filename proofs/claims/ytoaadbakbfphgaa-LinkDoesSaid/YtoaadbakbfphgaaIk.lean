/- Further operations that leave memory as it is. -/
import Derived.Test.YtoaadbakbfphgaaIj
namespace Go.PI
open Go

variable {P : Program} {base : Nat} {G : Gh} {w : World} {st : St} {tmps : Array Value} {T : Nat → TI}

theorem unOp_ok {C : CallT} {ds : List Nat} {o : Oper} {x : Operand} {op : UnOp} {ty : Nat} {d : D} {ps : List Pl} {s : St} (r : Rel G w st tmps) (ho : o.op = .unOp op ty x) (h : opV C T base ds o st = some (d, ps, s)) : Good P base G w st tmps o d ps s := by
  unfold opV at h
  simp only [ho] at h
  cases hb : unD op (st.see T ty x) with
  | none => rw [hb] at h; cases h
  | some d' =>
    rw [hb] at h
    generalize hx : st.see T ty x = dx at hb
    cases dx <;> simp only [unD] at hb <;> first | (cases hb; done) | skip
    · rename_i k n
      cases op <;> simp only [Option.some.injEq] at hb <;> first | (cases hb; done) | skip
      · subst hb
        exact good_one r (by simp [execOp, ho, see_int r hx, Op.unary, Op.intArith]) (.int _ _) (by simp) h
      · subst hb
        refine good_one r (v := .int k (bitsOf .xor k (if k.signed then -1 else k.max) n)) ?_ (.int _ _) (by simp) h
        have := bits_ok (P := P) (w := w) .xor k (if k.signed then -1 else k.max) n (by simp)
        simp only [execOp, ho, see_int r hx, Op.unary, Sem.run_bind, this, Result.andThen_ok, Sem.run_pure]
    · cases op <;> simp only [Option.some.injEq] at hb <;> first | (cases hb; done) | skip
      subst hb
      exact good_one r (by simp [execOp, ho, see_bool r hx, Op.unary]) (.bool _) (by simp) h
    · cases op <;> simp only [Option.some.injEq] at hb <;> first | (cases hb; done) | skip
      subst hb
      obtain ⟨b, hb⟩ := see_unk r hx
      exact good_one r (v := .bool !b) (by simp [execOp, ho, hb, Op.unary]) (.unk _) (by simp) h

theorem pick_ok {C : CallT} {ds : List Nat} {o : Oper} {c x y : Operand} {d : D} {ps : List Pl} {s : St} (r : Rel G w st tmps) (ho : o.op = .pick c x y) (h : opV C T base ds o st = some (d, ps, s)) : Good P base G w st tmps o d ps s := by
  unfold opV at h
  simp only [ho] at h
  split at h
  · rename_i b hc
    have hb := see_bool r hc
    simp only [Option.map_eq_some_iff, Prod.mk.injEq] at h
    obtain ⟨⟨d', s'⟩, h1, rfl, rfl, rfl⟩ := h
    refine good_use (x := if b then x else y) r ?_ h1
    cases b <;> simp [execOp, ho, hb, asBool]
  · cases h

theorem nilCheck_ok {C : CallT} {ds : List Nat} {o : Oper} {x : Operand} {d : D} {ps : List Pl} {s : St} (r : Rel G w st tmps) (ho : o.op = .nilCheck x) (h : opV C T base ds o st = some (d, ps, s)) : Good P base G w st tmps o d ps s := by
  unfold opV at h
  simp only [ho] at h
  split at h
  · rename_i loc off hs
    obtain ⟨b, hb, hx⟩ := see_ptr r hs
    simp only [Option.some.injEq, Prod.mk.injEq] at h
    obtain ⟨rfl, rfl, rfl⟩ := h
    exact good_ptr r hb (by simp [execOp, ho, hx])
  · cases h

theorem index_ok {C : CallT} {ds : List Nat} {o : Oper} {x y : Operand} {ty : Nat} {d : D} {ps : List Pl} {s : St} (tk : TOk P T) (r : Rel G w st tmps) (ho : o.op = .index ty x y) (h : opV C T base ds o st = some (d, ps, s)) : Good P base G w st tmps o d ps s := by
  unfold opV at h
  simp only [ho] at h
  split at h
  · rename_i i b hi hT hs
    obtain ⟨k, hy⟩ := see_intD r hi
    have hx := see_str r hs
    have hd := tk.desc ty
    rw [hT] at hd
    split at h
    · rename_i hc
      simp only [Option.some.injEq, Prod.mk.injEq] at h
      obtain ⟨rfl, rfl, rfl⟩ := h
      refine good_ro r ?_ (.int _ _) (by simp)
      have h1 : i.toNat < b.size := by omega
      have he : b[i.toNat]? = some (b[i.toNat]'h1) := by simp [h1]
      simp only [execOp, ho, hx, hy, Instr.index, Sem.run_bind, asIntOf, Sem.run_pure, Result.andThen_ok, run_underlying hd, if_pos hc.1, he]
    · cases h
  · cases h

theorem optD_eq {hi : Option Operand} {d : Int} {n : Int} (h : (match hi with | some h => intD (st.see T 3 h) | none => some d) = some n) (r : Rel G w st tmps) :
    (hi = none ∧ n = d) ∨ ∃ x k, hi = some x ∧ ev tmps x = .int k n := by
  cases hi with
  | none => cases h; exact .inl ⟨rfl, rfl⟩
  | some x =>
    obtain ⟨k, hk⟩ := see_intD r h
    exact .inr ⟨x, k, rfl, hk⟩

theorem run_bounds {isSlice : Bool} {len cap : Nat} {lo hi : Option Value} {l h : Int} (hl : (lo = none ∧ l = 0) ∨ ∃ k, lo = some (.int k l)) (hh : (hi = none ∧ h = len) ∨ ∃ k, hi = some (.int k h)) (h0 : 0 ≤ l) (h1 : l ≤ h) (h2 : h ≤ cap) :
    (Instr.sliceBounds isSlice len cap lo hi none).run P w = .ok (l.toNat, h.toNat, cap) w := by
  rcases hh with ⟨rfl, rfl⟩ | ⟨kh, rfl⟩ <;> rcases hl with ⟨rfl, rfl⟩ | ⟨kl, rfl⟩
  · simp [Instr.sliceBounds]
  · have := run_sliceBound (P := P) w kl l len .sliceB h0 h1
    simp [Instr.sliceBounds, this]
  · have := run_sliceBound (P := P) w kh h cap (if isSlice then .sliceAcap else .sliceAlen) (by omega) h2
    simp [Instr.sliceBounds, this]
  · have a1 := run_sliceBound (P := P) w kh h cap (if isSlice then .sliceAcap else .sliceAlen) (by omega) h2
    have a2 := run_sliceBound (P := P) w kl l h.toNat .sliceB h0 (by omega)
    simp [Instr.sliceBounds, a1, a2]

theorem slice_ok {C : CallT} {ds : List Nat} {o : Oper} {x : Operand} {ty : Nat} {lo hi mx : Option Operand} {d : D} {ps : List Pl} {s : St} (tk : TOk P T) (r : Rel G w st tmps) (ho : o.op = .slice ty x lo hi mx) (h : opV C T base ds o st = some (d, ps, s)) : Good P base G w st tmps o d ps s := by
  unfold opV at h
  simp only [ho] at h
  have hd := tk.desc ty
  have mapv : ∀ {y : Option Operand} {n d : Int}, ((y = none ∧ n = d) ∨ ∃ x k, y = some x ∧ ev tmps x = .int k n) → (y.map (ev tmps) = none ∧ n = d) ∨ ∃ k, y.map (ev tmps) = some (.int k n) := by
    rintro y n d (⟨rfl, rfl⟩ | ⟨x, k, rfl, e⟩)
    · exact .inl ⟨rfl, rfl⟩
    · exact .inr ⟨k, by simp [e]⟩
  split at h
  · rename_i hT
    rw [hT] at hd
    split at h
    · rename_i b hs
      have hx := see_str r hs
      split at h
      · rename_i hh ll e1 e2
        split at h
        · rename_i hc
          obtain ⟨h0, h1, h2⟩ := hc
          simp only [Option.some.injEq, Prod.mk.injEq] at h
          obtain ⟨rfl, rfl, rfl⟩ := h
          refine good_ro r (v := .string (b.extract ll.toNat hh.toNat)) ?_ (.str _) (by simp)
          have hb := run_bounds (P := P) (w := w) (isSlice := false) (len := b.size) (cap := b.size) (mapv (optD_eq e2 r)) (mapv (optD_eq e1 r)) h0 h1 h2
          simp only [execOp, ho, hx, Option.map_none, Instr.sliceAt, Sem.run_bind, run_underlying hd, Result.andThen_ok, Instr.slice, Option.isSome_none, Bool.false_eq_true, if_false, hb, Sem.run_pure]
        · cases h
      · cases h
    · cases h
  · rename_i e z hT
    rw [hT] at hd
    obtain ⟨hd, ii, zv, i1, i2, _⟩ := hd
    split at h
    · rename_i f n l s' hu
      obtain ⟨G', r', s1, b1, g1, ro, _⟩ := use_ok base T ty r hu
      split at h
      · rename_i hh ll e1 e2
        split at h
        · rename_i hc
          obtain ⟨rfl, h0, h1, h2⟩ := hc
          simp only [Option.some.injEq, Prod.mk.injEq] at h
          obtain ⟨rfl, rfl, rfl⟩ := h
          have fin : ∀ v, (execOp (ev tmps) o).run P w = .ok (.value v) w → Ro G' w (.sl 0 e.cells ((l.take hh.toNat).drop ll.toNat)) v → Good P base G w st tmps o (.sl 0 e.cells ((l.take hh.toNat).drop ll.toNat)) [] s' := by
            intro v hr hro
            exact ⟨⟨v, w, G', hr, r', hro, s1, unt_refl _ _ _ _⟩, fun _ hb => hb.elim, g1⟩
          generalize hv : ev tmps x = v at ro
          have run : ∀ a len cap, v = .slice a len cap → hh ≤ cap → len ≤ cap → ((len : Int) = l.length) → (execOp (ev tmps) o).run P w = .ok (.value (.slice (if cap = ll.toNat then a else a.map (·.add (ll.toNat * e.cells))) (hh.toNat - ll.toNat) (cap - ll.toNat))) w := by
            intro a len cap e' hcap hlc hlen
            have hb := run_bounds (P := P) (w := w) (isSlice := true) (len := len) (cap := cap) (mapv (optD_eq e2 r)) (mapv (by rw [hlen]; exact optD_eq e1 r)) h0 h1 hcap
            simp only [execOp, ho, hv, e', Option.map_none, Instr.sliceAt, Sem.run_bind, run_underlying hd, Result.andThen_ok, Instr.slice, hb, Sem.run_pure, Go.sizeOf, typeInfo, run_program, i1, i2]
          have hf0 : f = 0 := by cases ro <;> rfl
          subst hf0
          cases ro with
          | nils n =>
            have e3 : hh = 0 := by simp at h2; omega
            have e4 : ll = 0 := by omega
            subst e3 e4
            refine fin _ (run none 0 0 rfl (by omega) (by omega) rfl) ?_
            simpa using Ro.nils e.cells
          | nila n a cap =>
            have e3 : hh = 0 := by simp at h2; omega
            have e4 : ll = 0 := by omega
            subst e3 e4
            have he := run (some a) 0 cap rfl (by omega) (by omega) rfl
            refine fin _ he ?_
            split
            · simpa using Ro.nila e.cells a _
            · simpa using Ro.nila e.cells (a.add (0 * e.cells)) _
          | sl n l b o' cap vs hcap hn hc hv' =>
            have he := run (some (at_ b o')) l.length cap rfl (by omega) hcap rfl
            have hlen : ((l.take hh.toNat).drop ll.toNat).length = hh.toNat - ll.toNat := by simp; omega
            by_cases hl : cap = ll.toNat
            · rw [if_pos hl] at he
              refine fin _ he ?_
              have e0 : (l.take hh.toNat).drop ll.toNat = [] := List.eq_nil_of_length_eq_zero (by omega)
              rw [← hlen, e0]
              exact .sl e.cells [] b o' _ (fun _ _ => default) (by simp) (by simp) (by simp) (by simp)
            · rw [if_neg hl] at he
              refine fin _ he ?_
              rw [← hlen]
              simp only [Option.map_some, add_at]
              refine .sl e.cells _ b _ _ (fun i j => vs (ll.toNat + i) j) (by rw [hlen]; omega) (fun x hx => hn x (List.mem_of_mem_take (List.mem_of_mem_drop hx))) (fun i j hi hj => ?_) (fun i j hi hj => ?_)
              · have := hc (ll.toNat + i) j (by omega) hj
                rw [show o' + (ll.toNat + i) * e.cells + j = o' + ll.toNat * e.cells + i * e.cells + j by rw [Nat.add_mul]; omega] at this
                exact this
              · have := hv' (ll.toNat + i) j (by omega) (by simpa using hj)
                simpa using this
        · cases h
      · cases h
    · cases h
  · cases h

end Go.PI
