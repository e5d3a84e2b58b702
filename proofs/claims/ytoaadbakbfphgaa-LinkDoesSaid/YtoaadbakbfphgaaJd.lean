/- Steps of open regions change places. -/
import Derived.Test.YtoaadbakbfphgaaJc
namespace Go.PI
open Go

variable {C : CallT} {T : Nat → TI} {base : Nat} {ds : List Nat} {o : Oper} {s s2 s1 : St} {d : D} {ps : List Pl}

def St.mem (s : St) : List (List D) × List Nat × Bool := (s.bx, s.dirty, s.up)

theorem callG_same {g : Nat} {args : List D} {a c s1 : St} (hl : a.ln = []) (hl2 : c.ln = []) (hm : c.mem = a.mem) (hq : s1.mem = a.mem) (h : callG C base g args a = some (d, ps, s1)) : s1 = a ∧ callG C base g args c = some (d, ps, c) := by
  have fg : ∀ (s : St) (q : Pl → Bool), s.ln = [] → s.forget q = s := by
    intro s q h
    unfold St.forget
    rw [h]
  simp only [St.mem, Prod.mk.injEq] at hm hq
  obtain ⟨m1, m2, m3⟩ := hm
  unfold callG at h ⊢
  rw [m1]
  split at h
  · rename_i r bx di up e
    simp only [fg _ _ hl, fg _ _ hl2] at h ⊢
    simp only [Option.some.injEq, Prod.mk.injEq] at h
    obtain ⟨rfl, rfl, rfl⟩ := h
    simp only at hq
    obtain ⟨q1, q2, q3⟩ := hq
    subst q1
    refine ⟨?_, ?_⟩
    · cases a; simp_all
    · simp only [Option.some.injEq, Prod.mk.injEq, true_and]
      rw [m2, m3, q2, q3, ← m1, ← m2, ← m3]
  · cases h

theorem args_mem : ∀ (as : List Operand) (ts : List Nat) (t : Nat), t ∈ tmpsL ((as.zip ts).map (·.1)) → t ∈ tmpsL as
  | [], ts, t, ht => by simp [tmpsL] at ht
  | x :: r, [], t, ht => by simp [tmpsL] at ht
  | x :: r, u :: us, t, ht => by
    rw [List.zip_cons_cons, List.map_cons] at ht
    rcases tmpsL_cons.mp ht with ht | ht
    · exact tmpsL_cons.mpr (.inl ht)
    · exact tmpsL_cons.mpr (.inr (args_mem r us t ht))

theorem vg_callQ {c : Call} {f : Operand} (ho : o.op = .call c) (hf : c.callee = .value f) (hl : s.ln = []) (hl2 : s2.ln = []) (hm : s2.mem = s.mem) (hq : s1.mem = s.mem) (ha : Ag (opRd o.op) s s2) (hn : NB (opRd o.op) s) (h : opV C T base ds o s = some (d, ps, s1)) : Vg C T base ds o s s2 s1 d ps := by
  have hr : opRd o.op = tmpsL [f] ++ tmpsL c.args.toList := by rw [ho]; simp [opRd, hf]
  have hw : opWr ds o.op = tmpsL c.args.toList := by rw [ho]; simp [opWr, hf]
  rw [hr] at ha hn
  have e1 := (see_cg T 0 f (fun k hk => List.mem_append.mpr (.inl (tmpsL_cons.mpr (.inl hk)))) ha hn).1
  refine vg_of hr hw ?_
  unfold opV at h ⊢
  simp only [ho, callV, hf] at h ⊢
  rw [e1]
  split at h
  · rename_i g first cap hs
    split at h
    · rename_i vs a hu
      obtain ⟨s3, f1, f2, f3, f4, f5⟩ := uses_cg base T (c.args.toList.zip c.argTypes.toList) (X := tmpsL [f] ++ tmpsL c.args.toList) (W := tmpsL c.args.toList) (fun t ht => ⟨List.mem_append.mpr (.inr (args_mem _ _ _ ht)), args_mem _ _ _ ht⟩) s s2 _ _ ha hn hu
      simp only at f1
      simp only [f1]
      have ma : a.mem = s.mem := by simp [St.mem, f4.bx, f4.dirty, f4.up]
      have mc : s3.mem = a.mem := by rw [ma, ← hm]; simp [St.mem, f5.bx, f5.dirty, f5.up]
      split at h
      · rename_i hc
        simp only [hc, if_true]
        have cg : callG C base g (first ++ vs ++ cap) a = some (d, ps, s1) → callG C base g (first ++ vs ++ cap) s3 = some (d, ps, s3) ∧ s1 = a := fun h => by
          obtain ⟨e, h2⟩ := callG_same (f4.ln.trans hl) (f5.ln.trans hl2) mc (hq.trans ma.symm) h
          exact ⟨h2, e⟩
        unfold callS at h ⊢
        split at h
        · split at h
          · split at h
            · simp only [Option.some.injEq, Prod.mk.injEq] at h ⊢
              obtain ⟨rfl, rfl, rfl⟩ := h
              exact ⟨s3, ⟨rfl, rfl, rfl⟩, f2, f3, f4, f5⟩
            · obtain ⟨h1, rfl⟩ := cg h
              exact ⟨s3, h1, f2, f3, f4, f5⟩
          · obtain ⟨h1, rfl⟩ := cg h
            exact ⟨s3, h1, f2, f3, f4, f5⟩
        · obtain ⟨h1, rfl⟩ := cg h
          exact ⟨s3, h1, f2, f3, f4, f5⟩
      · cases h
    · cases h
  · cases h

theorem wr_rd (t : Nat) (h : t ∈ opWr ds o.op) : t ∈ opRd o.op := by
  cases ho : o.op with
  | move x =>
    rw [ho] at h
    exact (List.mem_filter.mp h).1
  | pick a b c => rw [ho] at h; exact tmpsL_cons.mpr (.inr h)
  | slice ty x lo hi mx =>
    rw [ho] at h
    rcases tmpsL_cons.mp h with h | h
    · exact tmpsL_cons.mpr (.inl h)
    · simp [tmpsL] at h
  | store ty a x => rw [ho] at h; exact tmpsL_cons.mpr (.inr h)
  | call c =>
    rw [ho] at h
    simp only [opWr] at h
    simp only [opRd]
    split at h
    · exact List.mem_append.mpr (.inr h)
    · exact List.mem_append.mpr (.inr h)
    · simp at h
  | _ =>
    rw [ho] at h
    first | exact h | (simp [opWr] at h)

/-- All operations that leave boxes alone. -/
theorem opV_cg {pc : Bool} (hk : opKind o.op ≤ 2) (hl : s.ln = []) (hl2 : s2.ln = []) (hp : pc = true → pureCall C T base o s = true) (hc : opKind o.op = 1 → pc = false → s2.mem = s.mem) (hm : ∀ ty x loc off, o.op = .load ty x → s.see T ty x = .ptr loc off → s.box loc ≠ [] → s2.box loc = s.box loc) (hq : s1.mem = s.mem)
    (ha : Ag (opRd o.op) s s2) (hn : NB (opRd o.op) s) (h : opV C T base ds o s = some (d, ps, s1)) : Vg C T base ds o s s2 s1 d ps := by
  cases ho : o.op with
  | move x => exact vg_move ho ha hn h
  | assign x => exact vg_assign ho ha hn h
  | nilCheck x => exact vg_nilCheck ho ha hn h
  | fieldAddr a x f => exact vg_fieldAddr ho ha hn h
  | field a x f => exact vg_field ho ha hn h
  | extract x i => exact vg_extract ho ha hn h
  | unOp a b x => exact vg_unOp ho ha hn h
  | convert a b x => exact vg_convert ho ha hn h
  | pick a b x => exact vg_pick ho ha hn h
  | indexAddr a x i => exact vg_indexAddr ho ha hn h
  | index a x i => exact vg_index ho ha hn h
  | slice a x lo hi mx => exact vg_slice ho ha hn h
  | binOp a b x y c => exact vg_binOp ho ha hn h
  | build a b => exact vg_build ho ha hn h
  | buildSlice a b c => exact vg_buildSlice ho ha hn h
  | makeFunc a b c => exact vg_makeFunc ho ha hn h
  | load a x => exact vg_load ho (fun loc off hs hne => hm a x loc off ho hs hne) ha hn h
  | call c =>
    cases hf : c.callee with
    | builtin b => exact vg_builtin ho hf ha hn h
    | value f =>
      cases pc with
      | true => exact vg_call ho hf (hp rfl) ha hn h
      | false => exact vg_callQ ho hf hl hl2 (hc (by rw [ho]; simp [opKind, hf]) rfl) hq ha hn h
    | _ => rw [ho] at hk; simp [opKind, hf] at hk
  | _ => rw [ho] at hk; simp [opKind] at hk

end Go.PI
