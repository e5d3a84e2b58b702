/- What an operation looks at alone decides what it does: those that use or take. -/
import Derived.Test.YtoaadbakbfphgaaJb
namespace Go.PI
open Go

variable {C : CallT} {T : Nat → TI} {base : Nat} {ds : List Nat} {o : Oper} {s s2 s1 : St} {d : D} {ps : List Pl}

theorem tmpsL_append {a b : List Operand} {t : Nat} : t ∈ tmpsL (a ++ b) ↔ t ∈ tmpsL a ∨ t ∈ tmpsL b := by simp [tmpsL]

theorem vg_pick {c x y : Operand} (ho : o.op = .pick c x y) (ha : Ag (opRd o.op) s s2) (hn : NB (opRd o.op) s) (h : opV C T base ds o s = some (d, ps, s1)) : Vg C T base ds o s s2 s1 d ps := by
  have hr : opRd o.op = tmpsL [c, x, y] := by rw [ho]; rfl
  have hw : opWr ds o.op = tmpsL [x, y] := by rw [ho]; rfl
  rw [hr] at ha hn
  obtain ⟨e1, _, _⟩ := see_cg T 0 c (fun t ht => tmpsL_cons.mpr (.inl ht)) ha hn
  refine vg_of hr hw ?_
  unfold opV at h ⊢
  simp only [ho, e1] at h ⊢
  split at h
  · rename_i b hs
    refine Cg.plain (F := fun s => s.use base T o.type (if b = true then x else y)) (use_cg base T o.type _ fun t ht => ?_) ha hn h
    cases b
    · exact ⟨tmpsL_cons.mpr (.inr (tmpsL_cons.mpr (.inr (tmpsL_cons.mpr (.inl ht))))), tmpsL_cons.mpr (.inr (tmpsL_cons.mpr (.inl ht)))⟩
    · exact ⟨tmpsL_cons.mpr (.inr (tmpsL_cons.mpr (.inl ht))), tmpsL_cons.mpr (.inl ht)⟩
  · cases h

theorem vg_field {x : Operand} {ty f : Nat} (ho : o.op = .field ty x f) (ha : Ag (opRd o.op) s s2) (hn : NB (opRd o.op) s) (h : opV C T base ds o s = some (d, ps, s1)) : Vg C T base ds o s s2 s1 d ps := by
  have hr : opRd o.op = tmpsL [x] := by rw [ho]; rfl
  have hw : opWr ds o.op = tmpsL [x] := by rw [ho]; rfl
  rw [hr] at ha hn
  refine vg_of hr hw ?_
  unfold opV at h ⊢
  simp only [ho] at h ⊢
  cases hu : s.use base T ty x with
  | none => rw [hu] at h; revert h; cases T ty <;> simp
  | some r =>
    obtain ⟨d', a⟩ := r
    obtain ⟨s3, f1, f2, f3, f4, f5⟩ := use_cg (X := tmpsL [x]) (W := tmpsL [x]) base T ty x (fun t ht => ⟨tmpsL_cons.mpr (.inl ht), tmpsL_cons.mpr (.inl ht)⟩) s s2 _ _ ha hn hu
    simp only at f1
    rw [hu] at h
    rw [f1]
    revert h
    cases T ty with
    | st fs z =>
      cases d' with
      | agg l =>
        simp only
        split
        · split
          · intro h
            simp only [Option.some.injEq, Prod.mk.injEq] at h ⊢
            obtain ⟨rfl, rfl, rfl⟩ := h
            exact ⟨s3, ⟨rfl, rfl, rfl⟩, f2, f3, f4, f5⟩
          · intro h; cases h
        · intro h; cases h
      | _ => intro h; cases h
    | _ => intro h; cases h

theorem vg_slice {x : Operand} {lo hi mx : Option Operand} {ty : Nat} (ho : o.op = .slice ty x lo hi mx) (ha : Ag (opRd o.op) s s2) (hn : NB (opRd o.op) s) (h : opV C T base ds o s = some (d, ps, s1)) : Vg C T base ds o s s2 s1 d ps := by
  have hr : opRd o.op = tmpsL (x :: (lo.toList ++ hi.toList)) := by rw [ho]; rfl
  have hw : opWr ds o.op = tmpsL [x] := by rw [ho]; rfl
  rw [hr] at ha hn
  have hx : ∀ t, tmpOf x = some t → t ∈ tmpsL (x :: (lo.toList ++ hi.toList)) ∧ t ∈ tmpsL [x] := fun t ht => ⟨tmpsL_cons.mpr (.inl ht), tmpsL_cons.mpr (.inl ht)⟩
  obtain ⟨e1, _, _⟩ := see_cg T ty x (fun t ht => (hx t ht).1) ha hn
  have e2 : ∀ y, y ∈ lo.toList ++ hi.toList → s2.see T 3 y = s.see T 3 y := fun y hy => (see_cg T 3 y (fun t ht => tmpsL_cons.mpr (.inr (by
    unfold tmpsL
    exact List.mem_filterMap.mpr ⟨y, hy, ht⟩))) ha hn).1
  have e3 : ∀ y, hi = some y → s2.see T 3 y = s.see T 3 y := fun y hy => e2 y (by simp [hy])
  have e4 : ∀ y, lo = some y → s2.see T 3 y = s.see T 3 y := fun y hy => e2 y (by simp [hy])
  refine vg_of hr hw ?_
  unfold opV at h ⊢
  simp only [ho] at h ⊢
  clear hr hw ho e2
  split at h
  · rename_i hT
    simp only [e1] at h ⊢
    split at h
    · rename_i b hs
      have key : s1 = s ∧ ∀ s' : St, (∀ y, hi = some y → s'.see T 3 y = s.see T 3 y) → (∀ y, lo = some y → s'.see T 3 y = s.see T 3 y) → (match (match hi with | some h => intD (s'.see T 3 h) | none => some (b.size : Int)), (match lo with | some l => intD (s'.see T 3 l) | none => some 0) with
        | some h, some l => if 0 ≤ l ∧ l ≤ h ∧ h ≤ b.size then some (D.str (b.extract l.toNat h.toNat), ([] : List Pl), s') else none
        | _, _ => none) = some (d, ps, s') := by
        constructor
        · split at h
          · split at h <;> cases h
            rfl
          · cases h
        · intro s' k3 k4
          cases hi with
          | none =>
            cases lo with
            | none =>
              simp only at h ⊢
              split at h
              · rename_i hc
                rw [if_pos hc]; cases h; rfl
              · cases h
            | some l =>
              simp only [k4 l rfl] at h ⊢
              split at h
              · rename_i h1 h2
                cases h1
                simp only [h2]
                split at h
                · rename_i hc
                  rw [if_pos hc]; cases h; rfl
                · cases h
              · cases h
          | some u =>
            cases lo with
            | none =>
              simp only [k3 u rfl] at h ⊢
              split at h
              · rename_i h1 h2
                cases h2
                simp only [h1]
                split at h
                · rename_i hc
                  rw [if_pos hc]; cases h; rfl
                · cases h
              · cases h
            | some l =>
              simp only [k3 u rfl, k4 l rfl] at h ⊢
              split at h
              · rename_i h1 h2
                simp only [h1, h2]
                split at h
                · rename_i hc
                  rw [if_pos hc]; cases h; rfl
                · cases h
              · cases h
      obtain ⟨rfl, key⟩ := key
      exact ⟨s2, key s2 e3 e4, ha, hn, .refl _ _, .refl _ _⟩
    · cases h
  · rename_i e z hT
    split at h
    · rename_i f n l a hu
      obtain ⟨s3, f1, f2, f3, f4, f5⟩ := use_cg base T ty x hx s s2 _ _ ha hn hu
      simp only at f1
      simp only [f1]
      have g3 : ∀ y, hi = some y → s2.see T 3 y = s.see T 3 y := e3
      have key : s1 = a ∧ (match (match hi with | some h => intD (s2.see T 3 h) | none => some (l.length : Int)), (match lo with | some l => intD (s2.see T 3 l) | none => some 0) with
        | some h, some lo => if n = e.cells ∧ 0 ≤ lo ∧ lo ≤ h ∧ h ≤ l.length then some (D.sl 0 n ((l.take h.toNat).drop lo.toNat), ([] : List Pl), s3) else none
        | _, _ => none) = some (d, ps, s3) := by
        constructor
        · split at h
          · split at h <;> cases h
            rfl
          · cases h
        · cases hi with
          | none =>
            cases lo with
            | none =>
              simp only at h ⊢
              split at h
              · rename_i hc
                rw [if_pos hc]; cases h; rfl
              · cases h
            | some l =>
              simp only [e4 l rfl] at h ⊢
              split at h
              · rename_i h1 h2
                cases h1
                simp only [h2]
                split at h
                · rename_i hc
                  rw [if_pos hc]; cases h; rfl
                · cases h
              · cases h
          | some u =>
            cases lo with
            | none =>
              simp only [e3 u rfl] at h ⊢
              split at h
              · rename_i h1 h2
                cases h2
                simp only [h1]
                split at h
                · rename_i hc
                  rw [if_pos hc]; cases h; rfl
                · cases h
              · cases h
            | some l =>
              simp only [e3 u rfl, e4 l rfl] at h ⊢
              split at h
              · rename_i h1 h2
                simp only [h1, h2]
                split at h
                · rename_i hc
                  rw [if_pos hc]; cases h; rfl
                · cases h
              · cases h
      obtain ⟨rfl, key⟩ := key
      exact ⟨s3, key, f2, f3, f4, f5⟩
    · cases h
  · cases h

theorem tmps_parts {parts : List (Nat × Operand)} {g : Nat × Operand → Nat} : (parts.map fun p => (p.2, g p)).map (·.1) = parts.map (·.2) := by
  simp [List.map_map, Function.comp_def]

theorem vg_buildSlice {ty len : Nat} {parts : Array (Nat × Operand)} (ho : o.op = .buildSlice ty len parts) (ha : Ag (opRd o.op) s s2) (hn : NB (opRd o.op) s) (h : opV C T base ds o s = some (d, ps, s1)) : Vg C T base ds o s s2 s1 d ps := by
  have hr : opRd o.op = tmpsL (parts.toList.map (·.2)) := by rw [ho]; rfl
  have hw : opWr ds o.op = tmpsL (parts.toList.map (·.2)) := by rw [ho]; rfl
  rw [hr] at ha hn
  refine vg_of hr hw ?_
  unfold opV at h ⊢
  simp only [ho] at h ⊢
  split at h
  · rename_i e z hT
    try simp only [hT]
    split at h
    · rename_i vs a hu
      obtain ⟨s3, f1, f2, f3, f4, f5⟩ := uses_cg base T (parts.toList.map fun p => (p.2, e.ty)) (X := tmpsL (parts.toList.map (·.2))) (W := tmpsL (parts.toList.map (·.2))) (fun t ht => by rw [tmps_parts] at ht; exact ⟨ht, ht⟩) s s2 _ _ ha hn hu
      simp only at f1
      simp only [f1]
      split at h
      · rename_i hc
        simp only [hc, and_self, if_true]
        simp only [Option.map_eq_some_iff, Prod.mk.injEq] at h ⊢
        obtain ⟨l, h1, rfl, rfl, rfl⟩ := h
        exact ⟨s3, ⟨l, h1, rfl, rfl, rfl⟩, f2, f3, f4, f5⟩
      · cases h
    · cases h
  · cases h

theorem vg_build {ty : Nat} {parts : Array (Nat × Operand)} (ho : o.op = .build ty parts) (ha : Ag (opRd o.op) s s2) (hn : NB (opRd o.op) s) (h : opV C T base ds o s = some (d, ps, s1)) : Vg C T base ds o s s2 s1 d ps := by
  have hr : opRd o.op = tmpsL (parts.toList.map (·.2)) := by rw [ho]; rfl
  have hw : opWr ds o.op = tmpsL (parts.toList.map (·.2)) := by rw [ho]; rfl
  rw [hr] at ha hn
  refine vg_of hr hw ?_
  unfold opV at h ⊢
  simp only [ho] at h ⊢
  split at h
  · rename_i fs z hT
    try simp only [hT]
    split at h
    · rename_i vs a hu
      obtain ⟨s3, f1, f2, f3, f4, f5⟩ := takes_cg base T _ (X := tmpsL (parts.toList.map (·.2))) (W := tmpsL (parts.toList.map (·.2))) (fun t ht => by rw [tmps_parts] at ht; exact ⟨ht, ht⟩) s s2 _ _ ha hn hu
      simp only at f1
      simp only [f1]
      simp only [Option.map_eq_some_iff, Prod.mk.injEq] at h ⊢
      obtain ⟨l, h1, rfl, rfl, rfl⟩ := h
      exact ⟨s3, ⟨l, h1, rfl, rfl, rfl⟩, f2, f3, f4, f5⟩
    · cases h
  · rename_i len n ty' z hT
    try simp only [hT]
    split at h
    · rename_i vs a hu
      obtain ⟨s3, f1, f2, f3, f4, f5⟩ := takes_cg base T _ (X := tmpsL (parts.toList.map (·.2))) (W := tmpsL (parts.toList.map (·.2))) (fun t ht => by rw [tmps_parts] at ht; exact ⟨ht, ht⟩) s s2 _ _ ha hn hu
      simp only at f1
      simp only [f1]
      simp only [Option.map_eq_some_iff, Prod.mk.injEq] at h ⊢
      obtain ⟨l, h1, rfl, rfl, rfl⟩ := h
      exact ⟨s3, ⟨l, h1, rfl, rfl, rfl⟩, f2, f3, f4, f5⟩
    · cases h
  · cases h

theorem vg_makeFunc {fn : Fn} {a b : Array Operand} (ho : o.op = .makeFunc fn a b) (ha : Ag (opRd o.op) s s2) (hn : NB (opRd o.op) s) (h : opV C T base ds o s = some (d, ps, s1)) : Vg C T base ds o s s2 s1 d ps := by
  have hr : opRd o.op = tmpsL (a.toList ++ b.toList) := by rw [ho]; rfl
  have hw : opWr ds o.op = tmpsL (a.toList ++ b.toList) := by rw [ho]; rfl
  rw [hr] at ha hn
  refine vg_of hr hw ?_
  unfold opV at h ⊢
  simp only [ho] at h ⊢
  have m1 : ∀ (xs : List Operand), (xs.map fun x => (x, 0)).map (·.1) = xs := fun xs => by simp [List.map_map, Function.comp_def]
  split at h
  · rename_i va s' hu
    obtain ⟨s3, f1, f2, f3, f4, f5⟩ := uses_cg base T (a.toList.map fun x => (x, 0)) (X := tmpsL (a.toList ++ b.toList)) (W := tmpsL (a.toList ++ b.toList)) (fun t ht => by rw [m1] at ht; exact ⟨tmpsL_append.mpr (.inl ht), tmpsL_append.mpr (.inl ht)⟩) s s2 _ _ ha hn hu
    simp only at f1
    simp only [f1]
    split at h
    · rename_i vb s'' hu2
      obtain ⟨s4, g1, g2, g3, g4, g5⟩ := uses_cg base T (b.toList.map fun x => (x, 0)) (X := tmpsL (a.toList ++ b.toList)) (W := tmpsL (a.toList ++ b.toList)) (fun t ht => by rw [m1] at ht; exact ⟨tmpsL_append.mpr (.inr ht), tmpsL_append.mpr (.inr ht)⟩) _ _ _ _ f2 f3 hu2
      simp only at g1
      simp only [g1]
      simp only [Option.some.injEq, Prod.mk.injEq] at h ⊢
      obtain ⟨rfl, rfl, rfl⟩ := h
      exact ⟨s4, ⟨rfl, rfl, rfl⟩, g2, g3, f4.trans g4, f5.trans g5⟩
    · cases h
  · cases h

theorem vg_extract {x : Operand} {i : Nat} (ho : o.op = .extract x i) (ha : Ag (opRd o.op) s s2) (hn : NB (opRd o.op) s) (h : opV C T base ds o s = some (d, ps, s1)) : Vg C T base ds o s s2 s1 d ps := by
  have hr : opRd o.op = tmpsL [x] := by rw [ho]; rfl
  have hw : opWr ds o.op = tmpsL [x] := by rw [ho]; rfl
  rw [hr] at ha hn
  refine vg_of hr hw ?_
  unfold opV at h ⊢
  simp only [ho] at h ⊢
  cases x with
  | tmp t =>
    simp only [← ha.2 t (tmpsL_cons.mpr (.inl rfl))] at h ⊢
    split at h
    · rename_i l hl
      split at h
      · rename_i d' hd
        simp only [Option.some.injEq, Prod.mk.injEq] at h ⊢
        obtain ⟨rfl, rfl, rfl⟩ := h
        obtain ⟨g1, g2, g3, g4⟩ := slot_alike (x := t) (.tup (l.set i .undef)) ha hn rfl
        exact ⟨_, ⟨rfl, rfl, rfl⟩, g1, g2, g3.mono (fun u hu => by simpa [tmpsL, tmpOf] using hu), g4.mono (fun u hu => by simpa [tmpsL, tmpOf] using hu)⟩
      · cases h
    · cases h
  | _ => cases h

theorem sees_cg (ty : Nat) {X : List Nat} (xs : List Operand) (hx : ∀ t ∈ tmpsL xs, t ∈ X) (ha : Ag X s s2) (hn : NB X s) : xs.map (s2.see T ty) = xs.map (s.see T ty) := by
  induction xs with
  | nil => rfl
  | cons x r ih =>
    simp only [List.map_cons]
    rw [(see_cg T ty x (fun t ht => hx t (tmpsL_cons.mpr (.inl ht))) ha hn).1, ih fun t ht => hx t (tmpsL_cons.mpr (.inr ht))]

theorem builtin_len {xs : List Operand} {ts : List Nat} {X : List Nat} (hx : ∀ t ∈ tmpsL xs, t ∈ X) (ha : Ag X s s2) (hn : NB X s) (h : builtinV T base .len xs ts s = some (d, ps, s1)) : s1 = s ∧ builtinV T base .len xs ts s2 = some (d, ps, s2) := by
  match xs, ts, h with
  | [x], [t], h =>
    simp only [builtinV] at h ⊢
    rw [(see_cg T t x (fun u hu => hx u (tmpsL_cons.mpr (.inl hu))) ha hn).1]
    split at h <;> first | (cases h; done) | skip
    · simp only [Option.some.injEq, Prod.mk.injEq] at h ⊢
      obtain ⟨rfl, rfl, rfl⟩ := h
      simp
    · simp only [Option.some.injEq, Prod.mk.injEq] at h ⊢
      obtain ⟨rfl, rfl, rfl⟩ := h
      simp

theorem vg_builtin {c : Call} {b : Builtin} (ho : o.op = .call c) (hb : c.callee = .builtin b) (ha : Ag (opRd o.op) s s2) (hn : NB (opRd o.op) s) (h : opV C T base ds o s = some (d, ps, s1)) : Vg C T base ds o s s2 s1 d ps := by
  have hr : opRd o.op = tmpsL c.args.toList := by rw [ho]; simp [opRd, hb]
  have ha0 := ha
  have h0 := h
  rw [hr] at ha hn
  have e0 : ∀ s, opV C T base ds o s = builtinV T base b c.args.toList c.argTypes.toList s := by
    intro s
    unfold opV
    simp only [ho, callV, hb]
  rw [e0] at h
  have look : s1 = s ∧ builtinV T base b c.args.toList c.argTypes.toList s2 = some (d, ps, s2) → Vg C T base ds o s s2 s1 d ps := fun ⟨h1, h2⟩ => vg_look ha0 h0 h1 ((e0 s2).trans h2)
  by_cases hl : b = .len
  · subst hl
    exact look (builtin_len (fun t ht => ht) ha hn h)
  by_cases hmin : b = .min
  · subst hmin
    refine look ?_
    generalize c.args.toList = xs at h ha hn
    generalize c.argTypes.toList = ts at h
    cases xs with
    | nil => cases h
    | cons x r =>
      have e1 := (see_cg T 3 x (fun u hu => tmpsL_cons.mpr (.inl hu)) ha hn).1
      have e2 := sees_cg (T := T) 3 r (fun u hu => tmpsL_cons.mpr (.inr hu)) ha hn
      simp only [builtinV, Option.map_eq_some_iff, Prod.mk.injEq] at h ⊢
      rw [e1, e2]
      obtain ⟨a, h1, rfl, rfl, rfl⟩ := h
      exact ⟨rfl, a, h1, by simp⟩
  by_cases hmax : b = .max
  · subst hmax
    refine look ?_
    generalize c.args.toList = xs at h ha hn
    generalize c.argTypes.toList = ts at h
    cases xs with
    | nil => cases h
    | cons x r =>
      have e1 := (see_cg T 3 x (fun u hu => tmpsL_cons.mpr (.inl hu)) ha hn).1
      have e2 := sees_cg (T := T) 3 r (fun u hu => tmpsL_cons.mpr (.inr hu)) ha hn
      simp only [builtinV, Option.map_eq_some_iff, Prod.mk.injEq] at h ⊢
      rw [e1, e2]
      obtain ⟨a, h1, rfl, rfl, rfl⟩ := h
      exact ⟨rfl, a, h1, by simp⟩
  by_cases hap : b = .append
  · subst hap
    have hw : opWr ds o.op = tmpsL c.args.toList := by rw [ho]; simp [opWr, hb]
    refine vg_of hr hw ?_
    simp only [e0]
    generalize c.args.toList = xs at h ha hn
    generalize c.argTypes.toList = ts at h
    match xs, ts, h with
    | [x, y], [t, u], h =>
      have hx : ∀ k, tmpOf x = some k → k ∈ tmpsL [x, y] ∧ k ∈ tmpsL [x, y] := fun k hk => ⟨tmpsL_cons.mpr (.inl hk), tmpsL_cons.mpr (.inl hk)⟩
      have e1 := (see_cg T u y (fun k hk => tmpsL_cons.mpr (.inr (tmpsL_cons.mpr (.inl hk)))) ha hn).1
      simp only [builtinV] at h ⊢
      rw [e1]
      split at h
      · split at h
        · rename_i m f n l a hm ht
          obtain ⟨s3, f1, f2, f3, f4, f5⟩ := take_cg base T t x hx s s2 _ _ ha hn ht
          simp only at f1
          simp only [f1]
          split at h
          · rename_i hc
            simp only [hm, if_pos hc]
            simp only [Option.some.injEq, Prod.mk.injEq] at h ⊢
            obtain ⟨rfl, rfl, rfl⟩ := h
            exact ⟨s3, ⟨rfl, rfl, rfl⟩, f2, f3, f4, f5⟩
          · cases h
        · cases h
      · cases h
  · exfalso
    unfold builtinV at h
    split at h <;> first | exact hl rfl | exact hmin rfl | exact hmax rfl | exact hap rfl | cases h

theorem callS_pure {g : Nat} {args : List D} (hl : lowL 0 args = true) {r : D} {b : List (List D)} {di : List Nat} {up : Bool} (hc : C g args [] = some (r, b, di, up)) (hr : r.low 0 = true) (s : St) : callS C base g args s = some (r, [], s) := by
  simp only [callS, hl, hc, hr]

theorem vg_call {c : Call} {f : Operand} (ho : o.op = .call c) (hf : c.callee = .value f) (hp : pureCall C T base o s = true) (ha : Ag (opRd o.op) s s2) (hn : NB (opRd o.op) s) (h : opV C T base ds o s = some (d, ps, s1)) : Vg C T base ds o s s2 s1 d ps := by
  have hr : opRd o.op = tmpsL [f] ++ tmpsL c.args.toList := by rw [ho]; simp [opRd, hf]
  have hw : opWr ds o.op = tmpsL c.args.toList := by rw [ho]; simp [opWr, hf]
  rw [hr] at ha hn
  have e1 := (see_cg T 0 f (fun k hk => List.mem_append.mpr (.inl (tmpsL_cons.mpr (.inl hk)))) ha hn).1
  refine vg_of hr hw ?_
  unfold opV at h ⊢
  simp only [ho, callV, hf] at h ⊢
  simp only [pureCall, ho, hf] at hp
  rw [e1]
  split at h
  · rename_i g first cap hs
    simp only [hs] at hp
    split at h
    · rename_i vs a hu
      have hm : ∀ (as : List Operand) (ts : List Nat) (t : Nat), t ∈ tmpsL ((as.zip ts).map (·.1)) → t ∈ tmpsL as := by
        intro as
        induction as with
        | nil => intro ts t ht; simp [tmpsL] at ht
        | cons x r ih =>
          intro ts t ht
          cases ts with
          | nil => simp [tmpsL] at ht
          | cons u us =>
            rw [List.zip_cons_cons, List.map_cons] at ht
            rcases tmpsL_cons.mp ht with ht | ht
            · exact tmpsL_cons.mpr (.inl ht)
            · exact tmpsL_cons.mpr (.inr (ih us t ht))
      obtain ⟨s3, f1, f2, f3, f4, f5⟩ := uses_cg base T (c.args.toList.zip c.argTypes.toList) (X := tmpsL [f] ++ tmpsL c.args.toList) (W := tmpsL c.args.toList) (fun t ht => ⟨List.mem_append.mpr (.inr (hm _ _ _ ht)), hm _ _ _ ht⟩) s s2 _ _ ha hn hu
      simp only at f1
      simp only [f1]
      simp only [hu] at hp
      split at h
      · rename_i hc
        simp only [hc, if_true]
        simp only [Bool.and_eq_true] at hp
        obtain ⟨hl, hp⟩ := hp
        split at hp
        · rename_i r b di up hcr
          rw [callS_pure hl hcr hp] at h
          rw [callS_pure hl hcr hp]
          simp only [Option.some.injEq, Prod.mk.injEq] at h ⊢
          obtain ⟨rfl, rfl, rfl⟩ := h
          exact ⟨s3, ⟨rfl, rfl, rfl⟩, f2, f3, f4, f5⟩
        · cases hp
      · cases h
    · cases h
  · cases h

end Go.PI
