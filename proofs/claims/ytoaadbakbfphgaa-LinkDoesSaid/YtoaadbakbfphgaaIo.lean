/- Conversions; parts of values; functions as values. -/
import Derived.Test.YtoaadbakbfphgaaIn
namespace Go.PI
open Go

variable {P : Program} {base : Nat} {G : Gh} {w : World} {st : St} {tmps : Array Value} {T : Nat → TI}

def subP (ρ : Key → Key) : Perm → Perm
  | .ex κ => .ex (ρ κ)
  | .tip m κ => .tip m (ρ κ)
  | q => q

/-- The keys get other names. -/
def Gh.sub (G : Gh) (ρ : Key → Key) : Gh := { G with pm := fun b => subP ρ (G.pm b) }

theorem step_sub (G : Gh) (w : World) (ρ : Key → Key) : Step G w (G.sub ρ) w :=
  ⟨⟨rfl, rfl, rfl, Nat.le_refl _, fun b _ e => ⟨by simp [Gh.sub, e, subP], rfl⟩, fun b _ _ e => ⟨by simp [Gh.sub, e, subP], rfl⟩, fun b m k _ e => ⟨.inl ⟨m, ρ k, Nat.le_refl _, by simp [Gh.sub, e, subP]⟩, fun _ _ => rfl⟩, fun _ _ _ h => h⟩, fun _ _ h => h⟩

theorem moves_sub (G : Gh) (w : World) (ρ : Key → Key) (κ : Key) : Moves G w (G.sub ρ) w κ (ρ κ) :=
  fun b _ => ⟨fun e => ⟨by simp [Gh.sub, e, subP], rfl⟩, fun m e => ⟨by simp [Gh.sub, e, subP], rfl⟩⟩

theorem moves_sub_same (G : Gh) (w : World) (ρ : Key → Key) {κ : Key} (h : ρ κ = κ) : Moves G w (G.sub ρ) w κ κ := by
  have := moves_sub G w ρ κ
  rwa [h] at this

theorem sub_rel (r : Rel G w st tmps) (ρ : Key → Key) {t : Nat} (ht : t < st.tm.length) (hb : ∀ l j, ρ (.b l j) = .b l j) (hs : ∀ u i j, u ≠ t → ρ (.s u i j) = .s u i j) (x : D)
    (hx : Slot (G.sub ρ) w tmps (fun i j => .s t i j) x (tmps.getD t undef)) (hxb : ∀ p, ¬ x.sbors p) : Rel (G.sub ρ) w { st with tm := st.tm.set t x } tmps := by
  have ht' : t < tmps.size := by rw [← r.len]; exact ht
  refine ⟨by simpa using r.len, fun u hu hu' => ?_, fun u hu p hb => ?_, r.bx.keep (step_sub G w ρ) rfl (fun loc b e => ⟨by simp [Gh.sub, r.bx.var loc b e, subP], rfl⟩) fun loc j => moves_sub_same G w ρ (hb loc j)⟩
  · rw [set_tm_get]
    split
    · rename_i e; subst e
      simpa [Array.getD, ht'] using hx
    · rename_i e
      have hu2 : u < st.tm.length := by simpa using hu
      exact (r.slot u hu2 hu').move (step_sub G w ρ) (fun i j => moves_sub_same G w ρ (hs u i j fun e' => e e'.symm)) fun p _ => placeV_bl rfl p
  · rw [set_tm_get] at hb
    split at hb
    · exact absurd hb (hxb p)
    · exact r.ln u (by simpa using hu) p hb

/-- A tuple's part goes into flight. -/
def takeK (t i : Nat) : Key → Key
  | .s u i' j => if u = t ∧ i' = i then .r 0 j else .s u i' j
  | κ => κ

theorem extract_ok {C : CallT} {ds : List Nat} {o : Oper} {x : Operand} {i : Nat} {d : D} {ps : List Pl} {s : St} (r : Rel G w st tmps) (ho : o.op = .extract x i) (h : opV C T base ds o st = some (d, ps, s)) : Good P base G w st tmps o d ps s := by
  unfold opV at h
  simp only [ho] at h
  cases x with
  | tmp t =>
    simp only at h
    split at h
    · rename_i l e
      split at h
      · rename_i d' hd
        simp only [Option.some.injEq, Prod.mk.injEq] at h
        obtain ⟨rfl, rfl, rfl⟩ := h
        have ht : t < st.tm.length := by
          rcases Nat.lt_or_ge t st.tm.length with ht | ht
          · exact ht
          · simp [St.get, List.getD, List.getElem?_eq_none ht] at e
        have ht2 : t < tmps.size := by rw [← r.len]; exact ht
        rw [St.get_lt ht] at e
        have hs := r.slot t ht ht2
        rw [e] at hs
        obtain ⟨hnb, vs, hvs, hsz, hv⟩ := hs
        have eg : ev tmps (.tmp t) = .tuple vs := by simp [ev, Array.getD, ht2, hvs]
        obtain ⟨hi, rfl⟩ := List.getElem?_eq_some_iff.mp hd
        have hi' : i < vs.size := by omega
        have hnb1 : ∀ k (hk : k < l.length) p, ¬ (l[k]).bors p := fun k hk p hb => hnb p ⟨_, List.getElem_mem hk, hb⟩
        have hval := hv i hi hi'
        have htup : ∀ q, l[i] ≠ .tup q := by
          intro q e
          rw [e] at hval
          exact hval
        have hs' : Slot (G.sub (takeK t i)) w tmps (fun i' j => .s t i' j) (.tup (l.set i .undef)) (tmps.getD t undef) := by
          refine ⟨?_, vs, by simp [Array.getD, ht2, hvs], by simpa using hsz, fun k hk hk' => ?_⟩
          · rintro p ⟨y, hy, hb⟩
            rcases List.mem_or_eq_of_mem_set hy with hy | rfl
            · exact hnb p ⟨y, hy, hb⟩
            · exact hb
          · rw [List.getElem_set]
            split
            · exact trivial
            · rename_i hne
              exact (hv k (by simpa using hk) hk').move (step_sub G w _) (fun j => moves_sub_same G w _ (by simp [takeK]; omega)) fun p hb => absurd hb (hnb1 k (by simpa using hk) p)
        refine ⟨⟨vs[i], w, G.sub (takeK t i), ?_, sub_rel r _ ht (fun _ _ => rfl) (fun u i' j hu => by simp [takeK, hu]) _ hs' ?_, ?_, step_sub G w _, unt_refl _ _ _ _⟩, fun p hb => absurd ((sbors_of htup).mp hb) (hnb1 i hi p), ⟨fun _ h => h, fun _ _ _ => rfl, fun h => h, Nat.le_refl _, fun _ h => h, by simp⟩⟩
        · simp [execOp, ho, eg, Instr.extract, hi']
        · rintro p ⟨y, hy, hb⟩
          rcases List.mem_or_eq_of_mem_set hy with hy | rfl
          · exact hnb p ⟨y, hy, hb⟩
          · exact hb
        · refine (slot_of htup).mpr (hval.move (step_sub G w _) (κ' := fun j => .r 0 j) (fun j => ?_) fun p hb => absurd hb (hnb1 i hi p))
          have := moves_sub G w (takeK t i) (.s t i j)
          simpa [takeK] using this
      · cases h
    · cases h
  | const v => cases h
  | func f => cases h
  | global g => cases h

theorem uses_ok (base : Nat) {w : World} {tmps : Array Value} (T : Nat → TI) (l : List (Operand × Nat)) : ∀ {G : Gh} {st st' : St} {ds : List D}, Rel G w st tmps → st.uses base T l = some (ds, st') →
    ∃ G', Rel G' w st' tmps ∧ Step G w G' w ∧ G'.bl = G.bl ∧ Grew base st st' ∧ ds.length = l.length ∧
      ∀ i (h : i < ds.length) (h' : i < l.length), Ro G' w ds[i] (ev tmps l[i].1) ∧ ∀ m, ds[i] = .agg m → ∀ e ∈ m, ∀ q, e ≠ .agg q := by
  induction l with
  | nil =>
    intro G st st' ds r h
    simp only [St.uses, Option.some.injEq, Prod.mk.injEq] at h
    obtain ⟨rfl, rfl⟩ := h
    exact ⟨G, r, step_refl _ _, rfl, .refl _ _, rfl, fun i h => by simp at h⟩
  | cons x l ih =>
    intro G st st' ds r h
    obtain ⟨x, ty⟩ := x
    simp only [St.uses] at h
    split at h
    · cases h
    · rename_i d s1 h1
      split at h
      · cases h
      · rename_i ds' s2 h2
        simp only [Option.some.injEq, Prod.mk.injEq] at h
        obtain ⟨rfl, rfl⟩ := h
        obtain ⟨G1, r1, q1, b1, g1, ro1, f1⟩ := use_ok base T ty r h1
        obtain ⟨G2, r2, q2, b2, g2, hl, hr⟩ := ih r1 h2
        refine ⟨G2, r2, ⟨q1.evo.trans q2.evo, fun l b h => q2.bl l b (q1.bl l b h)⟩, b2.trans b1, g1.trans g2, by simp [hl], fun i hi hi' => ?_⟩
        cases i with
        | zero => exact ⟨ro1.evo q2.evo q2.bl, f1⟩
        | succ i => exact hr i (by simpa using hi) (by simpa using hi')

theorem makeFunc_ok {C : CallT} {ds : List Nat} {o : Oper} {fn : Fn} {first cap : Array Operand} {d : D} {ps : List Pl} {s : St} (r : Rel G w st tmps) (ho : o.op = .makeFunc fn first cap) (h : opV C T base ds o st = some (d, ps, s)) : Good P base G w st tmps o d ps s := by
  unfold opV at h
  simp only [ho] at h
  split at h
  · rename_i a s1 h1
    split at h
    · rename_i b s2 h2
      simp only [Option.some.injEq, Prod.mk.injEq] at h
      obtain ⟨rfl, rfl, rfl⟩ := h
      obtain ⟨G1, r1, q1, b1, g1, l1, u1⟩ := uses_ok base T _ r h1
      obtain ⟨G2, r2, q2, b2, g2, l2, u2⟩ := uses_ok base T _ r1 h2
      have ro : Ro G2 w (.fn fn a b) (.func fn (first.map (ev tmps)) (cap.map (ev tmps))) := by
        refine .fn fn a b _ _ (by simpa using l1.symm) (by simpa using l2.symm) (fun i h h' => ?_) (fun i h h' => ?_) fun d hd => ?_
        · have := (u1 i h (by simpa using h')).1.evo q2.evo q2.bl
          simpa using this
        · have := (u2 i h (by simpa using h')).1
          simpa using this
        · rcases List.mem_append.mp hd with hd | hd
          · obtain ⟨i, hi, rfl⟩ := List.mem_iff_getElem.mp hd
            exact (u1 i hi (by omega)).2
          · obtain ⟨i, hi, rfl⟩ := List.mem_iff_getElem.mp hd
            exact (u2 i hi (by omega)).2
      refine ⟨⟨_, w, G2, ?_, r2, ro, ⟨q1.evo.trans q2.evo, fun l b h => q2.bl l b (q1.bl l b h)⟩, unt_refl _ _ _ _⟩, fun p hb => hb.elim, g1.trans g2⟩
      simp [execOp, ho, Instr.makeFunc]
    · cases h
  · cases h

end Go.PI
