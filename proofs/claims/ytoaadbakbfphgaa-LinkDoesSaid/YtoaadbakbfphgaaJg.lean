/- Open regions: whatever the order, the same comes out. -/
import Derived.Test.YtoaadbakbfphgaaJf
namespace Go.PI
open Go

variable {C : CallT} {T : Nat → TI} {base al : Nat} {ops : List Oper} {tk : List Nat} {ob : Option (List Nat)} {pc om : Bool}

def deps (ops : List Oper) (i : Nat) : List Nat :=
  match ops[i]? with
  | some o => depsOf o
  | none => []

inductive Reach (ops : List Oper) : Nat → Nat → Prop
  | one (x j : Nat) (h : j ∈ deps ops x) : Reach ops x j
  | step (x j a : Nat) (h : j ∈ deps ops x) (k : Reach ops j a) : Reach ops x a

theorem waits_sound (ops : List Oper) : ∀ x a, a ∈ (waitsAll ops).getD x [] → Reach ops x a := by
  have key : ∀ (suf pre : List Oper) (acc : List (List Nat)), ops = pre ++ suf → acc.length = pre.length → (∀ x a, a ∈ acc.getD x [] → Reach ops x a) →
      ∀ x a, a ∈ (suf.foldl (fun acc o => acc ++ [((depsOf o).flatMap fun j => j :: acc.getD j []).eraseDups]) acc).getD x [] → Reach ops x a := by
    intro suf
    induction suf with
    | nil => intro pre acc _ _ h; exact h
    | cons o r ih =>
      intro pre acc he hl h
      simp only [List.foldl_cons]
      refine ih (pre ++ [o]) _ (by simp [he]) (by simp [hl]) fun x a hxa => ?_
      by_cases hx : x < acc.length
      · rw [List.getD_eq_getElem?_getD, List.getElem?_append_left hx, ← List.getD_eq_getElem?_getD] at hxa
        exact h x a hxa
      · by_cases hx2 : x = acc.length
        · subst hx2
          have ho : ops[acc.length]? = some o := by rw [he, hl]; simp
          have hd : deps ops acc.length = depsOf o := by simp only [deps, ho]
          rw [List.getD_eq_getElem?_getD, List.getElem?_append_right (Nat.le_refl _)] at hxa
          simp only [Nat.sub_self, List.getElem?_cons_zero, Option.getD_some, List.mem_eraseDups, List.mem_flatMap] at hxa
          obtain ⟨j, hj, hxa⟩ := hxa
          rcases List.mem_cons.mp hxa with rfl | hxa
          · exact .one _ _ (by rw [hd]; exact hj)
          · exact .step _ j _ (by rw [hd]; exact hj) (h j a hxa)
        · rw [List.getD_eq_getElem?_getD, List.getElem?_eq_none (by simp; omega)] at hxa
          simp at hxa
  exact key ops [] [] rfl rfl (by simp)

/-- An order in which each operation comes behind what it waits for. -/
def Lin (ops : List Oper) : (Nat → Prop) → List Nat → Prop
  | _, [] => True
  | tk, x :: L => (∀ j ∈ deps ops x, tk j) ∧ Lin ops (fun y => y = x ∨ tk y) L

structure Opened (pc om : Bool) (tk : List Nat) (ops : List Oper) : Prop where
  low : ∀ x j, j ∈ deps ops x → j < x
  kind : ∀ (x : Nat) (o : Oper), ops[x]? = some o → opKind o.op ≤ 4
  free : ∀ (a x : Nat) (oa ox : Oper), a < x → ops[a]? = some oa → ops[x]? = some ox → Reach ops x a ∨ freeB pc om tk ops oa ox = true

theorem opened (h : openB pc om tk ops = true) : Opened pc om tk ops := by
  unfold openB at h
  simp only [List.all_eq_true, List.mem_range] at h
  have look : ∀ (x : Nat) (o : Oper), ops[x]? = some o → (depsOf o).all (fun j => decide (j < x)) = true ∧ opKind o.op ≤ 4 ∧ ∀ a, a < x → a ∈ (waitsAll ops).getD x [] ∨ ∃ oa, ops[a]? = some oa ∧ freeB pc om tk ops oa o = true := by
    intro x o ho
    have hx : x < ops.length := (List.getElem?_eq_some_iff.mp ho).1
    have := h x hx
    rw [ho] at this
    simp only [Bool.and_eq_true, decide_eq_true_eq] at this
    obtain ⟨⟨h1, h2⟩, h3⟩ := this
    refine ⟨h1, h2, fun a ha => ?_⟩
    have := List.all_eq_true.mp h3 a (List.mem_range.mpr ha)
    simp only [Bool.or_eq_true, List.contains_iff_mem] at this
    rcases this with h | h
    · exact .inl h
    · right
      split at h
      · rename_i oa hoa
        exact ⟨oa, hoa, h⟩
      · cases h
  refine ⟨fun x j hj => ?_, fun x o ho => (look x o ho).2.1, fun a x oa ox hax ha hx => ?_⟩
  · unfold deps at hj
    split at hj
    · rename_i o ho
      have := List.all_eq_true.mp (look x o ho).1 j hj
      simpa using this
    · cases hj
  · rcases (look x ox hx).2.2 a hax with h | ⟨oa', h1, h2⟩
    · exact .inl (waits_sound ops x a h)
    · rw [ha] at h1
      cases h1
      exact .inr h2

theorem stepQ_ln (ho : Opened pc om tk ops) {i : Nat} {s s1 : St} (hl : s.ln = []) (h : stepQ C T base ops tk al ob pc i s = some s1) : s1.ln = [] := by
  cases hi : ops[i]? with
  | none => simp [stepQ, hi] at h
  | some o =>
    obtain ⟨_, _, e⟩ := stepQ_cg hi (ho.kind i o hi) hl hl ⟨rfl, fun _ _ => rfl⟩ (cond_of_mem rfl) h
    exact e.ln1

/-- One operation moves ahead. -/
theorem ahead (hom : om = true → ∃ l, ob = some l) (ho : Opened pc om tk ops) {x : Nat} {ox : Oper} (hx : ops[x]? = some ox) (B : List Nat) : ∀ (A : List Nat), (∀ a ∈ A, a < x ∧ ¬ Reach ops x a) → ∀ {s r : St}, s.ln = [] → opsQ C T base ops tk al ob pc (A ++ x :: B) s = some r → opsQ C T base ops tk al ob pc (x :: (A ++ B)) s = some r
  | [], _, s, r, _, h => h
  | a :: A, hA, s, r, hl, h => by
    simp only [List.cons_append, opsQ] at h
    split at h
    · rename_i sa e1
      have hls := stepQ_ln ho hl e1
      have := ahead hom ho hx B A (fun b hb => hA b (by simp [hb])) hls h
      simp only [opsQ] at this
      split at this
      · rename_i sx e2
        cases ha : ops[a]? with
        | none => simp [stepQ, ha] at e1
        | some oa =>
          obtain ⟨h1, h2⟩ := hA a (by simp)
          rcases ho.free a x oa ox h1 ha hx with hr | hf
          · exact absurd hr h2
          · obtain ⟨sy, f1, f2⟩ := swap_ok hom ha hx (ho.kind a oa ha) (ho.kind x ox hx) hf hl e1 e2
            simp only [opsQ, f1, List.cons_append, f2]
            exact this
      · cases this
    · cases h

theorem reach_taken {dn : Nat → Prop} (hc : ∀ y, dn y → ∀ j ∈ deps ops y, dn j) {x a : Nat} (h : Reach ops x a) : (∀ j ∈ deps ops x, dn j) → dn a := by
  induction h with
  | one x j h => exact fun hd => hd j h
  | step x j a h _ ih => exact fun hd => ih (hc j (hd j h))

theorem any_order (hom : om = true → ∃ l, ob = some l) (ho : Opened pc om tk ops) : ∀ (L N : List Nat) (dn : Nat → Prop), Lin ops dn L → (∀ y, dn y → ∀ j ∈ deps ops y, dn j) → N.Pairwise (· < ·) → L.Perm N → (∀ y ∈ N, ¬ dn y) → ∀ {s r : St}, s.ln = [] →
    opsQ C T base ops tk al ob pc N s = some r → opsQ C T base ops tk al ob pc L s = some r
  | [], N, _, _, _, _, hp, _, s, r, _, h => by
    have : N = [] := hp.symm.eq_nil
    subst this
    exact h
  | x :: L, N, dn, hL, hc, hs, hp, hn, s, r, hl, h => by
    have hx : x ∈ N := hp.subset (by simp)
    obtain ⟨A, B, rfl⟩ := List.append_of_mem hx
    have hA : ∀ a ∈ A, a < x ∧ ¬ Reach ops x a := by
      intro a ha
      refine ⟨(List.pairwise_append.mp hs).2.2 a ha x (by simp), fun hr => ?_⟩
      exact hn a (by simp [ha]) (reach_taken hc hr hL.1)
    cases hox : ops[x]? with
    | none =>
      exfalso
      have : ∀ (A : List Nat) (s r : St), opsQ C T base ops tk al ob pc (A ++ x :: B) s = some r → False := by
        intro A
        induction A with
        | nil => intro s r h; simp [opsQ, stepQ, hox] at h
        | cons a A ih =>
          intro s r h
          simp only [List.cons_append, opsQ] at h
          split at h
          · exact ih _ _ h
          · cases h
      exact this A s r h
    | some ox =>
      have h2 := ahead hom ho hox B A hA hl h
      simp only [opsQ] at h2 ⊢
      split at h2
      · rename_i sx e
        refine any_order hom ho L (A ++ B) (fun y => y = x ∨ dn y) hL.2 (fun y hy j hj => ?_) (hs.sublist (by simp)) ?_ (fun y hy hyt => ?_) (stepQ_ln ho hl e) h2
        · rcases hy with rfl | hy
          · exact .inr (hL.1 j hj)
          · exact .inr (hc y hy j hj)
        · exact (hp.trans List.perm_middle).cons_inv
        · have hy' : y ∈ A ++ x :: B := by
            rcases List.mem_append.mp hy with h | h
            · exact List.mem_append.mpr (.inl h)
            · exact List.mem_append.mpr (.inr (List.mem_cons_of_mem _ h))
          rcases hyt with rfl | hyt
          · have hnd : (A ++ y :: B).Nodup := hs.imp (fun h => Nat.ne_of_lt h)
            have := (List.perm_middle.nodup_iff.mp hnd)
            exact (List.nodup_cons.mp this).1 hy
          · exact hn y hy' hyt
      · cases h2

theorem opsQ_opsF : ∀ (L : List Nat) {s r : St}, opsQ C T base ops tk al ob pc L s = some r → opsF C T base ops tk al L s = some r
  | [], _, _, h => h
  | i :: L, s, r, h => by
    simp only [opsQ] at h
    split at h
    · rename_i s1 e
      have := opsQ_opsF L h
      unfold stepQ at e
      simp only [opsF]
      split at e
      · cases e
      · rename_i o ho
        try simp only [ho]
        split at e
        · split at e
          · rename_i hw
            try simp only [hw]
            split at e
            · split at e
              · rename_i s' hop
                try simp only [hop]
                split at e
                · cases e; exact this
                · cases e
              · cases e
            · cases e
          · rename_i hw
            try simp only [hw]
            cases e
            exact this
          · cases e
        · cases e
    · cases h

/-- What has not been listed. -/
def rest (n : Nat) (listed : Array Bool) : List Nat := (List.range n).filter fun i => !listed.getD i true

theorem least {P : Nat → Prop} (i : Nat) (h : P i) : ∃ m, P m ∧ ∀ j, j < m → ¬ P j := by
  induction i using Nat.strongRecOn with
  | _ i ih =>
    by_cases hj : ∃ j, j < i ∧ P j
    · obtain ⟨j, h1, h2⟩ := hj
      exact ih j h1 h2
    · exact ⟨i, h, fun j hji hp => hj ⟨j, hji, hp⟩⟩

theorem go_ok {ops : Array Oper} (ho : Opened pc om tk ops.toList) : ∀ (fuel t : Nat) (listed : Array Bool) (acc : List Nat), listed.size = ops.size → (rest ops.size listed).length = fuel →
    ∃ L, Region.linearise.go .any ops fuel t listed acc = acc.reverse ++ L ∧ Lin ops.toList (fun i => listed.getD i false = true) L ∧ L.Perm (rest ops.size listed)
  | 0, t, listed, acc, _, hf => ⟨[], by simp [Region.linearise.go], trivial, by rw [List.eq_nil_of_length_eq_zero hf]⟩
  | fuel + 1, t, listed, acc, hsz, hf => by
    have mem : ∀ i, i ∈ rest ops.size listed ↔ i < ops.size ∧ listed.getD i true = false := by
      intro i
      simp [rest, List.mem_filter]
    have dep : ∀ i, i < ops.size → ((((ops[i]?).map fun o => o.after.all fun e => !Region.binds .any e || listed.getD e.on false).getD false) = true ↔ ∀ j ∈ deps ops.toList i, listed.getD j false = true) := by
      intro i hi
      simp only [deps, Array.getElem?_toList, Array.getElem?_eq_getElem hi, Option.map_some, Option.getD_some, depsOf, List.mem_map, List.mem_filter, Array.mem_toList_iff]
      rw [Array.all_eq_true_iff_forall_mem]
      constructor
      · rintro h j ⟨e, ⟨h1, h2⟩, rfl⟩
        have := h e h1
        simpa [h2] using this
      · intro h e he
        cases hb : Region.binds .any e with
        | false => rfl
        | true => simp [h e.on ⟨e, ⟨he, hb⟩, rfl⟩]
    obtain ⟨i0, hi0⟩ : ∃ i, i ∈ rest ops.size listed := List.exists_mem_of_length_pos (by omega)
    obtain ⟨m, hm, hmin⟩ := least (P := fun i => i ∈ rest ops.size listed) i0 hi0
    have hm' := (mem m).mp hm
    let rs := (List.range ops.size).filter fun i => !listed.getD i true && ((ops[i]?).map (·.after.all fun e => !Region.binds .any e || listed.getD e.on false)).getD false
    have hrs : m ∈ rs := by
      refine List.mem_filter.mpr ⟨List.mem_range.mpr hm'.1, ?_⟩
      simp only [Bool.and_eq_true, Bool.not_eq_true']
      refine ⟨hm'.2, (dep m hm'.1).mpr fun j hj => ?_⟩
      have hjm := ho.low m j hj
      have hjn : j < ops.size := by omega
      have := hmin j hjm
      rw [mem] at this
      have hj2 : listed.getD j true = true := by
        cases e : listed.getD j true
        · exact absurd ⟨hjn, e⟩ this
        · rfl
      have hjs : j < listed.size := by omega
      simpa [Array.getD, hjs] using hj2
    have hpos : 0 < rs.length := List.length_pos_of_mem hrs
    have hlt : t % rs.length < rs.length := Nat.mod_lt _ hpos
    have hmem : rs[t % rs.length] ∈ rs := List.getElem_mem hlt
    generalize hi : rs[t % rs.length] = i at hmem
    obtain ⟨h1, h2⟩ := List.mem_filter.mp hmem
    have h1 := List.mem_range.mp h1
    simp only [Bool.and_eq_true, Bool.not_eq_true'] at h2
    have hd := (dep i h1).mp h2.2
    have hnew : ∀ (j : Nat) (d : Bool), (listed.setIfInBounds i true).getD j d = if j = i then true else listed.getD j d := by
      intro j d
      have his : i < listed.size := by omega
      simp only [Array.getD_eq_getD_getElem?, Array.getElem?_setIfInBounds]
      by_cases hji : j = i
      · subst hji; simp [his]
      · have hij : ¬ i = j := fun h => hji h.symm
        rw [if_neg hij, if_neg hji]
    have hrest : rest ops.size (listed.setIfInBounds i true) = (rest ops.size listed).filter (· != i) := by
      simp only [rest, List.filter_filter]
      refine List.filter_congr fun j _ => ?_
      rw [hnew]
      by_cases hji : j = i
      · simp [hji]
      · simp [hji]
    have hir : i ∈ rest ops.size listed := (mem i).mpr ⟨h1, h2.1⟩
    have hnd : (rest ops.size listed).Nodup := List.nodup_range.filter _
    have hperm : (rest ops.size listed).Perm (i :: rest ops.size (listed.setIfInBounds i true)) := by
      rw [hrest, ← hnd.erase_eq_filter i]
      exact List.perm_cons_erase hir
    have hlen : (rest ops.size (listed.setIfInBounds i true)).length = fuel := by
      have := hperm.length_eq
      simp only [List.length_cons] at this
      omega
    obtain ⟨L, g1, g2, g3⟩ := go_ok ho fuel (t / rs.length) (listed.setIfInBounds i true) (i :: acc) (by simpa using hsz) hlen
    refine ⟨i :: L, ?_, ⟨hd, ?_⟩, (g3.cons i).trans hperm.symm⟩
    · show (match rs[t % rs.length]? with | some i => Region.linearise.go .any ops fuel (t / rs.length) (listed.setIfInBounds i true) (i :: acc) | none => acc.reverse) = _
      rw [List.getElem?_eq_getElem hlt, hi]
      simp only [g1, List.reverse_cons, List.append_assoc, List.singleton_append]
    · have e : (fun y => (listed.setIfInBounds i true).getD y false = true) = fun y => y = i ∨ listed.getD y false = true := by
        funext y
        rw [hnew]
        by_cases hy : y = i
        · simp [hy]
        · simp [hy]
      rw [e] at g2
      exact g2

theorem linearise_ok {ops : Array Oper} (ho : Opened pc om tk ops.toList) (t : Nat) : Lin ops.toList (fun _ => False) (Region.linearise .any ops t) ∧ (Region.linearise .any ops t).Perm (List.range ops.size) := by
  have hg : ∀ (i : Nat) (d : Bool), i < ops.size → (Array.replicate ops.size false).getD i d = false := by
    intro i d hi
    simp [Array.getD, hi]
  have hr : rest ops.size (Array.replicate ops.size false) = List.range ops.size := by
    refine List.filter_eq_self.mpr fun i hi => ?_
    rw [hg i true (List.mem_range.mp hi)]
    rfl
  obtain ⟨L, h1, h2, h3⟩ := go_ok (ops := ops) ho ops.size t (Array.replicate ops.size false) [] (by simp) (by rw [hr]; simp)
  have e : (fun i => (Array.replicate ops.size false).getD i false = true) = fun _ => False := by
    funext i
    simp [Array.getD]
  rw [e] at h2
  unfold Region.linearise
  rw [h1]
  exact ⟨h2, by rw [hr] at h3; exact h3⟩

/-- Whatever the order. -/
theorem open_same (hom : om = true → ∃ l, ob = some l) {ops : Array Oper} (h : openB pc om tk ops.toList = true) {s r : St} (hl : s.ln = []) (hn : opsQ C T base ops.toList tk al ob pc (List.range ops.size) s = some r) (t : Nat) : opsF C T base ops.toList tk al (Region.linearise .any ops t) s = some r := by
  have ho := opened h
  obtain ⟨h1, h2⟩ := linearise_ok ho t
  exact opsQ_opsF _ (any_order hom ho _ _ _ h1 (fun _ h => h.elim) List.pairwise_lt_range h2 (fun _ _ h => h) hl hn)

end Go.PI
