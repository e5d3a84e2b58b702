/- Appends. -/
import Derived.Test.YtoaadbakbfphgaaIl
namespace Go.PI
open Go Go.Lib

variable {P : Program} {base : Nat} {G : Gh} {w w' : World} {st : St} {tmps : Array Value} {T : Nat → TI}

/-- Cells of block b from lo on are overwritten; nothing else. -/
structure Wrote (w w' : World) (b lo : Nat) (vs : List Value) : Prop where
  os : w'.os = w.os
  tape : w'.tape = w.tape
  output : w'.output = w.output
  size : w'.heap.size = w.heap.size
  other : ∀ k, k ≠ b → w'.heap[k]? = w.heap[k]?
  block : ∀ cs ty fz, w.heap[b]? = some (.cells cs ty fz) → ∃ cs', w'.heap[b]? = some (.cells cs' ty fz) ∧ cs'.size = cs.size
  out : ∀ i, i < lo ∨ lo + vs.length ≤ i → w'.cell? (at_ b i) = w.cell? (at_ b i)
  inn : (∀ j, j < vs.length → (w.cell? (at_ b (lo + j))).isSome = true) → ∀ j (hj : j < vs.length), w'.cell? (at_ b (lo + j)) = some vs[j]
  fz : ∀ x, w'.frozen? x = w.frozen? x

theorem setCell_block (w : World) (b i : Nat) (v : Value) {cs : Array Value} {ty : TypeId} {fz : Nat × Nat} (h : w.heap[b]? = some (.cells cs ty fz)) : ∃ cs', (w.setCell ⟨b, i, none⟩ v).heap[b]? = some (.cells cs' ty fz) ∧ cs'.size = cs.size := by
  refine ⟨cs.setIfInBounds i v, ?_, by simp⟩
  simp [World.setCell, Array.getElem?_modify, h]

theorem wrote_setCells (b : Nat) : ∀ (vs : List Value) (lo : Nat) (w : World), Wrote w (w.setCells b lo vs) b lo vs
  | [], lo, w => ⟨rfl, rfl, rfl, rfl, fun _ _ => rfl, fun cs _ _ h => ⟨cs, h, rfl⟩, fun _ _ => rfl, fun _ j hj => by simp at hj, fun _ => rfl⟩
  | v :: r, lo, w => by
    have ih := wrote_setCells b r (lo + 1) (w.setCell ⟨b, lo, none⟩ v)
    refine ⟨ih.os, ih.tape, ih.output, ih.size.trans (by simp), fun k hk => (ih.other k hk).trans (heap_setCell_other w _ k v hk), fun cs ty fz h => ?_, fun i hi => ?_, fun hc j hj => ?_, fun x => World.frozen?_setCells b _ _ w x⟩
    · obtain ⟨c1, h1, h2⟩ := setCell_block w b lo v h
      obtain ⟨c2, h3, h4⟩ := ih.block c1 ty fz h1
      exact ⟨c2, h3, h4.trans h2⟩
    · exact World.cell?_setCells_out b _ lo w _ (fun _ _ => hi)
    · exact World.cell?_setCells_in b _ lo w hc j hj

theorem Wrote.cell_other {b lo : Nat} {vs : List Value} (h : Wrote w w' b lo vs) {k i : Nat} (hk : k ≠ b) : w'.cell? (at_ k i) = w.cell? (at_ k i) := cell_of_heap (h.other k hk) i

theorem Wrote.whole {b lo k n : Nat} {vs : List Value} (h : Wrote w w' b lo vs) (hw : Whole w k n) : Whole w' k n := by
  obtain ⟨cs, ty, fz, h1, h2, h3⟩ := hw
  by_cases hk : k = b
  · subst hk
    obtain ⟨cs', h4, h5⟩ := h.block cs ty fz h1
    exact ⟨cs', ty, fz, h4, by omega, fun i hi => by rw [h.fz]; exact h3 i (by omega)⟩
  · exact ⟨cs, ty, fz, (h.other k hk).trans h1, h2, fun i hi => by rw [h.fz]; exact h3 i hi⟩

/-- A block of one's own is written. -/
theorem Wrote.step {b lo : Nat} {vs : List Value} (h : Wrote w w' b lo vs) (q : Perm) (hp : (∃ κ, G.pm b = .ex κ) ∨ ∃ m κ, G.pm b = .tip m κ ∧ m ≤ lo ∧ ∃ m' κ', m ≤ m' ∧ q = .tip m' κ') : Step G w (G.grant b q) w' := by
  have hne : ∀ {x : Nat} {p : Perm}, G.pm x = p → (p = .fr ∨ ∃ m, p = .held m) → x ≠ b := by
    rintro x p e hq rfl
    rcases hp with ⟨κ, hp⟩ | ⟨m, κ, hp, _⟩ <;> rw [hp] at e <;> subst e <;> rcases hq with hq | ⟨_, hq⟩ <;> cases hq
  refine ⟨⟨h.os, h.tape, h.output, by rw [h.size]; exact Nat.le_refl _, fun x _ e => ?_, fun x _ _ e => ?_, fun x m k _ e => ?_, fun _ _ _ h => h⟩, fun _ _ h => h⟩
  · have := hne e (.inl rfl); exact ⟨(grant_ne G q this).trans e, h.other x this⟩
  · have := hne e (.inr ⟨_, rfl⟩); exact ⟨(grant_ne G q this).trans e, h.other x this⟩
  · by_cases hx : x = b
    · subst hx
      rcases hp with ⟨κ, hp⟩ | ⟨m0, κ, hp, hlo, m', κ', hm, rfl⟩
      · rw [hp] at e; cases e
      · rw [hp] at e; cases e
        exact ⟨.inl ⟨m', κ', hm, grant_self _ _ _⟩, fun i hi => h.out i (.inl (by omega))⟩
    · exact ⟨.inl ⟨m, k, Nat.le_refl _, (grant_ne G q hx).trans e⟩, fun i _ => h.cell_other hx⟩

theorem Wrote.moves {b lo : Nat} {vs : List Value} (h : Wrote w w' b lo vs) (q : Perm) {κ κ' : Key} (hp : G.pm b = .ex κ ∨ ∃ m, G.pm b = .tip m κ) (hne : κ' ≠ κ) : Moves G w (G.grant b q) w' κ' κ' := by
  intro x _
  by_cases hx : x = b
  · subst hx
    refine ⟨fun e => ?_, fun m e => ?_⟩
    · rcases hp with hp | ⟨_, hp⟩ <;> rw [hp] at e
      · injection e with e; exact absurd e.symm hne
      · cases e
    · rcases hp with hp | ⟨_, hp⟩ <;> rw [hp] at e
      · cases e
      · injection e with _ e; exact absurd e.symm hne
  · rw [grant_ne G q hx]
    exact ⟨fun e => ⟨e, h.other x hx⟩, fun _ e => ⟨e, h.other x hx⟩⟩

theorem Wrote.rel {b lo : Nat} {vs : List Value} (h : Wrote w w' b lo vs) (q : Perm) {i0 j0 : Nat} (hp : G.pm b = .ex (.r i0 j0) ∨ ∃ m, G.pm b = .tip m (.r i0 j0)) (hs : Step G w (G.grant b q) w') (r : Rel G w st tmps) :
    Rel (G.grant b q) w' st tmps ∧ Unt base G w w' st.dirty := by
  have hv : ∀ (loc x : Nat), G.bl[loc]? = some (some x) → (G.grant b q).pm x = G.pm x ∧ w'.heap[x]? = w.heap[x]? := fun loc x e => by
    have hx : x ≠ b := by
      rintro rfl
      have := r.bx.var loc x e
      rcases hp with hp | ⟨_, hp⟩ <;> rw [hp] at this <;> cases this
    exact ⟨grant_ne G q hx, h.other x hx⟩
  exact ⟨⟨r.len, fun t ht ht' => (r.slot t ht ht').move hs (fun i j => h.moves q hp (by simp)) fun p _ => placeV_step rfl (fun loc x e => (hv loc x e).2) p, r.ln, r.bx.keep hs rfl hv fun loc j => h.moves q hp (by simp)⟩,
    fun loc x _ e _ => (hv loc x e).2⟩

theorem vals_step {n : Nat} {m : List (List D)} {vs : List Value} {G' : Gh} (h : Step G w G' w') (v : Vals G w n m vs) : Vals G' w' n m vs :=
  ⟨v.len, v.el, fun i j hi hj => by obtain ⟨u, h1, h2⟩ := v.ro i j hi hj; exact ⟨u, h1, h2.evo h.evo h.bl⟩, v.one⟩

/-- A row that has grown in its own block. -/
theorem Row.grown {n b o : Nat} {l m : List (List D)} {vs : List Value} (hw : Wrote w w' b (o + l.length * n) vs) {G' : Gh} (hs : Step G w G' w') (hr : Row G w n l b o) (hv : Vals G w n m vs) (hc : ∀ j, j < vs.length → (w.cell? (at_ b (o + l.length * n + j))).isSome = true) :
    Row G' w' n (l ++ m) b o := by
  obtain ⟨he, f, hf, hro⟩ := hr
  refine ⟨fun x hx => (List.mem_append.mp hx).elim (he x) (hv.el x), fun i j => if i < l.length then f i j else (vs[(i - l.length) * n + j]?).getD undef, fun i j hi hj => ?_, fun i j hi hj => ?_⟩
  · dsimp only
    by_cases h1 : i < l.length
    · rw [if_pos h1, hw.out _ (.inl (by have := mul_add_lt h1 hj; omega))]
      exact hf i j h1 hj
    · rw [if_neg h1]
      have h2 : i - l.length < m.length := by simp at hi; omega
      have h3 := mul_add_lt h2 hj
      have h4 : (i - l.length) * n + j < vs.length := by rw [hv.len]; exact h3
      have := hw.inn hc _ h4
      rw [show o + i * n + j = o + l.length * n + ((i - l.length) * n + j) by
        have : i * n = l.length * n + (i - l.length) * n := by rw [← Nat.add_mul]; congr 1; omega
        omega, this]
      simp [h4]
  · by_cases h1 : i < l.length
    · simp only [if_pos h1, List.getElem_append_left h1] at hj ⊢
      exact (hro i j h1 hj).evo hs.evo hs.bl
    · have h2 : i - l.length < m.length := by simp at hi; omega
      simp only [if_neg h1]
      simp only [List.getElem_append_right (Nat.le_of_not_lt h1)] at hj ⊢
      obtain ⟨u, h3, h4⟩ := hv.ro _ j h2 hj
      rw [h3]
      exact h4.evo hs.evo hs.bl

theorem run_fromCells (t u e : TypeId) (ty : TypeId) (i : TypeInfo) (du : TypeDesc) (ht : P.underlying t = some (.slice e)) (hu : P.underlying u = some du) (hdu : ∀ k, du ≠ .int k) (hi : P.info? e = some i) (x : Value) (m : Nat) (hl : (Builtin.lenOf x).run P w = .ok m w)
    (a : Option Addr) (sLen sCap : Nat) (news : Array Value) (hf : (Builtin.firstCells i.size m x).run P w = .ok news w) (hroom : sLen + m ≤ sCap)
    (hst : (match a with | some a => storeCells (a.add (sLen * i.size)) news.toList | none => pure () : Sem Unit).run P w = .ok () w') :
    (Builtin.append_ #[t, u] ty #[.slice a sLen sCap, x]).run P w = .ok (.slice a (sLen + m) sCap) w' := by
  cases a with
  | none =>
    simp only [Sem.run_pure, Result.ok.injEq, true_and] at hst
    subst hst
    simp [Builtin.append_, run_underlying ht, run_underlying hu, sizeOf, typeInfo, hi, hl, hroom, hf]
  | some a =>
    simp only at hst
    simp [Builtin.append_, run_underlying ht, run_underlying hu, sizeOf, typeInfo, hi, hl, hroom, hf, hst]

theorem run_app_grow (t u e : TypeId) (ty : TypeId) (i : TypeInfo) (zv : Value) (du : TypeDesc) (ht : P.underlying t = some (.slice e)) (hu : P.underlying u = some du) (hdu : ∀ k, du ≠ .int k) (hi : P.info? e = some i) (hzv : i.zero = some zv) (x : Value) (m : Nat) (hl : (Builtin.lenOf x).run P w = .ok m w)
    (a : Option Addr) (sLen sCap : Nat) (olds news : Array Value) (hfo : (Builtin.firstCells i.size sLen (.slice a sLen sCap)).run P w.drew = .ok olds w.drew) (hf : (Builtin.firstCells i.size m x).run P w.drew = .ok news w.drew) (hroom : sCap < sLen + m)
    (h63 : ((sLen + m : Nat) : Int) ≤ 9223372036854775807) (hfit : Builtin.nextslicecap (sLen + m) sCap * i.bytes ≤ 281474976710656) :
    (Builtin.append_ #[t, u] ty #[.slice a sLen sCap, x]).run P w =
      .ok (.slice (some ⟨w.heap.size, 0, none⟩) (sLen + m) (grownCap w (sLen + m) sCap e)) (w.drew.alloc (.cells (olds ++ news ++ Builtin.zeroCells zv.cells (grownCap w (sLen + m) sCap e - (sLen + m))) e)) := by
  have hn : ¬ (sLen + m ≤ sCap) := by omega
  have h63' : ¬ (9223372036854775807 < ((sLen : Int) + (m : Int))) := by omega
  have h48' : ¬ (281474976710656 < Builtin.nextslicecap (sLen + m) sCap * i.bytes) := by omega
  simp [Builtin.append_, run_underlying ht, run_underlying hu, sizeOf, typeInfo, zeroValue, hi, hzv, hl, hn, h63', h48', Question.forced, hfo, hf, newRow, grownCap]

theorem byte_vals (s : ByteArray) : Vals G w 1 (byteElems s.data.toList) (s.data.toList.map fun b => Value.int .u8 b.toNat) := by
  refine ⟨by simp [byteElems], fun x hx => ?_, fun i j hi hj => ?_, fun v hv => ?_⟩
  · simp only [byteElems, List.mem_map] at hx
    obtain ⟨b, _, rfl⟩ := hx
    exact ⟨rfl, by simp⟩
  · have hi' : i < s.data.toList.length := by simpa [byteElems] using hi
    have e : (byteElems s.data.toList)[i] = [.int .u8 (s.data.toList[i]).toNat] := by simp [byteElems]
    simp only [e] at hj ⊢
    have : j = 0 := by simpa using hj
    subst this
    exact ⟨.int .u8 (s.data.toList[i]).toNat, by rw [Nat.mul_one, Nat.add_zero, List.getElem?_map, List.getElem?_eq_getElem hi']; rfl, .int _ _⟩
  · simp only [List.mem_map] at hv
    obtain ⟨b, _, rfl⟩ := hv
    rfl

theorem more_ok (tk : TOk P T) (r : Rel G w st tmps) {n u : Nat} {y : Operand} {m : List (List D)} (hn : 0 < n) (h : moreOf T n u (st.see T u y) = some m) :
    ∃ du vs, P.underlying u = some du ∧ (∀ k, du ≠ .int k) ∧ Vals G w n m vs ∧ (∀ w2, (Builtin.lenOf (ev tmps y)).run P w2 = .ok m.length w2) ∧
      ∀ w2 : World, w2.heap = w.heap → (Builtin.firstCells n m.length (ev tmps y)).run P w2 = .ok vs.toArray w2 := by
  have hd := tk.desc u
  unfold moreOf at h
  split at h
  · rename_i e z f k l hT hs
    rw [hT] at hd
    split at h
    · rename_i hk
      subst hk
      cases h
      refine ⟨.slice e.ty, ?_⟩
      rcases see_sl r hs with ⟨rfl, a, cap, hx⟩ | ⟨b, o', cap, hx, hr⟩
      · refine ⟨[], hd.1, by simp, ⟨by simp, by simp, by simp, by simp⟩, fun w2 => by rw [hx]; simp [Builtin.lenOf], fun w2 _ => ?_⟩
        rw [hx]
        cases a with
        | none => simp [Builtin.firstCells]
        | some a => simp [Builtin.firstCells, loadCells, loadCellsFrom]
      · obtain ⟨vs, hv, hc⟩ := row_vals hr hn
        refine ⟨vs, hd.1, by simp, hv, fun w2 => by rw [hx]; simp [Builtin.lenOf], fun w2 hw2 => ?_⟩
        rw [hx]
        refine run_firstCells_some (P := P) w2 k m.length (at_ b o') m.length cap vs hv.len fun j v hj => ?_
        rw [add_at]
        have := hc j v hj
        simpa [World.cell?, at_, hw2] using this
    · cases h
  · rename_i s hT hs
    rw [hT] at hd
    split at h
    · rename_i hk
      subst hk
      cases h
      have hx := see_str r hs
      refine ⟨_, _, hd, by simp, byte_vals s, fun w2 => ?_, fun w2 _ => ?_⟩
      · rw [hx]; simp [Builtin.lenOf, byteElems]
      · rw [hx]
        have : (byteElems s.data.toList).length = s.size := by simp [byteElems]
        have hex : s.extract 0 s.size = s := by simp
        simp only [Builtin.firstCells, Sem.run_pure, this, hex]
        congr 1
        apply Array.ext'
        simp
    · cases h
  · cases h

end Go.PI
