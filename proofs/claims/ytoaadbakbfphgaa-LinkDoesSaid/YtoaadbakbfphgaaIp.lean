/- Conversions; fields; parts put together. -/
import Derived.Test.YtoaadbakbfphgaaIo
import Derived.Great.BuildSlice
namespace Go.PI
open Go

variable {P : Program} {base : Nat} {G : Gh} {w : World} {st : St} {tmps : Array Value} {T : Nat → TI}

theorem field_ok {C : CallT} {ds : List Nat} {o : Oper} {x : Operand} {ty f : Nat} {d : D} {ps : List Pl} {s : St} (tk : TOk P T) (r : Rel G w st tmps) (ho : o.op = .field ty x f) (h : opV C T base ds o st = some (d, ps, s)) : Good P base G w st tmps o d ps s := by
  have hd := tk.desc ty
  unfold opV at h
  simp only [ho] at h
  split at h
  · rename_i fs z l s' hT hu
    rw [hT] at hd
    obtain ⟨fields, h1, h2, h3⟩ := hd
    split at h
    · rename_i off n ft hf
      split at h
      · rename_i hc
        obtain ⟨hc1, hc2⟩ := hc
        simp only [Option.some.injEq, Prod.mk.injEq] at h
        obtain ⟨rfl, rfl, rfl⟩ := h
        obtain ⟨fl, i, g1, g2, g3, g4, g5⟩ := h3 _ _ hf
        have hno := other_of_size hc1
        obtain ⟨G', r', q', b', g', ro, fl'⟩ := use_ok base T ty r hu
        obtain ⟨vs, hvs, hsz, hro⟩ : ∃ vs, ev tmps x = .agg vs ∧ vs.size = l.length ∧ ∀ i (h : i < l.length) (h' : i < vs.size), Ro G' w l[i] vs[i] := by
          generalize ev tmps x = u at ro
          cases ro with
          | agg _ vs hs hv => exact ⟨vs, rfl, hs, hv⟩
        have hfl := fl' l rfl
        have hlen : ((l.drop off).take (T ft).size).length = (T ft).size := by simp; omega
        have hlen2 : (((vs.toList.drop off).take (T ft).size)).length = (T ft).size := by simp; omega
        have h1a : (T ft).agg = false → ((l.drop off).take (T ft).size).length = 1 := fun h => by rw [hlen]; exact size_one h hno
        have hel : ∀ j (hj : j < ((l.drop off).take (T ft).size).length), ((l.drop off).take (T ft).size)[j] = l[off + j]'(by omega) := fun j hj => by simp
        refine ⟨⟨_, w, G', ?_, r', slot_mk (vs := (vs.toList.drop off).take (T ft).size) (by rw [hlen, hlen2]) h1a fun j hj hj' => ?_, q', unt_refl _ _ _ _⟩, bors_mk h1a ?_ ?_, g'⟩
        · have e1 := tk.isAgg hno w
          have e2 := tk.sizeOf hno w
          have ht : fl.type = ft := g3
          have hof : fl.offset = off := g2
          simp only [execOp, ho, hvs, Instr.field, run_underlying h1, Sem.run_bind, Result.andThen_ok, g1, part, ht, hof, asAgg, Sem.run_pure, e1]
          cases hag : (T ft).agg with
          | true =>
            simp only [if_true, Sem.run_bind, e2, Result.andThen_ok, Sem.run_pure]
            congr 4
            apply Array.ext'
            simp [Array.toList_extract]
          | false =>
            have h1s : (T ft).size = 1 := size_one hag hno
            have hlt : off < vs.size := by omega
            simp only [Bool.false_eq_true, if_false, Array.getElem?_eq_getElem hlt, Sem.run_pure, Result.andThen_ok]
            simp [h1s, hlt, List.take_one, List.head?_drop]
        · have hl : off + j < l.length := by omega
          have hv : off + j < vs.size := by omega
          have := hro (off + j) hl hv
          rw [hel j hj]
          have e : ((vs.toList.drop off).take (T ft).size)[j] = vs[off + j] := by simp
          rw [e]
          exact ro_leaf this (hfl _ (List.getElem_mem hl))
        · intro y hy
          obtain ⟨j, hj, rfl⟩ := List.mem_iff_getElem.mp hy
          rw [hel j hj]
          have hl : off + j < l.length := by omega
          exact ⟨hfl _ (List.getElem_mem hl), (ro_nobors (hro (off + j) hl (by omega))).2⟩
        · intro y hy p hb
          obtain ⟨j, hj, rfl⟩ := List.mem_iff_getElem.mp hy
          rw [hel j hj] at hb
          have hl : off + j < l.length := by omega
          exact absurd hb (ro_nolbor (hro (off + j) hl (by omega)) p)
      · cases h
    · cases h
  · cases h

theorem elemsBytes_row {n b o : Nat} {bs : List UInt8} : ∀ {l : List (List D)}, elemsBytes l = some bs → Row G w n l b o → n = 1 →
    ∃ ns : List Int, ns.length = l.length ∧ ns.map (fun n => UInt8.ofNat n.toNat) = bs ∧ ∀ i, i < l.length → w.cell? (at_ b (o + i)) = some (.int .u8 (ns.getD i 0)) := by
  intro l h r hn
  subst hn
  obtain ⟨hw, vs, hc, hv⟩ := r
  have key : ∀ (l : List (List D)) (bs : List UInt8), elemsBytes l = some bs → ∃ ns : List Int, l = ns.map (fun n => [D.int .u8 n]) ∧ ns.map (fun n => UInt8.ofNat n.toNat) = bs := by
    intro l
    induction l with
    | nil => intro bs h; cases h; exact ⟨[], rfl, rfl⟩
    | cons x l ih =>
      intro bs h
      match x, h with
      | [.int .u8 n], h =>
        simp only [elemsBytes, Option.map_eq_some_iff] at h
        obtain ⟨bs', h1, rfl⟩ := h
        obtain ⟨ns, rfl, rfl⟩ := ih bs' h1
        exact ⟨n :: ns, rfl, rfl⟩
  obtain ⟨ns, rfl, rfl⟩ := key l bs h
  refine ⟨ns, by simp, rfl, fun i hi => ?_⟩
  have h1 := (hc i 0 hi (by omega)).trans rfl
  have h2 := hv i 0 hi (by simp)
  simp only [Nat.mul_one, Nat.add_zero] at h1
  rw [h1]
  have e : ((ns.map (fun n => [D.int .u8 n]))[i]'hi)[0]'(by simp) = .int .u8 (ns[i]'(by simpa using hi)) := by simp
  rw [e] at h2
  generalize vs i 0 = u at h2
  cases h2
  simp [List.getD, (by simpa using hi : i < ns.length)]

theorem push_bytes : ∀ (ns : List Int) (r : ByteArray), ns.foldl (fun r n => r.push (UInt8.ofNat n.toNat)) r = ⟨r.data ++ (ns.map fun n => UInt8.ofNat n.toNat).toArray⟩
  | [], r => by simp
  | n :: ns, r => by
    rw [List.foldl_cons, push_bytes ns]
    simp [ByteArray.push]

theorem convert_ok {C : CallT} {ds : List Nat} {o : Oper} {x : Operand} {src dst : Nat} {d : D} {ps : List Pl} {s : St} (tk : TOk P T) (r : Rel G w st tmps) (ho : o.op = .convert src dst x) (h : opV C T base ds o st = some (d, ps, s)) : Good P base G w st tmps o d ps s := by
  have hs := tk.desc src
  have hd := tk.desc dst
  unfold opV at h
  simp only [ho] at h
  cases hb : convD T src dst (st.see T src x) with
  | none => rw [hb] at h; cases h
  | some d' =>
    rw [hb] at h
    unfold convD at hb
    split at hb
    · rename_i k0 k k1 n h1 h2 hx
      rw [h1] at hs
      rw [h2] at hd
      cases hb
      refine good_one r (v := .int k (k.wrap n)) ?_ (.int _ _) (by simp) h
      have hx := see_int r hx
      simp [execOp, ho, hx, convert, run_underlying hs, run_underlying hd, Conv.intToInt]
    · rename_i b h1 h2 hx
      rw [h1] at hs
      rw [h2] at hd
      cases hb
      refine good_one r (v := .string b) ?_ (.str _) (by simp) h
      have hx := see_str r hx
      simp [execOp, ho, hx, convert, run_underlying hs, run_underlying hd]
    · rename_i e z f l h1 h2 hx
      rw [h1] at hs
      rw [h2] at hd
      obtain ⟨hs, _⟩ := hs
      split at hb
      · rename_i hby
        simp only [Option.map_eq_some_iff] at hb
        obtain ⟨bs, hb, rfl⟩ := hb
        have he := tk.desc e.ty
        have he : P.underlying e.ty = some (.int .u8) := by
          revert he hby
          cases T e.ty <;> simp [byteT]
          rename_i k
          cases k <;> simp [TDesc]
        refine good_one r (v := .string ⟨bs.toArray⟩) ?_ (.str _) (by simp) h
        rcases see_sl r hx with ⟨rfl, a, cap, hx⟩ | ⟨b, o', cap, hx, hr⟩
        · cases hb
          simp only [execOp, ho, hx, Sem.run_bind, run_convert_bytes_string w src dst e.ty a 0 cap hs he hd]
          cases a with
          | none => simp [Conv.bytesToString]; rfl
          | some a =>
            rw [run_bytesToString w a 0 cap [] (by simp [loadCells, loadCellsFrom])]
            rfl
        · obtain ⟨ns, hn1, hn2, hn3⟩ := elemsBytes_row hb hr rfl
          · simp only [execOp, ho, hx, Sem.run_bind, run_convert_bytes_string w src dst e.ty _ _ cap hs he hd]
            rw [run_bytesToString w (at_ b o') l.length cap ns, push_bytes, hn2]
            · simp
            · have := run_loadCells_list (P := P) (w := w) (at_ b o') (ns.map (Value.int .u8)) fun j v hj => ?_
              · rw [← hn1]; simpa using this
              · obtain ⟨hj1, hj2⟩ := List.getElem?_eq_some_iff.mp hj
                have hj3 : j < ns.length := by simpa using hj1
                have := hn3 j (by omega)
                rw [add_at, this, ← hj2]
                simp [List.getD, hj3]
      · cases hb
    · rename_i e z b h1 h2 hx
      rw [h1] at hs
      rw [h2] at hd
      obtain ⟨hd, _⟩ := hd
      split at hb
      · rename_i hby
        obtain ⟨hby, hce⟩ := hby
        cases hb
        have he := tk.desc e.ty
        have he : P.underlying e.ty = some (.int .u8) := by
          revert he hby
          cases T e.ty <;> simp [byteT]
          rename_i k
          cases k <;> simp [TDesc]
        simp only [Option.map_some, Option.some.injEq, Prod.mk.injEq] at h
        obtain ⟨rfl, rfl, rfl⟩ := h
        have hx := see_str r hx
        have m := more_bytes w e.ty b
        have hsz : (Lib.bytesCells w e.ty b).size = b.size + (grownCap w b.size 0 e.ty - b.size) := by simp [Lib.bytesCells]
        have hlen : (byteElems b.data.toList).length = b.size := by simp [byteElems]
        have hcap : b.size ≤ grownCap w b.size 0 e.ty := grownCap_ge w _ _ _
        refine good_new (q := .ex (.r 0 0)) r m (v := .slice (some (at_ w.heap.size 0)) b.size (grownCap w b.size 0 e.ty)) ?_ ?_ trivial
        · simp only [execOp, ho, hx, Sem.run_bind, Lib.run_convert_string_bytes w src dst e.ty b hs hd he, Result.andThen_ok, Sem.run_pure]
          rfl
        · have := new_own (G := G) m rfl (fun i hi => ?_) (n := 1) (cap := grownCap w b.size 0 e.ty) (l := byteElems b.data.toList) (by omega) (by omega) (fun x hx => ?_) (fun i j hi hj => ?_) (.r 0 0)
          · rw [hlen] at this
            exact this
          · have hi' : i < (Lib.bytesCells w e.ty b).size := hi
            simp only [World.frozen?, at_, m.new]
            have hk : ¬ (Lib.bytesCells w e.ty b).size ≤ i := by omega
            simp [hk]
          · simp only [byteElems, List.mem_map] at hx
            obtain ⟨c, _, rfl⟩ := hx
            exact ⟨rfl, by simp⟩
          · have hi2 : i < b.size := by omega
            have hj0 : j = 0 := by
              have : ((byteElems b.data.toList)[i]).length = 1 := by simp [byteElems]
              omega
            subst hj0
            have hi3 : i < b.data.size := hi2
            refine ⟨.int .u8 (b.data[i]).toNat, ?_, ?_⟩
            · unfold Lib.bytesCells
              rw [Nat.mul_one, Nat.add_zero, Array.getElem?_append_left (by simpa using hi3)]
              simp only [Array.getElem?_map, Array.getElem?_eq_getElem hi3, Option.map_some]
            · have : ((byteElems b.data.toList)[i])[0] = D.int .u8 (b.data[i]).toNat := by simp [byteElems]
              rw [this]
              exact .int _ _
      · cases hb
    · cases hb

end Go.PI
