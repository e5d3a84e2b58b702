/- The append as a whole. -/
import Derived.Test.YtoaadbakbfphgaaIm
namespace Go.PI
open Go Go.Lib

variable {P : Program} {base : Nat} {G : Gh} {w w' : World} {st : St} {tmps : Array Value} {T : Nat → TI}

/-- What an append comes to: the right is kept. -/
structure Appended (P : Program) (base : Nat) (G : Gh) (w : World) (st : St) (tmps : Array Value) (v x : Value) (t u ty : TypeId) (f n : Nat) (l : List (List D)) : Prop where
  ex : ∃ v' w' G', (Builtin.append_ #[t, u] ty #[v, x]).run P w = .ok v' w' ∧ Rel G' w' st tmps ∧ Leaf G' w' tmps (.r 0 0) (.sl f n l) v' ∧ Step G w G' w' ∧ Unt base G w w' st.dirty

theorem append_new (r : Rel G w st tmps) {v x : Value} {t u ty e : TypeId} {i : TypeInfo} {zv : Value} {du : TypeDesc} {f n : Nat} {l m : List (List D)} {vs olds : List Value} {a : Option Addr} {sCap : Nat}
    (hf : f = 1 ∨ f = 2) (ht : P.underlying t = some (.slice e)) (hu : P.underlying u = some du) (hdu : ∀ k, du ≠ .int k) (hi : P.info? e = some i) (hzv : i.zero = some zv) (hin : i.size = n) (hzs : zv.cells.size = n)
    (hl : (Builtin.lenOf x).run P w = .ok m.length w) (hv : Vals G w n m vs) (hvo : Vals G w n l olds) (ha : v = .slice a l.length sCap) (hroom : sCap < l.length + m.length)
    (hfo : (Builtin.firstCells n l.length v).run P w.drew = .ok olds.toArray w.drew) (hfm : (Builtin.firstCells n m.length x).run P w.drew = .ok vs.toArray w.drew)
    (hb : (l.length + m.length) * i.bytes ≤ room) (hby : 0 < i.bytes) : Appended P base G w st tmps v x t u ty f n (l ++ m) := by
  subst ha
  unfold Go.PI.room at hb
  have h63 : ((l.length + m.length : Nat) : Int) ≤ 9223372036854775807 := by
    have : l.length + m.length ≤ (l.length + m.length) * i.bytes := Nat.le_mul_of_pos_right _ hby
    omega
  have run := run_app_grow (P := P) (w := w) t u e ty i zv du ht hu hdu hi hzv x m.length hl a l.length sCap olds.toArray vs.toArray (by rw [hin]; exact hfo) (by rw [hin]; exact hfm) hroom h63 (growslice_fits hroom hb)
  generalize hcap : grownCap w (l.length + m.length) sCap e = cap at run
  have hge : l.length + m.length ≤ cap := by rw [← hcap]; exact grownCap_ge w _ _ e
  have mo := more_drew_alloc w (.cells (olds.toArray ++ vs.toArray ++ Builtin.zeroCells zv.cells (cap - (l.length + m.length))) e)
  have hsz : (olds.toArray ++ vs.toArray ++ Builtin.zeroCells zv.cells (cap - (l.length + m.length))).size = cap * n := by
    simp only [Array.size_append, List.size_toArray, hvo.len, hv.len, size_zeroCells, hzs, ← Nat.add_mul]
    congr 1; omega
  have hown := new_own (G := G) mo rfl (n := n) (cap := cap) (l := l ++ m) (fun i _ => by simp only [World.frozen?, at_, mo.new]; simp) (by simpa using hge) (by rw [hsz]; exact Nat.le_refl _)
    (fun y hy => (List.mem_append.mp hy).elim (hvo.el y) (hv.el y)) (fun p j hp hj => by
      by_cases h1 : p < l.length
      · simp only [List.getElem_append_left h1] at hj ⊢
        obtain ⟨y, h2, h3⟩ := hvo.ro p j h1 hj
        have h4 : p * n + j < olds.length := (List.getElem?_eq_some_iff.mp h2).1
        refine ⟨y, ?_, h3⟩
        rw [Array.append_assoc, Array.getElem?_append_left (by simpa using h4)]
        simpa using h2
      · have h1' : p - l.length < m.length := by simp at hp; omega
        simp only [List.getElem_append_right (Nat.le_of_not_lt h1)] at hj ⊢
        obtain ⟨y, h2, h3⟩ := hv.ro _ j h1' hj
        have h4 : (p - l.length) * n + j < vs.length := (List.getElem?_eq_some_iff.mp h2).1
        refine ⟨y, ?_, h3⟩
        have h5 : p * n + j = olds.length + ((p - l.length) * n + j) := by
          rw [hvo.len]
          have : p * n = l.length * n + (p - l.length) * n := by rw [← Nat.add_mul]; congr 1; omega
          omega
        rw [h5, Array.getElem?_append_left (by simp; omega), Array.getElem?_append_right (by simp)]
        simpa using h2) (.r 0 0)
  have hlen : (l ++ m).length = l.length + m.length := by simp
  rw [hlen] at hown
  rcases hf with rfl | rfl
  · obtain ⟨G2, s2, b2, m2, v2, t2⟩ := own_down hown
    have r1 := mo.rel (.ex (.r 0 0)) r
    have s1 := mo.step G (.ex (.r 0 0))
    refine ⟨_, _, G2, run, ?_, t2, ⟨s1.evo.trans s2.evo, fun _ _ e => s2.bl _ _ (s1.bl _ _ e)⟩, mo.unt r _⟩
    exact ⟨r1.len, fun k hk hk' => (r1.slot k hk hk').move s2 (fun i j => m2 _ (by simp)) fun p _ => placeV_bl b2 p, r1.ln, r1.bx.keep s2 b2 (fun loc x e => ⟨v2 loc x r1.bx.var e, rfl⟩) fun loc j => m2 _ (by simp)⟩
  · exact ⟨_, _, _, run, mo.rel _ r, hown, mo.step G _, mo.unt r _⟩

theorem append_room (r : Rel G w st tmps) {x : Value} {t u ty e : TypeId} {i : TypeInfo} {du : TypeDesc} {f n : Nat} {l m : List (List D)} {vs : List Value} {b o cap : Nat}
    (hf : (f = 2 ∧ G.pm b = .ex (.r 0 0)) ∨ (f = 1 ∧ G.pm b = .tip (o + l.length * n) (.r 0 0) ∧ ∀ i, i < l.length * n → G.fz b (o + i))) (ht : P.underlying t = some (.slice e)) (hu : P.underlying u = some du) (hdu : ∀ k, du ≠ .int k) (hi : P.info? e = some i) (hin : i.size = n)
    (hl : (Builtin.lenOf x).run P w = .ok m.length w) (hv : Vals G w n m vs) (hfm : (Builtin.firstCells n m.length x).run P w = .ok vs.toArray w)
    (hr : Row G w n l b o) (hw : Whole w b (o + cap * n)) (hroom : l.length + m.length ≤ cap) : Appended P base G w st tmps (.slice (some (at_ b o)) l.length cap) x t u ty f n (l ++ m) := by
  obtain ⟨cs, cty, fz, hw1, hw2, hw3⟩ := hw
  have hfit : o + l.length * n + vs.length ≤ cs.size := by
    have : (l.length + m.length) * n ≤ cap * n := Nat.mul_le_mul_right n hroom
    rw [Nat.add_mul] at this
    rw [hv.len]; omega
  have hcell : ∀ k, w.cell? (at_ b k) = cs[k]? := fun k => by simp [World.cell?, at_, hw1]
  have hc : ∀ j, j < vs.length → (w.cell? (at_ b (o + l.length * n + j))).isSome = true := fun j hj => by
    rw [hcell]; simp; omega
  have hst := run_storeCells_cells (P := P) b (o + l.length * n) vs 0 w (by simpa [at_] using hc) (fun j hj => by simpa [at_] using hw3 (o + l.length * n + j) (by omega)) hv.one
  have run := run_fromCells (P := P) (w := w) t u e ty i du ht hu hdu hi x m.length hl (some (at_ b o)) l.length cap vs.toArray (by rw [hin]; exact hfm) hroom (w' := w.setCells b (o + l.length * n) vs) (by
    simp only [hin, add_at]
    simpa [at_] using hst)
  have hwr := wrote_setCells b vs (o + l.length * n) w
  have hlen : (l ++ m).length = l.length + m.length := by simp
  rcases hf with ⟨rfl, hp⟩ | ⟨rfl, hp, hfz⟩
  · have hs := hwr.step (.ex (.r 0 0)) (.inl ⟨_, hp⟩)
    obtain ⟨h1, h2⟩ := hwr.rel (base := base) (.ex (.r 0 0)) (.inl hp) hs r
    refine ⟨_, _, _, run, h1, .inr (.inr ⟨b, o, cap, by rw [hlen], hr.grown hwr hs hv hc, by rw [hlen]; exact hroom, grant_self _ _ _, hwr.whole ⟨cs, cty, fz, hw1, hw2, hw3⟩⟩), hs, h2⟩
  · have hs := hwr.step (.tip (o + (l ++ m).length * n) (.r 0 0)) (.inr ⟨_, _, hp, Nat.le_refl _, _, _, by rw [hlen, Nat.add_mul]; omega, rfl⟩)
    obtain ⟨h1, h2⟩ := hwr.rel (base := base) (.tip (o + (l ++ m).length * n) (.r 0 0)) (.inr ⟨_, hp⟩) hs r
    refine ⟨_, _, _, run, h1, .inr ⟨b, o, cap, by rw [hlen], hr.grown hwr hs hv hc, fun i hi => .inr (.inl ⟨_, _, grant_self _ _ _, by omega⟩), .inr ⟨by rw [hlen]; exact hroom, grant_self _ _ _, hwr.whole ⟨cs, cty, fz, hw1, hw2, hw3⟩⟩⟩, hs, h2⟩

/-- Nothing appended, with room: the slice stays. -/
theorem append_nothing (r : Rel G w st tmps) {x : Value} {t u ty e : TypeId} {i : TypeInfo} {du : TypeDesc} {f n : Nat} {l : List (List D)} {a : Option Addr} {len cap : Nat}
    (ht : P.underlying t = some (.slice e)) (hu : P.underlying u = some du) (hdu : ∀ k, du ≠ .int k) (hi : P.info? e = some i) (hin : i.size = n)
    (hl : (Builtin.lenOf x).run P w = .ok 0 w) (hfm : (Builtin.firstCells n 0 x).run P w = .ok #[] w) (hroom : len ≤ cap) (hlf : Leaf G w tmps (.r 0 0) (.sl f n l) (.slice a len cap)) : Appended P base G w st tmps (.slice a len cap) x t u ty f n l := by
  have run := run_fromCells (P := P) (w := w) (w' := w) t u e ty i du ht hu hdu hi x 0 hl a len cap #[] (by rw [hin]; exact hfm) hroom (by cases a <;> simp [storeCells])
  exact ⟨_, w, G, run, r, hlf, step_refl _ _, unt_refl _ _ _ _⟩

theorem vals_nil {n : Nat} : Vals G w n [] [] := ⟨by simp, by simp, by simp, by simp⟩

theorem append_ok {o : Oper} {c : Call} {x y : Operand} {t u : TypeId} {d : D} {ps : List Pl} {s : St} (tk : TOk P T) (r : Rel G w st tmps) (ho : o.op = .call c) (hc : c.callee = .builtin .append) (ha : c.args.toList = [x, y]) (hty : c.argTypes.toList = [t, u])
    (h : builtinV T base .append [x, y] [t, u] st = some (d, ps, s)) : Good P base G w st tmps o d ps s := by
  have hd := tk.desc t
  simp only [builtinV] at h
  split at h
  · rename_i e z hT
    rw [hT] at hd
    obtain ⟨hd, i, zv, i1, i2, i3, i4, hz, hzl, hzr⟩ := hd
    split at h
    · rename_i m f n l s' hm htake
      split at h
      · rename_i hcond
        obtain ⟨hf, rfl, hb, hby, hn⟩ := hcond
        simp only [Option.some.injEq, Prod.mk.injEq] at h
        obtain ⟨rfl, rfl, rfl⟩ := h
        obtain ⟨du, vs, hu, hdu, hv, hl, hfm⟩ := more_ok tk r hn hm
        obtain ⟨G1, r1, s1, b1, g1, m1, v1, nb1, nt1⟩ := take_ok base T t 0 r htake
        have hv1 := vals_step s1 hv
        have hlf : Leaf G1 w tmps (.r 0 0) (.sl f e.cells l) (ev tmps x) := v1
        have hzs : zv.cells.size = e.cells := by rw [hz.1]; exact hzl
        have fin : Appended P base G1 w s' tmps (ev tmps x) (ev tmps y) t u o.type f e.cells (l ++ m) → Good P base G w st tmps o (.sl f e.cells (l ++ m)) [] s' := by
          rintro ⟨v', w', G', hr, hrel, hleaf, hstep, hunt⟩
          refine ⟨⟨v', w', G', ?_, hrel, hleaf, ⟨s1.evo.trans hstep.evo, fun _ _ e => hstep.bl _ _ (s1.bl _ _ e)⟩, fun loc b hlo hbl hnd => hunt loc b hlo (by rw [b1]; exact hbl) hnd⟩, fun p hb => hb.elim, g1⟩
          simp only [execOp, ho, resolve, hc, arr_two ha, arr_two hty, List.map_toArray, List.map_cons, List.map_nil, invoke, builtin, Sem.run_bind, Sem.run_pure, Result.andThen_ok, hr]
        apply fin
        have hb' : (l.length + m.length) * i.bytes ≤ Go.PI.room := by rw [i3]; exact hb
        have hby' : 0 < i.bytes := by rw [i3]; exact hby
        have nothing : ∀ (a : Option Addr) (len cap : Nat), ev tmps x = .slice a len cap → len ≤ cap → m = [] → Appended P base G1 w s' tmps (ev tmps x) (ev tmps y) t u o.type f e.cells (l ++ m) := by
          rintro a len cap hx hlc rfl
          rw [hx] at hlf ⊢
          rw [List.append_nil]
          have : vs = [] := List.eq_nil_of_length_eq_zero (by rw [hv.len]; simp)
          subst this
          exact append_nothing r1 hd hu hdu i1 i2 (hl w) (hfm w rfl) hlc hlf
        have grow : ∀ (a : Option Addr) (cap : Nat) (olds : List Value), ev tmps x = .slice a l.length cap → cap < l.length + m.length → Vals G1 w e.cells l olds → (Builtin.firstCells e.cells l.length (ev tmps x)).run P w.drew = .ok olds.toArray w.drew → Appended P base G1 w s' tmps (ev tmps x) (ev tmps y) t u o.type f e.cells (l ++ m) :=
          fun a cap olds hx hlt hvo hfo => append_new r1 hf hd hu hdu i1 i4 i2 hzs (hl w) hv1 hvo hx hlt hfo (hfm w.drew rfl) hb' hby'
        have empty : ∀ (a : Option Addr), l = [] → ev tmps x = .slice a 0 0 → Appended P base G1 w s' tmps (ev tmps x) (ev tmps y) t u o.type f e.cells (l ++ m) := by
          rintro a rfl hx
          by_cases hm0 : m = []
          · exact nothing a 0 0 hx (Nat.le_refl _) hm0
          · have : 0 < m.length := List.length_pos_iff.mpr hm0
            refine grow a 0 [] hx (by simpa using this) vals_nil ?_
            rw [hx]
            cases a <;> simp [Builtin.firstCells, loadCells, loadCellsFrom]
        have block : ∀ (b o' cap : Nat), ev tmps x = .slice (some (at_ b o')) l.length cap → Row G1 w e.cells l b o' → l.length ≤ cap → ((f = 2 ∧ G1.pm b = .ex (.r 0 0) ∧ Whole w b (o' + cap * e.cells)) ∨ (f = 1 ∧ G1.pm b = .tip (o' + l.length * e.cells) (.r 0 0) ∧ (∀ i, i < l.length * e.cells → G1.fz b (o' + i)) ∧ Whole w b (o' + cap * e.cells)) ∨ cap = l.length) →
            Appended P base G1 w s' tmps (ev tmps x) (ev tmps y) t u o.type f e.cells (l ++ m) := by
          intro b o' cap hx hr hlc hcase
          by_cases hroom : l.length + m.length ≤ cap
          · rcases hcase with ⟨hf2, hp, hw⟩ | ⟨hf1, hp, hfz, hw⟩ | hcl
            · rw [hx]
              exact append_room r1 (.inl ⟨hf2, hp⟩) hd hu hdu i1 i2 (hl w) hv1 (hfm w rfl) hr hw hroom
            · rw [hx]
              exact append_room r1 (.inr ⟨hf1, hp, hfz⟩) hd hu hdu i1 i2 (hl w) hv1 (hfm w rfl) hr hw hroom
            · exact nothing _ _ cap hx hlc (List.eq_nil_of_length_eq_zero (by omega))
          · obtain ⟨olds, hvo, hco⟩ := row_vals hr hn
            refine grow _ cap olds hx (by omega) hvo ?_
            rw [hx]
            refine run_firstCells_some (P := P) w.drew e.cells l.length (at_ b o') l.length cap olds hvo.len fun j v hj => ?_
            rw [add_at]
            exact hco j v hj
        rcases hf with rfl | rfl
        · rcases hlf with ⟨hl0, hx⟩ | ⟨b, o', cap, hx, hr, hfz, hcap⟩
          · exact empty none hl0 hx
          · rcases hcap with hcap | ⟨h1, h2, h3⟩
            · exact block b o' cap hx hr (by omega) (.inr (.inr hcap))
            · exact block b o' cap hx hr h1 (.inr (.inl ⟨rfl, h2, hfz, h3⟩))
        · rcases hlf with ⟨hl0, hx⟩ | ⟨hl0, b, o', hx⟩ | ⟨b, o', cap, hx, hr, h1, h2, h3⟩
          · exact empty none hl0 hx
          · exact empty _ hl0 hx
          · exact block b o' cap hx hr h1 (.inl ⟨rfl, h2, h3⟩)
      · cases h
    · cases h
  · cases h

end Go.PI
