/- SentKeeps: however an outbox is used from its initial state, the waiting texts are distinct and never more than the bound, the first one goes by an acknowledgement alone, and while one waits a transmission is requested within MaxWait ticks: the law's function answers true for every input. -/
import Derived.Test.YtoaadbakbfphgaaRows
import Derived.Test.YtoaadbakbfphgaaLm
import Derived.Test.YtoaadbakbfphgaaLn
import Derived.Deep.Slices
namespace Go.Proofs.Ytoaadbakbfphgaa
open Go.ChangeShapes Go.WideShapes Go.ChangeAt Go.RowKit Go.PI
set_option maxRecDepth 100000

theorem Try.own : ownKnob Try.prog.godebug = none := by kernel_rfl
theorem Try.laidOut : laidOutB Try.prog = true := by kernel_rfl

theorem callA_ok (k : Nat) : CallOk Try.prog (callA k) :=
  callF_ok (tiOf_ok Try.prog) (Checked.mixed Try.checked) polA (fun _ _ _ _ _ _ _ h => by cases h) k

/-- A step's cells. -/
theorem step_cells {H : Type} {enc : TypeId × Value → H} {w : World} {base : Nat} {sp : Nat → Bool} {held : Bool} {fuel : Nat} {cs : List Value} {x : DataW H × List MemPlace} (h : DataW.trod enc Try.prog w base sp held fuel 31 cs = some x) (hl : cs.length = 4) :
    ∃ s : Stp, cs = [.int .i64 s.act, .int .i64 s.peer, .int .i64 s.seq, .string s.text] := by
  match cs, hl with
  | [c0, c1, c2, c3], _ =>
    cases fuel with
    | zero => simp [DataW.trod] at h
    | succ m =>
      unfold DataW.trod at h
      simp only [Try.underlying31] at h
      split at h
      · simp only [List.mapM_cons, List.mapM_nil, Option.map_eq_some_iff] at h
        obtain ⟨xs, h, _⟩ := h
        have c31 : Try.prog.cellsOf 3 = 1 := by kernel_rfl
        have c9 : Try.prog.cellsOf 9 = 1 := by kernel_rfl
        simp [c31, c9, Option.bind_eq_some_iff] at h
        obtain ⟨_, _, h0, _, ⟨_, _, h1, _, ⟨_, _, h2, _, ⟨_, _, h3, _⟩, _⟩, _⟩, _⟩ := h
        obtain ⟨a, e0, _, _⟩ := DataW.trod_int Try.underlying3 h0
        obtain ⟨b, e1, _, _⟩ := DataW.trod_int Try.underlying3 h1
        obtain ⟨c, e2, _, _⟩ := DataW.trod_int Try.underlying3 h2
        obtain ⟨d, e3, _, _⟩ := DataW.trod_string Try.underlying9 h3
        simp at e0 e1 e2 e3
        exact ⟨⟨a, b, c, d⟩, by simp [e0, e1, e2, e3]⟩
      · cases h

/-- The steps that come in. -/
theorem steps_ro {H : Type} {enc : TypeId × Value → H} {W : World} {base b0 : Nat} {v : Value} {d : DataW H} {ps : List MemPlace} (hval : Value.okWide Try.prog W .any b0 22 v) (h : DataW.Trod enc Try.prog W base (fun _ => true) true 22 v d ps) :
    ∃ l : List Stp, Ro allFr W (.sl 0 4 (stps l)) v := by
  obtain ⟨a0, len, cap, rfl⟩ := okWide_slice Try.underlying22 hval
  obtain ⟨fuel, hf⟩ := h
  rcases Go.Deep.open_slice Try.underlying22 hf with ⟨hcs, _⟩ | ⟨a, len', cap', m, n, Dd, Pl, hcs, hb, hl, hm, hmm, _, hx⟩
  · simp [Value.cells] at hcs
    obtain ⟨rfl, rfl, rfl⟩ := hcs
    exact ⟨[], .nils 4⟩
  · simp only [Value.cells, List.cons.injEq, Value.slice.injEq, and_true] at hcs
    obtain ⟨rfl, rfl, rfl⟩ := hcs
    have c4 : Try.prog.cellsOf 31 = 4 := by kernel_rfl
    simp only [if_true] at hmm
    subst hmm
    have hsp : a.spot = none := by
      have := hval
      simp only [Value.okWide, Try.underlying22, Cell.okWide, Cell.ok] at this
      exact this.2.2.2.1
    obtain ⟨b, o, spot⟩ := a
    simp only at hsp
    subst hsp
    have hex : ∀ i, i < len → ∃ s : Stp, ∀ j (hj : j < 4), W.cell? (at_ b (o + i * 4 + j)) = some ([Value.int .i64 s.act, .int .i64 s.peer, .int .i64 s.seq, .string s.text][j]) := by
      intro i hi
      obtain ⟨cs, h1, h2⟩ := hx i (by omega)
      rw [c4] at h1
      obtain ⟨_, hlen, hc⟩ := World.cells?_some h1
      obtain ⟨s, rfl⟩ := step_cells h2 hlen
      refine ⟨s, fun j hj => ?_⟩
      have := hc j hj
      have e : ((⟨b, o, none⟩ : Addr).add (i * 4)).add j = at_ b (o + i * 4 + j) := by
        have := add_at b o (i * 4)
        unfold at_ at this
        rw [this]
        exact add_at b (o + i * 4) j
      rw [e] at this
      rw [this]
      exact List.getElem?_eq_getElem hj
    have hch : ∃ f : Nat → Stp, ∀ i, i < len → ∀ j (hj : j < 4), W.cell? (at_ b (o + i * 4 + j)) = some ([Value.int .i64 (f i).act, .int .i64 (f i).peer, .int .i64 (f i).seq, .string (f i).text][j]) := by
      refine ⟨fun i => if h : i < len then Classical.choose (hex i h) else ⟨0, 0, 0, ⟨#[]⟩⟩, fun i hi => ?_⟩
      simp only [dif_pos hi]
      exact Classical.choose_spec (hex i hi)
    obtain ⟨f, hf'⟩ := hch
    have hlen : (stps ((List.range len).map f)).length = len := by simp
    have key := Ro.sl (G := allFr) (w := W) 4 (stps ((List.range len).map f)) b o m (fun i j => [Value.int .i64 (f i).act, .int .i64 (f i).peer, .int .i64 (f i).seq, .string (f i).text].getD j undef) (by rw [hlen]; exact hl)
      (fun x hx => by
        simp only [stps, List.map_map, List.mem_map] at hx
        obtain ⟨i, _, rfl⟩ := hx
        refine ⟨rfl, fun d hd q => ?_⟩
        simp only [Function.comp, List.mem_cons, List.not_mem_nil, or_false] at hd
        rcases hd with rfl | rfl | rfl | rfl <;> simp)
      (fun i j hi hj => by
        rw [hlen] at hi
        refine ⟨?_, .inl rfl⟩
        rw [hf' i hi j hj, List.getD_eq_getElem?_getD, List.getElem?_eq_getElem hj]
        rfl)
      (fun i j hi hj => by
        have hi' : i < len := by rwa [hlen] at hi
        have e : (stps ((List.range len).map f))[i] = [.int .i64 (f i).act, .int .i64 (f i).peer, .int .i64 (f i).seq, .str (f i).text] := by simp [stps]
        have hj4 : j < 4 := by rw [e] at hj; simpa using hj
        have : (stps ((List.range len).map f))[i][j] = [D.int .i64 (f i).act, .int .i64 (f i).peer, .int .i64 (f i).seq, .str (f i).text][j] := by simp only [e]
        rw [this]
        match j, hj4 with
        | 0, _ => exact .int _ _
        | 1, _ => exact .int _ _
        | 2, _ => exact .int _ _
        | 3, _ => exact .str _)
    rw [hlen] at key
    exact ⟨_, key⟩

theorem sentKeeps_lifted (os : Os) (started : os.Started) (H : Type) (enc : TypeId × Value → H) :
    ReturnsInHanded {} Try.checked os 3 .any (Rows.sentKeepsSpec.pre6 enc Try.prog Try.f3 Rows.sentKeepsRow.domain false) (Rows.sentKeepsSpec.post enc Try.prog Try.f3 false true false false) := by
  refine returnsInHanded_of_change (C := Try.checked) Try.own started (by kernel_rfl) Try.func3
    (ChangeSpec.witness6 (enc := enc) (C := Try.checked) false ⟨#[], #[.int .u8 0, .slice none 0 0], []⟩ 8 (by kernel_rfl) (by kernel_rfl) (by kernel_rfl) (by kernel_rfl)) ?_
  intro W base args ds gs before hval0 hW hcnd _
  have hval : ∀ (j : Nat) t v, Try.f3.params[j]? = some t → args[j]? = some v → Value.okWide Try.prog W .any base t v := hval0
  have hW' : DataW.Whole enc Try.prog Try.f3.params.toList Rows.sentKeepsSpec.vars false W args.toList ds gs before := hW
  have hW2 := hW'
  obtain ⟨p, q, hA, hV, rfl, hfz, hnd⟩ := hW2
  rw [Try.params3] at hA hval
  obtain ⟨v0, v1, d0, d1, p0, p1, rfl, rfl, rfl, h0, h1⟩ := trodAll_two hA
  obtain ⟨n, rfl, rfl, rfl, wn⟩ := open_int Try.underlying5 (hval 0 5 v0 rfl rfl) h0
  obtain ⟨l, hl⟩ := steps_ro (hval 1 22 v1 rfl rfl) h1
  have hn : 0 ≤ n ∧ n ≤ 255 := by
    simp only [Lit.wf, Bool.and_eq_true, decide_eq_true_eq] at wn
    exact wn
  refine (calls_told (callA_ok 1000) (a3 1000 (by omega) n hn l) W #[.int .u8 n, v1] rfl ?_).mono fun e W' ⟨v, he, hb, G', hs⟩ => ?_
  · intro i h h'
    match i, h with
    | 0, _ => exact ⟨.int _ _, by intro q e; cases e⟩
    | 1, _ => exact ⟨hl, by intro q e; cases e⟩
  · obtain rfl := told_bool hs
    refine ⟨_, he, ?_⟩
    have hgs : gs = [] := by
      cases gs with
      | nil => rfl
      | cons g gs => exact hV.elim
    subst hgs
    exact law_post Try.laidOut (by kernel_rfl) rfl (tb := 4) (by kernel_rfl) Try.underlying4 rfl rfl rfl hW' hb

theorem sentKeeps_holds : Rows.SentKeepsSaid :=
  OpenClaim.holds_of_wide 3 Try.f3 rfl rfl rfl rfl rfl rfl rfl ⟨rfl, rfl, rfl, rfl, rfl⟩ rfl rfl rfl rfl rfl (by kernel_rfl) Try.func3 (by kernel_rfl)
    (of_decide_eq_true (by kernel_rfl)) (by unfold Func.isWrapper; rw [if_neg (of_decide_eq_false (by kernel_rfl))]; exact ⟨rfl, rfl⟩)
    (fun os started H enc _ => sentKeeps_lifted os started H enc)

end Go.Proofs.Ytoaadbakbfphgaa
