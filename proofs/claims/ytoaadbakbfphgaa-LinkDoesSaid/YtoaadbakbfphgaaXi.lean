/- LinkDoes: what becomes of any end, by any call, and what is sent, is as the document has it: the law's function answers true for every input. -/
import Derived.Test.YtoaadbakbfphgaaRows
import Derived.Test.YtoaadbakbfphgaaXh
import Derived.Test.YtoaadbakbfphgaaLn
import Derived.Deep.Slices
namespace Go.Proofs.Ytoaadbakbfphgaa
open Go.ChangeShapes Go.WideShapes Go.ChangeAt Go.RowKit Go.PI
set_option maxRecDepth 100000

theorem Try.own : ownKnob Try.prog.godebug = none := by kernel_rfl
theorem Try.laidOut : laidOutB Try.prog = true := by kernel_rfl

theorem params7 : Try.f7.params.toList = [74, 75, 9] := by kernel_rfl
theorem slots7 : ([74, 75, 9] : List TypeId).mapM (slotT Try.prog) = some [.agg R74, .agg R75, .str] := by kernel_rfl

theorem told7 (x : EndT × PktT × ByteArray) (h : q7 fnL x = some true) : ∃ k, tab k 7 x = some true := lim_tab (sig := sigA) (tab := tab) (j := 7) (x := x) (v := true) h

theorem linkDoes_lifted (os : Os) (started : os.Started) (H : Type) (enc : TypeId × Value → H) :
    ReturnsInHanded {} Try.checked os 7 .any (Rows.linkDoesSpec.pre6 enc Try.prog Try.f7 Rows.linkDoesRow.domain false) (Rows.linkDoesSpec.post enc Try.prog Try.f7 false true false false) := by
  refine returnsInHanded_of_change (C := Try.checked) Try.own started (by kernel_rfl) Try.func7
    (ChangeSpec.witness6 (enc := enc) (C := Try.checked) false ⟨#[], #[.agg #[.int .i64 0, .int .i64 0, .int .i64 0, .int .i64 0, .int .i64 0, .slice none 0 0, .int .i64 0, .int .i64 0, .int .i64 0, .int .i64 0, .int .i64 0], .agg #[.int .i64 0, .int .i64 0, .int .i64 0, .int .i64 0, .int .i64 0, .int .i64 0, .string ⟨#[]⟩], .string ⟨#[]⟩], []⟩ 8 (by kernel_rfl) (by kernel_rfl) (by kernel_rfl) (by kernel_rfl)) ?_
  intro W base args ds gs before hval0 hW hcnd _
  have hval : ∀ (j : Nat) t v, Try.f7.params[j]? = some t → args[j]? = some v → Value.okWide Try.prog W .any base t v := hval0
  have hW' : DataW.Whole enc Try.prog Try.f7.params.toList Rows.linkDoesSpec.vars false W args.toList ds gs before := hW
  have hW2 := hW'
  obtain ⟨p, q, hA, hV, rfl, hfz, hnd⟩ := hW2
  have hval2 : ∀ (j : Nat) t v, ([74, 75, 9] : List TypeId)[j]? = some t → args.toList[j]? = some v → Value.okWide Try.prog W .any base t v := fun j t v h1 h2 =>
    hval j t v (by rw [← params7] at h1; simpa using h1) (by simpa using h2)
  rw [params7] at hA
  obtain ⟨hlen, x, hok, hro⟩ := params_ok _ _ _ _ _ hA hval2 slots7
  obtain ⟨⟨_, _, _, ⟨_, _, ⟨hl, _⟩, _⟩, _, _, hi⟩, ⟨_, _, _, _, _, hs, _⟩, _⟩ := (show (Ty.pair (.agg R74) (.pair (.agg R75) .str)).ok x from hok)
  obtain ⟨k, hk⟩ := told7 x (l7 (e := x.1) (p := x.2.1) (t := x.2.2) (Nat.lt_of_le_of_lt hl (by decide)) (Int.lt_of_le_of_lt hi.2 (by decide)) ⟨Int.le_trans (by decide) hs.1, Int.lt_of_le_of_lt hs.2 (by decide)⟩)
  refine (law_told (P := Try.prog) (sig := sigA) (C := tab k) (tab_ok (Checked.mixed Try.checked) k) (j := 7) (us := [.agg R74, .agg R75, .str]) rfl rfl rfl rfl (x := x) hro hk).mono fun e W' ⟨he, hb⟩ => ?_
  have hd : ds.length = 3 := hlen
  match ds, hd with
  | [d1, d2, d3], _ =>
    refine ⟨_, he, ?_⟩
    have hgs : gs = [] := by
      cases gs with
      | nil => rfl
      | cons g gs => exact hV.elim
    subst hgs
    exact law_post Try.laidOut (by kernel_rfl) rfl (tb := 4) (by kernel_rfl) Try.underlying4 rfl rfl rfl hW' hb

theorem linkDoes_holds : Rows.LinkDoesSaid :=
  OpenClaim.holds_of_wide 7 Try.f7 rfl rfl rfl rfl rfl rfl rfl ⟨rfl, rfl, rfl, rfl, rfl⟩ rfl rfl rfl rfl rfl (by kernel_rfl) Try.func7 (by kernel_rfl)
    (of_decide_eq_true (by kernel_rfl)) (by unfold Func.isWrapper; rw [if_neg (of_decide_eq_false (by kernel_rfl))]; exact ⟨rfl, rfl⟩)
    (fun os started H enc _ => linkDoes_lifted os started H enc)

end Go.Proofs.Ytoaadbakbfphgaa
