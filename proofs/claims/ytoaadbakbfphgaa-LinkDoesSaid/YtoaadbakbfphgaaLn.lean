/- From the interpreter's answer to a law's row: the call leaves old memory alone, the arguments read as they did. -/
import Derived.Test.YtoaadbakbfphgaaKc
import Derived.ProofKit
import Derived.Carry
import Derived.Below
import Derived.Eval
namespace Go.PI
open Go Go.ChangeShapes Go.WideShapes Go.ChangeAt Go.RowKit

variable {P : Program} {H : Type} {enc : TypeId × Value → H}

/-- Nothing may be written. -/
def allFr : Gh := ⟨[], fun _ => .fr⟩

/-- A call without boxes, over arguments that are told for good. -/
theorem calls_told {C : CallT} (hC : CallOk P C) {f : Nat} {ds : List D} {r : D} {di : List Nat} {up : Bool} (h : C f ds [] = some (r, [], di, up)) (W : World) (vs : Array Value) (hs : vs.size = ds.length)
    (hro : ∀ i (h : i < ds.length) (h' : i < vs.size), Ro allFr W ds[i] vs[i] ∧ Flat ds[i]) :
    Calls P f vs W fun e W' => ∃ v, e = .returned v ∧ Below W.heap.size W W' ∧ ∃ G', Slot G' W' #[] (fun i j => .r i j) r v := by
  obtain ⟨_, h2⟩ := hC f ds [] r [] di up h
  refine (h2 allFr W vs ⟨rfl, fun loc b ls e => by simp [allFr] at e, fun loc e => by simp at e, fun loc e => by simp [allFr] at e⟩ hs hro).mono fun e W' ⟨v, G', he, hc, _⟩ => ?_
  exact ⟨v, he, ⟨hc.evo.os, hc.evo.tape, hc.evo.output, hc.evo.size, fun k hk => (hc.evo.fr k hk rfl).2⟩, G', hc.val⟩

theorem told_bool {G' : Gh} {W' : World} {b : Bool} {v : Value} (h : Slot G' W' #[] (fun i j => .r i j) (.bool b) v) : v = .bool b := by
  have h : Ro G' W' (.bool b) v := h
  cases h
  rfl

theorem trodAll_stays (hl : laidOutB P = true) {W W' : World} {base : Nat} {sp : Nat → Bool} : ∀ {ts : List TypeId} {vs : List Value} {ds : List (DataW H)} {ps : List MemPlace}, (∀ t ∈ ts, P.readableRec t = true ∧ t < P.types.size) → DataW.TrodAll enc P W base (fun _ => true) true ts vs ds ps →
    (∀ x ∈ ps, W.sameAt W' x) → (∀ x ∈ ps, sp x.block = true) → DataW.TrodAll enc P W' base sp true ts vs ds ps
  | [], [], [], _, _, h, _, _ => h
  | [], [], _ :: _, _, _, h, _, _ => h.elim
  | [], _ :: _, _, _, _, h, _, _ => by cases h
  | _ :: _, [], _, _, _, h, _, _ => by cases h
  | _ :: _, _ :: _, [], _, _, h, _, _ => by cases h
  | t :: ts, v :: vs, d :: ds, ps, hr, h, hs, hsp => by
    obtain ⟨p, q, h1, h2, rfl⟩ := h
    have ht := hr t (by simp)
    exact ⟨p, q, WideElems.Trod_stays hl ht.1 ht.2 h1 (fun x hx => hs x (by simp [hx])) (fun x hx => hsp x (by simp [hx])),
      trodAll_stays hl (fun t h => hr t (by simp [h])) h2 (fun x hx => hs x (by simp [hx])) (fun x hx => hsp x (by simp [hx])), rfl⟩

/-- A law's end: it answers true; each argument reads as it did. -/
theorem law_post {f : Func} {s : ChangeSpec} {apart fresh handsOn again : Bool} {W W' : World} {args : Array Value} {ds gs : List (DataW H)} {before : List MemPlace} {tb : TypeId} (hl : laidOutB P = true) (hr : (f.params.toList.all fun t => P.readableRec t && decide (t < P.types.size)) = true)
    (hv : s.vars = []) (ht : f.resultTypes = #[tb]) (htb : P.underlying tb = some .bool) (hres : (s.fn H (ds ++ gs)).results = [.lit (.bool true)]) (hargs : (s.fn H (ds ++ gs)).args = ds) (hvars : (s.fn H (ds ++ gs)).vars = [])
    (hW : DataW.Whole enc P f.params.toList s.vars apart W args.toList ds gs before) (hb : Below W.heap.size W W') :
    s.post enc P f apart fresh handsOn again W args (.bool true) W' := by
  have hlt := hW.lt
  have hW' := hW
  obtain ⟨p, q, hA, hV, rfl, hz, hn⟩ := hW
  rw [hv] at hV
  have hgs : gs = [] ∧ q = [] := by
    cases gs with
    | nil => exact ⟨rfl, hV⟩
    | cons g gs => exact hV.elim
  obtain ⟨rfl, rfl⟩ := hgs
  simp only [List.append_nil] at hW' hlt hz hn
  have same : ∀ x ∈ p, W.sameAt W' x := fun x hx => hb.same (hlt x hx)
  have rd : ∀ t ∈ f.params.toList, P.readableRec t = true ∧ t < P.types.size := fun t ht => by
    have := List.all_eq_true.mp hr t ht
    simpa using this
  have stays : ∀ sp : Nat → Bool, (∀ x ∈ p, sp x.block = true) → DataW.TrodAll enc P W' 0 sp true f.params.toList args.toList ds p := fun sp hsp => trodAll_stays hl rd hA same hsp
  have res : ∀ (b : Nat) (sp : Nat → Bool) (hd : Bool), DataW.TrodAll enc P W' b sp hd f.resultTypes.toList ((Value.bool true).resultList f.resultTypes.size) [.lit (.bool true)] [] := by
    intro b sp hd
    rw [ht]
    exact trodAll_mk1 (shut_bool htb true)
  refine ⟨ds, [], p, [], p, [], hW', by rw [hres]; exact res _ _ _, by rw [hargs]; exact stays _ (fun x hx => by simpa using hlt x hx), by rw [hv, hvars]; rfl, World.keptBut_mono (fun x hx => ⟨hx, ?_⟩) (hb.frame _), fun _ => ?_⟩
  · exact Or.inr (by simpa using hx)
  · refine ⟨ok_one ht rfl (okWide_bool_mk htb true), _, _, ([] ++ p) ++ [], ⟨[] ++ p, [], trodAll_append (stays _ (fun _ _ => rfl)) (res _ _ _), show DataW.TrodVars enc P W' _ s.vars [] [] from by rw [hv]; rfl, rfl, ?_, ?_⟩, ?_⟩
    · intro b off hp
      simp only [List.nil_append, List.append_nil] at hp
      rw [hb.frozen (hlt _ hp)]
      exact hz b off hp
    · intro ha
      simpa using hn ha
    · intro x hx _
      simpa using hx

end Go.PI
