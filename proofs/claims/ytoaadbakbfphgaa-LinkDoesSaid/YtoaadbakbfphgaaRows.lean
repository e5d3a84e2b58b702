/-
  No cell of these rows narrows 'for every input' (looked for: loops, veiled, ifaces, maps, wideKeys, modest, calm, conditions, laid).
  DERIVED. THE GIVEN ROWS OF THIS SEAT. 9 by the template 'for every input the law returns true; each argument reads behind the call as it read before'; 0 by the template 'total and deterministic' (their statements: YtoaadbakbfphgaaTotals.lean).
  GIVEN WITH THE SEED: the statements are not yours to turn. If you find one false, say at which input.
  Laid BY PROGRAM, IN A SANDBOX (cutbox-rows.mjs): the forced cells as the released guide's own fill.sh prints them over the translation 176e1ac870f73e20… (all of the seat's roots in one cut). By AI agents, Wed Nov 11 2026. No macro, syntax, notation, axiom, sorry.
-/
import Derived.Test.YtoaadbakbfphgaaChecked
import GoSem.Claim
import GoSem.ClaimJoined
import GoSem.ClaimMapViews
import Derived.JoinedTies
import Derived.KernelRfl
namespace Go.Proofs.Ytoaadbakbfphgaa
/- THE CELL 'sum', in the pinned program and in every row, IS THE sha256 OF THE DUMP (.gsa) THAT YtoaadbakbfphgaaProg.lean LOADS. Nothing in Lean hashes anything: it is a label: what it is worth is what the hold of that sum in a sandbox is worth. -/
noncomputable def Try.pinned : Pinned := { name := "ytoaadbakbfphgaa", sum := "176e1ac870f73e208207e9d081967d91c6f45f821b2b357d2910131ecf6655ac", checked := Try.checked }
namespace Rows
def none {H : Type} : Left H := { results := [], args := [] }

/-- 'siskinlaw24.SentKeeps': WHATEVER THE INPUT: true; the input reads as it did. -/
def sentKeepsSpec : ChangeSpec := { name := "sentKeeps", fn := fun _ => fun
  | [d1, d2] => { results := [.lit (.bool true)], args := [d1, d2] }
  | _ => none }
def sentKeepsRow : OpenClaim := { program := "ytoaadbakbfphgaa", sum := "176e1ac870f73e208207e9d081967d91c6f45f821b2b357d2910131ecf6655ac", func := "siskin/siskinlaw24.SentKeeps", spec := "sentKeeps", unfollowed := true, recurses := true, apart := false }
def SentKeepsSaid : Prop := sentKeepsRow.holds Try.pinned (OpenSpec.ofChange sentKeepsSpec)

/-- ITS FALSE NEIGHBOUR: 'it returns false'. Refute it at one input. -/
def sentKeepsWrong : ChangeSpec := { name := "sentKeeps", fn := fun _ => fun
  | [d1, d2] => { results := [.lit (.bool false)], args := [d1, d2] }
  | _ => none }
def SentKeepsWrongFalsely : Prop := sentKeepsRow.holds Try.pinned (OpenSpec.ofChange sentKeepsWrong)

/-- 'siskinlaw26.LinkOnce': WHATEVER THE INPUT: true; the input reads as it did. -/
def linkOnceSpec : ChangeSpec := { name := "linkOnce", fn := fun _ => fun
  | [d] => { results := [.lit (.bool true)], args := [d] }
  | _ => none }
def linkOnceRow : OpenClaim := { program := "ytoaadbakbfphgaa", sum := "176e1ac870f73e208207e9d081967d91c6f45f821b2b357d2910131ecf6655ac", func := "siskin/siskinlaw26.LinkOnce", spec := "linkOnce", unfollowed := true, recurses := true, apart := false }
def LinkOnceSaid : Prop := linkOnceRow.holds Try.pinned (OpenSpec.ofChange linkOnceSpec)

/-- ITS FALSE NEIGHBOUR: 'it returns false'. Refute it at one input. -/
def linkOnceWrong : ChangeSpec := { name := "linkOnce", fn := fun _ => fun
  | [d] => { results := [.lit (.bool false)], args := [d] }
  | _ => none }
def LinkOnceWrongFalsely : Prop := linkOnceRow.holds Try.pinned (OpenSpec.ofChange linkOnceWrong)

/-- 'siskinlaw26.LinkComes': WHATEVER THE INPUT: true; the input reads as it did. -/
def linkComesSpec : ChangeSpec := { name := "linkComes", fn := fun _ => fun
  | [d] => { results := [.lit (.bool true)], args := [d] }
  | _ => none }
def linkComesRow : OpenClaim := { program := "ytoaadbakbfphgaa", sum := "176e1ac870f73e208207e9d081967d91c6f45f821b2b357d2910131ecf6655ac", func := "siskin/siskinlaw26.LinkComes", spec := "linkComes", unfollowed := true, recurses := true, apart := false }
def LinkComesSaid : Prop := linkComesRow.holds Try.pinned (OpenSpec.ofChange linkComesSpec)

/-- ITS FALSE NEIGHBOUR: 'it returns false'. Refute it at one input. -/
def linkComesWrong : ChangeSpec := { name := "linkComes", fn := fun _ => fun
  | [d] => { results := [.lit (.bool false)], args := [d] }
  | _ => none }
def LinkComesWrongFalsely : Prop := linkComesRow.holds Try.pinned (OpenSpec.ofChange linkComesWrong)

/-- 'siskinlaw26.LinkNew': WHATEVER THE INPUT: true; the input reads as it did. -/
def linkNewSpec : ChangeSpec := { name := "linkNew", fn := fun _ => fun
  | [d1, d2] => { results := [.lit (.bool true)], args := [d1, d2] }
  | _ => none }
def linkNewRow : OpenClaim := { program := "ytoaadbakbfphgaa", sum := "176e1ac870f73e208207e9d081967d91c6f45f821b2b357d2910131ecf6655ac", func := "siskin/siskinlaw26.LinkNew", spec := "linkNew", unfollowed := true, recurses := true, apart := false }
def LinkNewSaid : Prop := linkNewRow.holds Try.pinned (OpenSpec.ofChange linkNewSpec)

/-- ITS FALSE NEIGHBOUR: 'it returns false'. Refute it at one input. -/
def linkNewWrong : ChangeSpec := { name := "linkNew", fn := fun _ => fun
  | [d1, d2] => { results := [.lit (.bool false)], args := [d1, d2] }
  | _ => none }
def LinkNewWrongFalsely : Prop := linkNewRow.holds Try.pinned (OpenSpec.ofChange linkNewWrong)

/-- 'siskinlaw26.LinkDoes': WHATEVER THE INPUT: true; the input reads as it did. -/
def linkDoesSpec : ChangeSpec := { name := "linkDoes", fn := fun _ => fun
  | [d1, d2, d3] => { results := [.lit (.bool true)], args := [d1, d2, d3] }
  | _ => none }
def linkDoesRow : OpenClaim := { program := "ytoaadbakbfphgaa", sum := "176e1ac870f73e208207e9d081967d91c6f45f821b2b357d2910131ecf6655ac", func := "siskin/siskinlaw26.LinkDoes", spec := "linkDoes", unfollowed := true, recurses := true, apart := false }
def LinkDoesSaid : Prop := linkDoesRow.holds Try.pinned (OpenSpec.ofChange linkDoesSpec)

/-- ITS FALSE NEIGHBOUR: 'it returns false'. Refute it at one input. -/
def linkDoesWrong : ChangeSpec := { name := "linkDoes", fn := fun _ => fun
  | [d1, d2, d3] => { results := [.lit (.bool false)], args := [d1, d2, d3] }
  | _ => none }
def LinkDoesWrongFalsely : Prop := linkDoesRow.holds Try.pinned (OpenSpec.ofChange linkDoesWrong)

/-- 'siskinlaw19.AnnalStays': WHATEVER THE INPUT: true; the input reads as it did. -/
def annalStaysSpec : ChangeSpec := { name := "annalStays", fn := fun _ => fun
  | [d1, d2] => { results := [.lit (.bool true)], args := [d1, d2] }
  | _ => none }
def annalStaysRow : OpenClaim := { program := "ytoaadbakbfphgaa", sum := "176e1ac870f73e208207e9d081967d91c6f45f821b2b357d2910131ecf6655ac", func := "siskin/siskinlaw19.AnnalStays", spec := "annalStays", unfollowed := true, recurses := true, apart := false }
def AnnalStaysSaid : Prop := annalStaysRow.holds Try.pinned (OpenSpec.ofChange annalStaysSpec)

/-- ITS FALSE NEIGHBOUR: 'it returns false'. Refute it at one input. -/
def annalStaysWrong : ChangeSpec := { name := "annalStays", fn := fun _ => fun
  | [d1, d2] => { results := [.lit (.bool false)], args := [d1, d2] }
  | _ => none }
def AnnalStaysWrongFalsely : Prop := annalStaysRow.holds Try.pinned (OpenSpec.ofChange annalStaysWrong)

/-- 'siskinlaw40.SpecAccepts': WHATEVER THE INPUT: true; the input reads as it did. -/
def specAcceptsSpec : ChangeSpec := { name := "specAccepts", fn := fun _ => fun
  | [d1, d2, d3] => { results := [.lit (.bool true)], args := [d1, d2, d3] }
  | _ => none }
def specAcceptsRow : OpenClaim := { program := "ytoaadbakbfphgaa", sum := "176e1ac870f73e208207e9d081967d91c6f45f821b2b357d2910131ecf6655ac", func := "siskin/siskinlaw40.SpecAccepts", spec := "specAccepts", inPlace := ["internal/bytealg.IndexByteString", "internal/bytealg.IndexString"], unfollowed := true, recurses := true, named := ["internal/bytealg.MaxLen"], apart := false }
def SpecAcceptsSaid : Prop := specAcceptsRow.holds Try.pinned (OpenSpec.ofChange specAcceptsSpec)

/-- ITS FALSE NEIGHBOUR: 'it returns false'. Refute it at one input. -/
def specAcceptsWrong : ChangeSpec := { name := "specAccepts", fn := fun _ => fun
  | [d1, d2, d3] => { results := [.lit (.bool false)], args := [d1, d2, d3] }
  | _ => none }
def SpecAcceptsWrongFalsely : Prop := specAcceptsRow.holds Try.pinned (OpenSpec.ofChange specAcceptsWrong)

/-- 'siskinlaw27.PortTalks': WHATEVER THE INPUT: true; the input reads as it did. -/
def portTalksSpec : ChangeSpec := { name := "portTalks", fn := fun _ => fun
  | [d1, d2] => { results := [.lit (.bool true)], args := [d1, d2] }
  | _ => none }
def portTalksRow : OpenClaim := { program := "ytoaadbakbfphgaa", sum := "176e1ac870f73e208207e9d081967d91c6f45f821b2b357d2910131ecf6655ac", func := "siskin/siskinlaw27.PortTalks", spec := "portTalks", unfollowed := true, recurses := true, apart := false }
def PortTalksSaid : Prop := portTalksRow.holds Try.pinned (OpenSpec.ofChange portTalksSpec)

/-- ITS FALSE NEIGHBOUR: 'it returns false'. Refute it at one input. -/
def portTalksWrong : ChangeSpec := { name := "portTalks", fn := fun _ => fun
  | [d1, d2] => { results := [.lit (.bool false)], args := [d1, d2] }
  | _ => none }
def PortTalksWrongFalsely : Prop := portTalksRow.holds Try.pinned (OpenSpec.ofChange portTalksWrong)

/-- 'siskinlaw27.PortTurned': WHATEVER THE INPUT: true; the input reads as it did. -/
def portTurnedSpec : ChangeSpec := { name := "portTurned", fn := fun _ => fun
  | [d1, d2, d3] => { results := [.lit (.bool true)], args := [d1, d2, d3] }
  | _ => none }
def portTurnedRow : OpenClaim := { program := "ytoaadbakbfphgaa", sum := "176e1ac870f73e208207e9d081967d91c6f45f821b2b357d2910131ecf6655ac", func := "siskin/siskinlaw27.PortTurned", spec := "portTurned", unfollowed := true, recurses := true, apart := false }
def PortTurnedSaid : Prop := portTurnedRow.holds Try.pinned (OpenSpec.ofChange portTurnedSpec)

/-- ITS FALSE NEIGHBOUR: 'it returns false'. Refute it at one input. -/
def portTurnedWrong : ChangeSpec := { name := "portTurned", fn := fun _ => fun
  | [d1, d2, d3] => { results := [.lit (.bool false)], args := [d1, d2, d3] }
  | _ => none }
def PortTurnedWrongFalsely : Prop := portTurnedRow.holds Try.pinned (OpenSpec.ofChange portTurnedWrong)

/- THE SECOND FORM. 'bulk': how many values and letters a reading holds, each counted each time it is reached (what is shared counts as often as it is met; a slice's spare places count too). A statement '..UptoSaid' is the law's where the arguments, and the package variables that the reading takes, are together of bulk at most 1048576: NARROWER than '..Said'. Prove '..Said' where nothing that the law and all that it calls make is longer than what came in: it says more and counts as full. Else prove '..UptoSaid'. A law counts once. -/
mutual
def uptoBulk {H : Type} : DataW H → Nat
  | .lit (.string bytes) => bytes.length + 1
  | .lit _ => 1
  | .nil => 1
  | .ptr d => uptoBulk d + 1
  | .slice elems spare => uptoBulkAll elems + uptoBulkAll spare + 1
  | .agg parts => uptoBulkAll parts + 1
  | .iface _ d => uptoBulk d + 1
  | .map entries => uptoBulkEntries entries + 1
  | .held _ => 1
def uptoBulkAll {H : Type} : List (DataW H) → Nat
  | [] => 0
  | d :: r => uptoBulk d + uptoBulkAll r
def uptoBulkEntries {H : Type} : List (Lit × DataW H) → Nat
  | [] => 0
  | x :: r => uptoBulkEntry x + uptoBulkEntries r
def uptoBulkEntry {H : Type} : Lit × DataW H → Nat
  | (.string bytes, d) => bytes.length + uptoBulk d + 1
  | (_, d) => uptoBulk d + 1
 end
def uptoSmall : (H : Type) → List (DataW H) → Bool := fun _ ds => decide (uptoBulkAll ds ≤ 1048576)
def OpenSpec.upto (s : _root_.Go.ChangeSpec) : _root_.Go.OpenSpec := { _root_.Go.OpenSpec.ofChange s with cond := some uptoSmall }

/-- 'siskinlaw24.SentKeeps', WHERE WHAT IT READS IS OF BULK AT MOST 1048576: true; the input reads as it did. -/
def sentKeepsUptoRow : OpenClaim := { program := "ytoaadbakbfphgaa", sum := "176e1ac870f73e208207e9d081967d91c6f45f821b2b357d2910131ecf6655ac", func := "siskin/siskinlaw24.SentKeeps", spec := "sentKeeps", unfollowed := true, recurses := true, apart := false, narrowed := true }
def SentKeepsUptoSaid : Prop := sentKeepsUptoRow.holds Try.pinned (OpenSpec.upto sentKeepsSpec)

/-- 'siskinlaw26.LinkOnce', WHERE WHAT IT READS IS OF BULK AT MOST 1048576: true; the input reads as it did. -/
def linkOnceUptoRow : OpenClaim := { program := "ytoaadbakbfphgaa", sum := "176e1ac870f73e208207e9d081967d91c6f45f821b2b357d2910131ecf6655ac", func := "siskin/siskinlaw26.LinkOnce", spec := "linkOnce", unfollowed := true, recurses := true, apart := false, narrowed := true }
def LinkOnceUptoSaid : Prop := linkOnceUptoRow.holds Try.pinned (OpenSpec.upto linkOnceSpec)

/-- 'siskinlaw26.LinkComes', WHERE WHAT IT READS IS OF BULK AT MOST 1048576: true; the input reads as it did. -/
def linkComesUptoRow : OpenClaim := { program := "ytoaadbakbfphgaa", sum := "176e1ac870f73e208207e9d081967d91c6f45f821b2b357d2910131ecf6655ac", func := "siskin/siskinlaw26.LinkComes", spec := "linkComes", unfollowed := true, recurses := true, apart := false, narrowed := true }
def LinkComesUptoSaid : Prop := linkComesUptoRow.holds Try.pinned (OpenSpec.upto linkComesSpec)

/-- 'siskinlaw26.LinkNew', WHERE WHAT IT READS IS OF BULK AT MOST 1048576: true; the input reads as it did. -/
def linkNewUptoRow : OpenClaim := { program := "ytoaadbakbfphgaa", sum := "176e1ac870f73e208207e9d081967d91c6f45f821b2b357d2910131ecf6655ac", func := "siskin/siskinlaw26.LinkNew", spec := "linkNew", unfollowed := true, recurses := true, apart := false, narrowed := true }
def LinkNewUptoSaid : Prop := linkNewUptoRow.holds Try.pinned (OpenSpec.upto linkNewSpec)

/-- 'siskinlaw26.LinkDoes', WHERE WHAT IT READS IS OF BULK AT MOST 1048576: true; the input reads as it did. -/
def linkDoesUptoRow : OpenClaim := { program := "ytoaadbakbfphgaa", sum := "176e1ac870f73e208207e9d081967d91c6f45f821b2b357d2910131ecf6655ac", func := "siskin/siskinlaw26.LinkDoes", spec := "linkDoes", unfollowed := true, recurses := true, apart := false, narrowed := true }
def LinkDoesUptoSaid : Prop := linkDoesUptoRow.holds Try.pinned (OpenSpec.upto linkDoesSpec)

/-- 'siskinlaw19.AnnalStays', WHERE WHAT IT READS IS OF BULK AT MOST 1048576: true; the input reads as it did. -/
def annalStaysUptoRow : OpenClaim := { program := "ytoaadbakbfphgaa", sum := "176e1ac870f73e208207e9d081967d91c6f45f821b2b357d2910131ecf6655ac", func := "siskin/siskinlaw19.AnnalStays", spec := "annalStays", unfollowed := true, recurses := true, apart := false, narrowed := true }
def AnnalStaysUptoSaid : Prop := annalStaysUptoRow.holds Try.pinned (OpenSpec.upto annalStaysSpec)

/-- 'siskinlaw40.SpecAccepts', WHERE WHAT IT READS IS OF BULK AT MOST 1048576: true; the input reads as it did. -/
def specAcceptsUptoRow : OpenClaim := { program := "ytoaadbakbfphgaa", sum := "176e1ac870f73e208207e9d081967d91c6f45f821b2b357d2910131ecf6655ac", func := "siskin/siskinlaw40.SpecAccepts", spec := "specAccepts", inPlace := ["internal/bytealg.IndexByteString", "internal/bytealg.IndexString"], unfollowed := true, recurses := true, named := ["internal/bytealg.MaxLen"], apart := false, narrowed := true }
def SpecAcceptsUptoSaid : Prop := specAcceptsUptoRow.holds Try.pinned (OpenSpec.upto specAcceptsSpec)

/-- 'siskinlaw27.PortTalks', WHERE WHAT IT READS IS OF BULK AT MOST 1048576: true; the input reads as it did. -/
def portTalksUptoRow : OpenClaim := { program := "ytoaadbakbfphgaa", sum := "176e1ac870f73e208207e9d081967d91c6f45f821b2b357d2910131ecf6655ac", func := "siskin/siskinlaw27.PortTalks", spec := "portTalks", unfollowed := true, recurses := true, apart := false, narrowed := true }
def PortTalksUptoSaid : Prop := portTalksUptoRow.holds Try.pinned (OpenSpec.upto portTalksSpec)

/-- 'siskinlaw27.PortTurned', WHERE WHAT IT READS IS OF BULK AT MOST 1048576: true; the input reads as it did. -/
def portTurnedUptoRow : OpenClaim := { program := "ytoaadbakbfphgaa", sum := "176e1ac870f73e208207e9d081967d91c6f45f821b2b357d2910131ecf6655ac", func := "siskin/siskinlaw27.PortTurned", spec := "portTurned", unfollowed := true, recurses := true, apart := false, narrowed := true }
def PortTurnedUptoSaid : Prop := portTurnedUptoRow.holds Try.pinned (OpenSpec.upto portTurnedSpec)

end Rows
end Go.Proofs.Ytoaadbakbfphgaa
