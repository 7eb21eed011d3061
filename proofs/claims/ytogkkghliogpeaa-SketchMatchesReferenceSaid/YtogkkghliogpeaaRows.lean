/-
  No cell of these rows narrows 'for every input' (looked for: loops, veiled, ifaces, maps, wideKeys, modest, calm, conditions, laid).
  DERIVED. THE GIVEN ROWS OF THIS SEAT. 7 by the template 'for every input the law returns true; each argument reads behind the call as it read before'; 0 by the template 'total and deterministic' (their statements: YtogkkghliogpeaaTotals.lean).
  GIVEN WITH THE SEED: the statements are not yours to turn. If you find one false, say at which input.
  Laid BY PROGRAM, IN A SANDBOX (cutbox-rows.mjs): the forced cells as the released guide's own fill.sh prints them over the translation 11c4043eadcae60a… (all of the seat's roots in one cut). By AI agents, Wed Nov 11 2026. No macro, syntax, notation, axiom, sorry.
-/
import Derived.Test.YtogkkghliogpeaaChecked
import GoSem.Claim
import GoSem.ClaimJoined
import GoSem.ClaimMapViews
import Derived.JoinedTies
import Derived.KernelRfl
namespace Go.Proofs.Ytogkkghliogpeaa
/- THE CELL 'sum', in the pinned program and in every row, IS THE sha256 OF THE DUMP (.gsa) THAT YtogkkghliogpeaaProg.lean LOADS. Nothing in Lean hashes anything: it is a label: what it is worth is what the hold of that sum in a sandbox is worth. -/
noncomputable def Try.pinned : Pinned := { name := "ytogkkghliogpeaa", sum := "11c4043eadcae60a854491da3e775b7394954bc39594eb9aa341c2665ae5f106", checked := Try.checked }
namespace Rows
def none {H : Type} : Left H := { results := [], args := [] }

/-- 'cachetierlaw14.SketchTotal': WHATEVER THE INPUT: true; the input reads as it did. -/
def sketchTotalSpec : ChangeSpec := { name := "sketchTotal", fn := fun _ => fun
  | [d1, d2] => { results := [.lit (.bool true)], args := [d1, d2] }
  | _ => none }
def sketchTotalRow : OpenClaim := { program := "ytogkkghliogpeaa", sum := "11c4043eadcae60a854491da3e775b7394954bc39594eb9aa341c2665ae5f106", func := "cachetier/cachetierlaw14.SketchTotal", spec := "sketchTotal", unfollowed := true, recurses := true, apart := false }
def SketchTotalSaid : Prop := sketchTotalRow.holds Try.pinned (OpenSpec.ofChange sketchTotalSpec)

/-- ITS FALSE NEIGHBOUR: 'it returns false'. Refute it at one input. -/
def sketchTotalWrong : ChangeSpec := { name := "sketchTotal", fn := fun _ => fun
  | [d1, d2] => { results := [.lit (.bool false)], args := [d1, d2] }
  | _ => none }
def SketchTotalWrongFalsely : Prop := sketchTotalRow.holds Try.pinned (OpenSpec.ofChange sketchTotalWrong)

/-- 'cachetierlaw14.SketchOrdered': WHATEVER THE INPUT: true; the input reads as it did. -/
def sketchOrderedSpec : ChangeSpec := { name := "sketchOrdered", fn := fun _ => fun
  | [d1, d2, d3] => { results := [.lit (.bool true)], args := [d1, d2, d3] }
  | _ => none }
def sketchOrderedRow : OpenClaim := { program := "ytogkkghliogpeaa", sum := "11c4043eadcae60a854491da3e775b7394954bc39594eb9aa341c2665ae5f106", func := "cachetier/cachetierlaw14.SketchOrdered", spec := "sketchOrdered", unfollowed := true, recurses := true, apart := false }
def SketchOrderedSaid : Prop := sketchOrderedRow.holds Try.pinned (OpenSpec.ofChange sketchOrderedSpec)

/-- ITS FALSE NEIGHBOUR: 'it returns false'. Refute it at one input. -/
def sketchOrderedWrong : ChangeSpec := { name := "sketchOrdered", fn := fun _ => fun
  | [d1, d2, d3] => { results := [.lit (.bool false)], args := [d1, d2, d3] }
  | _ => none }
def SketchOrderedWrongFalsely : Prop := sketchOrderedRow.holds Try.pinned (OpenSpec.ofChange sketchOrderedWrong)

/-- 'cachetierlaw14.SketchMerged': WHATEVER THE INPUT: true; the input reads as it did. -/
def sketchMergedSpec : ChangeSpec := { name := "sketchMerged", fn := fun _ => fun
  | [d] => { results := [.lit (.bool true)], args := [d] }
  | _ => none }
def sketchMergedRow : OpenClaim := { program := "ytogkkghliogpeaa", sum := "11c4043eadcae60a854491da3e775b7394954bc39594eb9aa341c2665ae5f106", func := "cachetier/cachetierlaw14.SketchMerged", spec := "sketchMerged", unfollowed := true, recurses := true, apart := false }
def SketchMergedSaid : Prop := sketchMergedRow.holds Try.pinned (OpenSpec.ofChange sketchMergedSpec)

/-- ITS FALSE NEIGHBOUR: 'it returns false'. Refute it at one input. -/
def sketchMergedWrong : ChangeSpec := { name := "sketchMerged", fn := fun _ => fun
  | [d] => { results := [.lit (.bool false)], args := [d] }
  | _ => none }
def SketchMergedWrongFalsely : Prop := sketchMergedRow.holds Try.pinned (OpenSpec.ofChange sketchMergedWrong)

/-- 'cachetierlaw14.SketchMatchesReference': WHATEVER THE INPUT: true; the input reads as it did. -/
def sketchMatchesReferenceSpec : ChangeSpec := { name := "sketchMatchesReference", fn := fun _ => fun
  | [d1, d2, d3, d4] => { results := [.lit (.bool true)], args := [d1, d2, d3, d4] }
  | _ => none }
def sketchMatchesReferenceRow : OpenClaim := { program := "ytogkkghliogpeaa", sum := "11c4043eadcae60a854491da3e775b7394954bc39594eb9aa341c2665ae5f106", func := "cachetier/cachetierlaw14.SketchMatchesReference", spec := "sketchMatchesReference", unfollowed := true, recurses := true, apart := false }
def SketchMatchesReferenceSaid : Prop := sketchMatchesReferenceRow.holds Try.pinned (OpenSpec.ofChange sketchMatchesReferenceSpec)

/-- ITS FALSE NEIGHBOUR: 'it returns false'. Refute it at one input. -/
def sketchMatchesReferenceWrong : ChangeSpec := { name := "sketchMatchesReference", fn := fun _ => fun
  | [d1, d2, d3, d4] => { results := [.lit (.bool false)], args := [d1, d2, d3, d4] }
  | _ => none }
def SketchMatchesReferenceWrongFalsely : Prop := sketchMatchesReferenceRow.holds Try.pinned (OpenSpec.ofChange sketchMatchesReferenceWrong)

/-- 'cachetierlaw14.SketchBounds': WHATEVER THE INPUT: true; the input reads as it did. -/
def sketchBoundsSpec : ChangeSpec := { name := "sketchBounds", fn := fun _ => fun
  | [d1, d2, d3, d4] => { results := [.lit (.bool true)], args := [d1, d2, d3, d4] }
  | _ => none }
def sketchBoundsRow : OpenClaim := { program := "ytogkkghliogpeaa", sum := "11c4043eadcae60a854491da3e775b7394954bc39594eb9aa341c2665ae5f106", func := "cachetier/cachetierlaw14.SketchBounds", spec := "sketchBounds", unfollowed := true, recurses := true, apart := false }
def SketchBoundsSaid : Prop := sketchBoundsRow.holds Try.pinned (OpenSpec.ofChange sketchBoundsSpec)

/-- ITS FALSE NEIGHBOUR: 'it returns false'. Refute it at one input. -/
def sketchBoundsWrong : ChangeSpec := { name := "sketchBounds", fn := fun _ => fun
  | [d1, d2, d3, d4] => { results := [.lit (.bool false)], args := [d1, d2, d3, d4] }
  | _ => none }
def SketchBoundsWrongFalsely : Prop := sketchBoundsRow.holds Try.pinned (OpenSpec.ofChange sketchBoundsWrong)

/-- 'cachetierlaw14.SketchExact': WHATEVER THE INPUT: true; the input reads as it did. -/
def sketchExactSpec : ChangeSpec := { name := "sketchExact", fn := fun _ => fun
  | [d1, d2] => { results := [.lit (.bool true)], args := [d1, d2] }
  | _ => none }
def sketchExactRow : OpenClaim := { program := "ytogkkghliogpeaa", sum := "11c4043eadcae60a854491da3e775b7394954bc39594eb9aa341c2665ae5f106", func := "cachetier/cachetierlaw14.SketchExact", spec := "sketchExact", unfollowed := true, recurses := true, apart := false }
def SketchExactSaid : Prop := sketchExactRow.holds Try.pinned (OpenSpec.ofChange sketchExactSpec)

/-- ITS FALSE NEIGHBOUR: 'it returns false'. Refute it at one input. -/
def sketchExactWrong : ChangeSpec := { name := "sketchExact", fn := fun _ => fun
  | [d1, d2] => { results := [.lit (.bool false)], args := [d1, d2] }
  | _ => none }
def SketchExactWrongFalsely : Prop := sketchExactRow.holds Try.pinned (OpenSpec.ofChange sketchExactWrong)

/-- 'cachetierlaw14.SketchRefuses': WHATEVER THE INPUT: true; the input reads as it did. -/
def sketchRefusesSpec : ChangeSpec := { name := "sketchRefuses", fn := fun _ => fun
  | [d1, d2, d3] => { results := [.lit (.bool true)], args := [d1, d2, d3] }
  | _ => none }
def sketchRefusesRow : OpenClaim := { program := "ytogkkghliogpeaa", sum := "11c4043eadcae60a854491da3e775b7394954bc39594eb9aa341c2665ae5f106", func := "cachetier/cachetierlaw14.SketchRefuses", spec := "sketchRefuses", unfollowed := true, recurses := true, apart := false }
def SketchRefusesSaid : Prop := sketchRefusesRow.holds Try.pinned (OpenSpec.ofChange sketchRefusesSpec)

/-- ITS FALSE NEIGHBOUR: 'it returns false'. Refute it at one input. -/
def sketchRefusesWrong : ChangeSpec := { name := "sketchRefuses", fn := fun _ => fun
  | [d1, d2, d3] => { results := [.lit (.bool false)], args := [d1, d2, d3] }
  | _ => none }
def SketchRefusesWrongFalsely : Prop := sketchRefusesRow.holds Try.pinned (OpenSpec.ofChange sketchRefusesWrong)

/- THE SECOND FORM. 'bulk': how many values and letters a reading holds, each counted each time it is reached (what is shared counts as often as it is met; a slice's spare places count too). A statement '..UptoSaid' is the law's where the arguments, and the package variables that the reading takes, are together of bulk at most 1048576: NARROWER than '..Said'. Prove '..Said' where nothing that the law and all that it calls make is longer than what came in: it says more and counts as full. Else prove '..UptoSaid'. A law counts once. -/
mutual
def uptoBulk {H : Type} : DataW H → Nat
  | .lit (.string bytes) => bytes.length + 1
  | .lit _ => 1
  | .nil => 1
  | .ptr d => uptoBulk d + 1
  | .slice elems spare => uptoBulkAll elems + uptoBulkAll spare + 1
  | .agg parts => uptoBulkAll parts + 1
  | .iface _ d => uptoBulk d + 1
  | .map entries => uptoBulkEntries entries + 1
  | .held _ => 1
def uptoBulkAll {H : Type} : List (DataW H) → Nat
  | [] => 0
  | d :: r => uptoBulk d + uptoBulkAll r
def uptoBulkEntries {H : Type} : List (Lit × DataW H) → Nat
  | [] => 0
  | x :: r => uptoBulkEntry x + uptoBulkEntries r
def uptoBulkEntry {H : Type} : Lit × DataW H → Nat
  | (.string bytes, d) => bytes.length + uptoBulk d + 1
  | (_, d) => uptoBulk d + 1
 end
def uptoSmall : (H : Type) → List (DataW H) → Bool := fun _ ds => decide (uptoBulkAll ds ≤ 1048576)
def OpenSpec.upto (s : _root_.Go.ChangeSpec) : _root_.Go.OpenSpec := { _root_.Go.OpenSpec.ofChange s with cond := some uptoSmall }

/-- 'cachetierlaw14.SketchTotal', WHERE WHAT IT READS IS OF BULK AT MOST 1048576: true; the input reads as it did. -/
def sketchTotalUptoRow : OpenClaim := { program := "ytogkkghliogpeaa", sum := "11c4043eadcae60a854491da3e775b7394954bc39594eb9aa341c2665ae5f106", func := "cachetier/cachetierlaw14.SketchTotal", spec := "sketchTotal", unfollowed := true, recurses := true, apart := false, narrowed := true }
def SketchTotalUptoSaid : Prop := sketchTotalUptoRow.holds Try.pinned (OpenSpec.upto sketchTotalSpec)

/-- 'cachetierlaw14.SketchOrdered', WHERE WHAT IT READS IS OF BULK AT MOST 1048576: true; the input reads as it did. -/
def sketchOrderedUptoRow : OpenClaim := { program := "ytogkkghliogpeaa", sum := "11c4043eadcae60a854491da3e775b7394954bc39594eb9aa341c2665ae5f106", func := "cachetier/cachetierlaw14.SketchOrdered", spec := "sketchOrdered", unfollowed := true, recurses := true, apart := false, narrowed := true }
def SketchOrderedUptoSaid : Prop := sketchOrderedUptoRow.holds Try.pinned (OpenSpec.upto sketchOrderedSpec)

/-- 'cachetierlaw14.SketchMerged', WHERE WHAT IT READS IS OF BULK AT MOST 1048576: true; the input reads as it did. -/
def sketchMergedUptoRow : OpenClaim := { program := "ytogkkghliogpeaa", sum := "11c4043eadcae60a854491da3e775b7394954bc39594eb9aa341c2665ae5f106", func := "cachetier/cachetierlaw14.SketchMerged", spec := "sketchMerged", unfollowed := true, recurses := true, apart := false, narrowed := true }
def SketchMergedUptoSaid : Prop := sketchMergedUptoRow.holds Try.pinned (OpenSpec.upto sketchMergedSpec)

/-- 'cachetierlaw14.SketchMatchesReference', WHERE WHAT IT READS IS OF BULK AT MOST 1048576: true; the input reads as it did. -/
def sketchMatchesReferenceUptoRow : OpenClaim := { program := "ytogkkghliogpeaa", sum := "11c4043eadcae60a854491da3e775b7394954bc39594eb9aa341c2665ae5f106", func := "cachetier/cachetierlaw14.SketchMatchesReference", spec := "sketchMatchesReference", unfollowed := true, recurses := true, apart := false, narrowed := true }
def SketchMatchesReferenceUptoSaid : Prop := sketchMatchesReferenceUptoRow.holds Try.pinned (OpenSpec.upto sketchMatchesReferenceSpec)

/-- 'cachetierlaw14.SketchBounds', WHERE WHAT IT READS IS OF BULK AT MOST 1048576: true; the input reads as it did. -/
def sketchBoundsUptoRow : OpenClaim := { program := "ytogkkghliogpeaa", sum := "11c4043eadcae60a854491da3e775b7394954bc39594eb9aa341c2665ae5f106", func := "cachetier/cachetierlaw14.SketchBounds", spec := "sketchBounds", unfollowed := true, recurses := true, apart := false, narrowed := true }
def SketchBoundsUptoSaid : Prop := sketchBoundsUptoRow.holds Try.pinned (OpenSpec.upto sketchBoundsSpec)

/-- 'cachetierlaw14.SketchExact', WHERE WHAT IT READS IS OF BULK AT MOST 1048576: true; the input reads as it did. -/
def sketchExactUptoRow : OpenClaim := { program := "ytogkkghliogpeaa", sum := "11c4043eadcae60a854491da3e775b7394954bc39594eb9aa341c2665ae5f106", func := "cachetier/cachetierlaw14.SketchExact", spec := "sketchExact", unfollowed := true, recurses := true, apart := false, narrowed := true }
def SketchExactUptoSaid : Prop := sketchExactUptoRow.holds Try.pinned (OpenSpec.upto sketchExactSpec)

/-- 'cachetierlaw14.SketchRefuses', WHERE WHAT IT READS IS OF BULK AT MOST 1048576: true; the input reads as it did. -/
def sketchRefusesUptoRow : OpenClaim := { program := "ytogkkghliogpeaa", sum := "11c4043eadcae60a854491da3e775b7394954bc39594eb9aa341c2665ae5f106", func := "cachetier/cachetierlaw14.SketchRefuses", spec := "sketchRefuses", unfollowed := true, recurses := true, apart := false, narrowed := true }
def SketchRefusesUptoSaid : Prop := sketchRefusesUptoRow.holds Try.pinned (OpenSpec.upto sketchRefusesSpec)

end Rows
end Go.Proofs.Ytogkkghliogpeaa
