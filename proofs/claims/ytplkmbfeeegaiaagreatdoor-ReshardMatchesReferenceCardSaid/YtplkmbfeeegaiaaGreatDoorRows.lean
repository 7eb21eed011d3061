/-
  NARROWER THAN 'FOR EVERY INPUT', by the rows' own cells (each row's printed sentence says how): ReshardMatchesReference: laid · ReshardRawMatchesReference: laid · ReplicateMatchesReference: laid · ReplicateHotMatchesReference: laid · ReplicateHolders: laid · ReplicateRegions: laid · ReplicateStable: laid · ReplicateHot: laid · ReplicateSpread: laid.
  DERIVED. THE GIVEN ROWS OF THIS SEAT. 9 by the template 'for every input the law returns true; each argument reads behind the call as it read before'; 0 by the template 'total and deterministic' (their statements: YtplkmbfeeegaiaaGreatDoorTotals.lean).
  GIVEN WITH THE SEED: the statements are not yours to turn. If you find one false, say at which input.
  Laid BY PROGRAM, IN A SANDBOX (cutbox-rows.mjs): the forced cells as the released guide's own fill.sh prints them over the translation ce7e72febb93fc78… (all of the seat's roots in one cut). By AI agents, Wed Nov 11 2026. No macro, syntax, notation, axiom, sorry.
-/
import Derived.Test.YtplkmbfeeegaiaaGreatDoorChecked
import GoSem.Claim
import GoSem.ClaimJoined
import GoSem.ClaimMapViews
import Derived.JoinedTies
import Derived.KernelRfl
namespace Go.Proofs.YtplkmbfeeegaiaaGreatDoor
/- THE CELL 'sum', in the pinned program and in every row, IS THE sha256 OF THE DUMP (.gsa) THAT YtplkmbfeeegaiaaGreatDoorProg.lean LOADS. Nothing in Lean hashes anything: it is a label: what it is worth is what the hold of that sum in a sandbox is worth. -/
noncomputable def Tryz.pinned : Pinned := { name := "ytplkmbfeeegaiaagreatdoor", sum := "ce7e72febb93fc78899d7502dc73df3295822adbd5d7508bc2c39df67e140a7e", checked := Tryz.checked }
namespace Rows
def none {H : Type} : Left H := { results := [], args := [] }

/- WHAT THE LISTED PACKAGE-LEVEL VARIABLES READ AS WHEN THE CALL BEGINS. Each datum BY PROGRAM (the guide's laid-datum.mjs) off the statement by which the dump's own 'gosem.cut.vars' lays the variable. In a bare row this is a premise. The card (YtplkmbfeeegaiaaGreatDoorCards.lean) ties it to the program's text. -/
def laid_math_bits_deBruijn32tab {H : Type} : DataW H := .agg [.lit (.int .u8 0), .lit (.int .u8 1), .lit (.int .u8 28), .lit (.int .u8 2), .lit (.int .u8 29), .lit (.int .u8 14), .lit (.int .u8 24), .lit (.int .u8 3), .lit (.int .u8 30), .lit (.int .u8 22), .lit (.int .u8 20), .lit (.int .u8 15), .lit (.int .u8 25), .lit (.int .u8 17), .lit (.int .u8 4), .lit (.int .u8 8), .lit (.int .u8 31), .lit (.int .u8 27), .lit (.int .u8 13), .lit (.int .u8 23), .lit (.int .u8 21), .lit (.int .u8 19), .lit (.int .u8 16), .lit (.int .u8 7), .lit (.int .u8 26), .lit (.int .u8 12), .lit (.int .u8 18), .lit (.int .u8 6), .lit (.int .u8 11), .lit (.int .u8 5), .lit (.int .u8 10), .lit (.int .u8 9)]
def laid_math_bits_deBruijn64tab {H : Type} : DataW H := .agg [.lit (.int .u8 0), .lit (.int .u8 1), .lit (.int .u8 56), .lit (.int .u8 2), .lit (.int .u8 57), .lit (.int .u8 49), .lit (.int .u8 28), .lit (.int .u8 3), .lit (.int .u8 61), .lit (.int .u8 58), .lit (.int .u8 42), .lit (.int .u8 50), .lit (.int .u8 38), .lit (.int .u8 29), .lit (.int .u8 17), .lit (.int .u8 4), .lit (.int .u8 62), .lit (.int .u8 47), .lit (.int .u8 59), .lit (.int .u8 36), .lit (.int .u8 45), .lit (.int .u8 43), .lit (.int .u8 51), .lit (.int .u8 22), .lit (.int .u8 53), .lit (.int .u8 39), .lit (.int .u8 33), .lit (.int .u8 30), .lit (.int .u8 24), .lit (.int .u8 18), .lit (.int .u8 12), .lit (.int .u8 5), .lit (.int .u8 63), .lit (.int .u8 55), .lit (.int .u8 48), .lit (.int .u8 27), .lit (.int .u8 60), .lit (.int .u8 41), .lit (.int .u8 37), .lit (.int .u8 16), .lit (.int .u8 46), .lit (.int .u8 35), .lit (.int .u8 44), .lit (.int .u8 21), .lit (.int .u8 52), .lit (.int .u8 32), .lit (.int .u8 23), .lit (.int .u8 11), .lit (.int .u8 54), .lit (.int .u8 26), .lit (.int .u8 40), .lit (.int .u8 15), .lit (.int .u8 34), .lit (.int .u8 20), .lit (.int .u8 31), .lit (.int .u8 10), .lit (.int .u8 25), .lit (.int .u8 14), .lit (.int .u8 19), .lit (.int .u8 9), .lit (.int .u8 13), .lit (.int .u8 8), .lit (.int .u8 7), .lit (.int .u8 6)]
def laid_internal_strconv_uint64pow10 {H : Type} : DataW H := .agg [.lit (.int .u64 1), .lit (.int .u64 10), .lit (.int .u64 100), .lit (.int .u64 1000), .lit (.int .u64 10000), .lit (.int .u64 100000), .lit (.int .u64 1000000), .lit (.int .u64 10000000), .lit (.int .u64 100000000), .lit (.int .u64 1000000000), .lit (.int .u64 10000000000), .lit (.int .u64 100000000000), .lit (.int .u64 1000000000000), .lit (.int .u64 10000000000000), .lit (.int .u64 100000000000000), .lit (.int .u64 1000000000000000), .lit (.int .u64 10000000000000000), .lit (.int .u64 100000000000000000), .lit (.int .u64 1000000000000000000), .lit (.int .u64 10000000000000000000)]
def laid_cachetier_wire_nibbles {H : Type} : DataW H := .agg [.lit (.int .u32 0), .lit (.int .u32 274646895), .lit (.int .u32 549293790), .lit (.int .u32 820201905), .lit (.int .u32 1098587580), .lit (.int .u32 1361435347), .lit (.int .u32 1640403810), .lit (.int .u32 1905808397), .lit (.int .u32 2197175160), .lit (.int .u32 2460548119), .lit (.int .u32 2722870694), .lit (.int .u32 2987750089), .lit (.int .u32 3280807620), .lit (.int .u32 3553878443), .lit (.int .u32 3811616794), .lit (.int .u32 4084100981)]

/-- 'cachetierlaw13.ReshardMatchesReference': WHATEVER THE INPUT: true; the input reads as it did. -/
def reshardMatchesReferenceSpec : ChangeSpec := { name := "reshardMatchesReference", fn := fun _ => fun
  | [d1, d2] => { results := [.lit (.bool true)], args := [d1, d2] }
  | _ => none }
def reshardMatchesReferenceRow : OpenClaim := { program := "ytplkmbfeeegaiaagreatdoor", sum := "ce7e72febb93fc78899d7502dc73df3295822adbd5d7508bc2c39df67e140a7e", func := "cachetier/cachetierlaw13.ReshardMatchesReference", spec := "reshardMatchesReference", unfollowed := true, recurses := true, named := ["internal/strconv.uint64pow10", "math/bits.deBruijn32tab", "math/bits.deBruijn64tab", "cachetier/wire.nibbles"], apart := false, laid := [("math/bits.deBruijn32tab", laid_math_bits_deBruijn32tab), ("math/bits.deBruijn64tab", laid_math_bits_deBruijn64tab), ("internal/strconv.uint64pow10", laid_internal_strconv_uint64pow10), ("cachetier/wire.nibbles", laid_cachetier_wire_nibbles)] }
def ReshardMatchesReferenceSaid : Prop := reshardMatchesReferenceRow.holds Tryz.pinned (OpenSpec.ofChange reshardMatchesReferenceSpec)

/-- ITS FALSE NEIGHBOUR: 'it returns false'. Refute it at one input. -/
def reshardMatchesReferenceWrong : ChangeSpec := { name := "reshardMatchesReference", fn := fun _ => fun
  | [d1, d2] => { results := [.lit (.bool false)], args := [d1, d2] }
  | _ => none }
def ReshardMatchesReferenceWrongFalsely : Prop := reshardMatchesReferenceRow.holds Tryz.pinned (OpenSpec.ofChange reshardMatchesReferenceWrong)

/-- 'cachetierlaw13.ReshardRawMatchesReference': WHATEVER THE INPUT: true; the input reads as it did. -/
def reshardRawMatchesReferenceSpec : ChangeSpec := { name := "reshardRawMatchesReference", fn := fun _ => fun
  | [d1, d2, d3, d4, d5, d6] => { results := [.lit (.bool true)], args := [d1, d2, d3, d4, d5, d6] }
  | _ => none }
def reshardRawMatchesReferenceRow : OpenClaim := { program := "ytplkmbfeeegaiaagreatdoor", sum := "ce7e72febb93fc78899d7502dc73df3295822adbd5d7508bc2c39df67e140a7e", func := "cachetier/cachetierlaw13.ReshardRawMatchesReference", spec := "reshardRawMatchesReference", unfollowed := true, recurses := true, named := ["internal/strconv.uint64pow10", "math/bits.deBruijn32tab", "math/bits.deBruijn64tab", "cachetier/wire.nibbles"], apart := false, laid := [("math/bits.deBruijn32tab", laid_math_bits_deBruijn32tab), ("math/bits.deBruijn64tab", laid_math_bits_deBruijn64tab), ("internal/strconv.uint64pow10", laid_internal_strconv_uint64pow10), ("cachetier/wire.nibbles", laid_cachetier_wire_nibbles)] }
def ReshardRawMatchesReferenceSaid : Prop := reshardRawMatchesReferenceRow.holds Tryz.pinned (OpenSpec.ofChange reshardRawMatchesReferenceSpec)

/-- ITS FALSE NEIGHBOUR: 'it returns false'. Refute it at one input. -/
def reshardRawMatchesReferenceWrong : ChangeSpec := { name := "reshardRawMatchesReference", fn := fun _ => fun
  | [d1, d2, d3, d4, d5, d6] => { results := [.lit (.bool false)], args := [d1, d2, d3, d4, d5, d6] }
  | _ => none }
def ReshardRawMatchesReferenceWrongFalsely : Prop := reshardRawMatchesReferenceRow.holds Tryz.pinned (OpenSpec.ofChange reshardRawMatchesReferenceWrong)

/-- 'cachetierlaw15.ReplicateMatchesReference': WHATEVER THE INPUT: true; the input reads as it did. -/
def replicateMatchesReferenceSpec : ChangeSpec := { name := "replicateMatchesReference", fn := fun _ => fun
  | [d1, d2, d3, d4, d5, d6] => { results := [.lit (.bool true)], args := [d1, d2, d3, d4, d5, d6] }
  | _ => none }
def replicateMatchesReferenceRow : OpenClaim := { program := "ytplkmbfeeegaiaagreatdoor", sum := "ce7e72febb93fc78899d7502dc73df3295822adbd5d7508bc2c39df67e140a7e", func := "cachetier/cachetierlaw15.ReplicateMatchesReference", spec := "replicateMatchesReference", unfollowed := true, recurses := true, named := ["internal/strconv.uint64pow10", "math/bits.deBruijn32tab", "math/bits.deBruijn64tab", "cachetier/wire.nibbles"], apart := false, laid := [("math/bits.deBruijn32tab", laid_math_bits_deBruijn32tab), ("math/bits.deBruijn64tab", laid_math_bits_deBruijn64tab), ("internal/strconv.uint64pow10", laid_internal_strconv_uint64pow10), ("cachetier/wire.nibbles", laid_cachetier_wire_nibbles)] }
def ReplicateMatchesReferenceSaid : Prop := replicateMatchesReferenceRow.holds Tryz.pinned (OpenSpec.ofChange replicateMatchesReferenceSpec)

/-- ITS FALSE NEIGHBOUR: 'it returns false'. Refute it at one input. -/
def replicateMatchesReferenceWrong : ChangeSpec := { name := "replicateMatchesReference", fn := fun _ => fun
  | [d1, d2, d3, d4, d5, d6] => { results := [.lit (.bool false)], args := [d1, d2, d3, d4, d5, d6] }
  | _ => none }
def ReplicateMatchesReferenceWrongFalsely : Prop := replicateMatchesReferenceRow.holds Tryz.pinned (OpenSpec.ofChange replicateMatchesReferenceWrong)

/-- 'cachetierlaw15.ReplicateHotMatchesReference': WHATEVER THE INPUT: true; the input reads as it did. -/
def replicateHotMatchesReferenceSpec : ChangeSpec := { name := "replicateHotMatchesReference", fn := fun _ => fun
  | [d1, d2, d3] => { results := [.lit (.bool true)], args := [d1, d2, d3] }
  | _ => none }
def replicateHotMatchesReferenceRow : OpenClaim := { program := "ytplkmbfeeegaiaagreatdoor", sum := "ce7e72febb93fc78899d7502dc73df3295822adbd5d7508bc2c39df67e140a7e", func := "cachetier/cachetierlaw15.ReplicateHotMatchesReference", spec := "replicateHotMatchesReference", unfollowed := true, recurses := true, named := ["internal/strconv.uint64pow10", "math/bits.deBruijn32tab", "math/bits.deBruijn64tab", "cachetier/wire.nibbles"], apart := false, laid := [("math/bits.deBruijn32tab", laid_math_bits_deBruijn32tab), ("math/bits.deBruijn64tab", laid_math_bits_deBruijn64tab), ("internal/strconv.uint64pow10", laid_internal_strconv_uint64pow10), ("cachetier/wire.nibbles", laid_cachetier_wire_nibbles)] }
def ReplicateHotMatchesReferenceSaid : Prop := replicateHotMatchesReferenceRow.holds Tryz.pinned (OpenSpec.ofChange replicateHotMatchesReferenceSpec)

/-- ITS FALSE NEIGHBOUR: 'it returns false'. Refute it at one input. -/
def replicateHotMatchesReferenceWrong : ChangeSpec := { name := "replicateHotMatchesReference", fn := fun _ => fun
  | [d1, d2, d3] => { results := [.lit (.bool false)], args := [d1, d2, d3] }
  | _ => none }
def ReplicateHotMatchesReferenceWrongFalsely : Prop := replicateHotMatchesReferenceRow.holds Tryz.pinned (OpenSpec.ofChange replicateHotMatchesReferenceWrong)

/-- 'cachetierlaw15.ReplicateHolders': WHATEVER THE INPUT: true; the input reads as it did. -/
def replicateHoldersSpec : ChangeSpec := { name := "replicateHolders", fn := fun _ => fun
  | [d1, d2, d3, d4] => { results := [.lit (.bool true)], args := [d1, d2, d3, d4] }
  | _ => none }
def replicateHoldersRow : OpenClaim := { program := "ytplkmbfeeegaiaagreatdoor", sum := "ce7e72febb93fc78899d7502dc73df3295822adbd5d7508bc2c39df67e140a7e", func := "cachetier/cachetierlaw15.ReplicateHolders", spec := "replicateHolders", unfollowed := true, recurses := true, named := ["internal/strconv.uint64pow10", "math/bits.deBruijn32tab", "math/bits.deBruijn64tab", "cachetier/wire.nibbles"], apart := false, laid := [("math/bits.deBruijn32tab", laid_math_bits_deBruijn32tab), ("math/bits.deBruijn64tab", laid_math_bits_deBruijn64tab), ("internal/strconv.uint64pow10", laid_internal_strconv_uint64pow10), ("cachetier/wire.nibbles", laid_cachetier_wire_nibbles)] }
def ReplicateHoldersSaid : Prop := replicateHoldersRow.holds Tryz.pinned (OpenSpec.ofChange replicateHoldersSpec)

/-- ITS FALSE NEIGHBOUR: 'it returns false'. Refute it at one input. -/
def replicateHoldersWrong : ChangeSpec := { name := "replicateHolders", fn := fun _ => fun
  | [d1, d2, d3, d4] => { results := [.lit (.bool false)], args := [d1, d2, d3, d4] }
  | _ => none }
def ReplicateHoldersWrongFalsely : Prop := replicateHoldersRow.holds Tryz.pinned (OpenSpec.ofChange replicateHoldersWrong)

/-- 'cachetierlaw15.ReplicateRegions': WHATEVER THE INPUT: true; the input reads as it did. -/
def replicateRegionsSpec : ChangeSpec := { name := "replicateRegions", fn := fun _ => fun
  | [d1, d2, d3] => { results := [.lit (.bool true)], args := [d1, d2, d3] }
  | _ => none }
def replicateRegionsRow : OpenClaim := { program := "ytplkmbfeeegaiaagreatdoor", sum := "ce7e72febb93fc78899d7502dc73df3295822adbd5d7508bc2c39df67e140a7e", func := "cachetier/cachetierlaw15.ReplicateRegions", spec := "replicateRegions", unfollowed := true, recurses := true, named := ["internal/strconv.uint64pow10", "math/bits.deBruijn32tab", "math/bits.deBruijn64tab", "cachetier/wire.nibbles"], apart := false, laid := [("math/bits.deBruijn32tab", laid_math_bits_deBruijn32tab), ("math/bits.deBruijn64tab", laid_math_bits_deBruijn64tab), ("internal/strconv.uint64pow10", laid_internal_strconv_uint64pow10), ("cachetier/wire.nibbles", laid_cachetier_wire_nibbles)] }
def ReplicateRegionsSaid : Prop := replicateRegionsRow.holds Tryz.pinned (OpenSpec.ofChange replicateRegionsSpec)

/-- ITS FALSE NEIGHBOUR: 'it returns false'. Refute it at one input. -/
def replicateRegionsWrong : ChangeSpec := { name := "replicateRegions", fn := fun _ => fun
  | [d1, d2, d3] => { results := [.lit (.bool false)], args := [d1, d2, d3] }
  | _ => none }
def ReplicateRegionsWrongFalsely : Prop := replicateRegionsRow.holds Tryz.pinned (OpenSpec.ofChange replicateRegionsWrong)

/-- 'cachetierlaw15.ReplicateStable': WHATEVER THE INPUT: true; the input reads as it did. -/
def replicateStableSpec : ChangeSpec := { name := "replicateStable", fn := fun _ => fun
  | [d1, d2, d3, d4] => { results := [.lit (.bool true)], args := [d1, d2, d3, d4] }
  | _ => none }
def replicateStableRow : OpenClaim := { program := "ytplkmbfeeegaiaagreatdoor", sum := "ce7e72febb93fc78899d7502dc73df3295822adbd5d7508bc2c39df67e140a7e", func := "cachetier/cachetierlaw15.ReplicateStable", spec := "replicateStable", unfollowed := true, recurses := true, named := ["internal/strconv.uint64pow10", "math/bits.deBruijn32tab", "math/bits.deBruijn64tab", "cachetier/wire.nibbles"], apart := false, laid := [("math/bits.deBruijn32tab", laid_math_bits_deBruijn32tab), ("math/bits.deBruijn64tab", laid_math_bits_deBruijn64tab), ("internal/strconv.uint64pow10", laid_internal_strconv_uint64pow10), ("cachetier/wire.nibbles", laid_cachetier_wire_nibbles)] }
def ReplicateStableSaid : Prop := replicateStableRow.holds Tryz.pinned (OpenSpec.ofChange replicateStableSpec)

/-- ITS FALSE NEIGHBOUR: 'it returns false'. Refute it at one input. -/
def replicateStableWrong : ChangeSpec := { name := "replicateStable", fn := fun _ => fun
  | [d1, d2, d3, d4] => { results := [.lit (.bool false)], args := [d1, d2, d3, d4] }
  | _ => none }
def ReplicateStableWrongFalsely : Prop := replicateStableRow.holds Tryz.pinned (OpenSpec.ofChange replicateStableWrong)

/-- 'cachetierlaw15.ReplicateHot': WHATEVER THE INPUT: true; the input reads as it did. -/
def replicateHotSpec : ChangeSpec := { name := "replicateHot", fn := fun _ => fun
  | [d1, d2, d3] => { results := [.lit (.bool true)], args := [d1, d2, d3] }
  | _ => none }
def replicateHotRow : OpenClaim := { program := "ytplkmbfeeegaiaagreatdoor", sum := "ce7e72febb93fc78899d7502dc73df3295822adbd5d7508bc2c39df67e140a7e", func := "cachetier/cachetierlaw15.ReplicateHot", spec := "replicateHot", unfollowed := true, recurses := true, named := ["internal/strconv.uint64pow10", "math/bits.deBruijn32tab", "math/bits.deBruijn64tab", "cachetier/wire.nibbles"], apart := false, laid := [("math/bits.deBruijn32tab", laid_math_bits_deBruijn32tab), ("math/bits.deBruijn64tab", laid_math_bits_deBruijn64tab), ("internal/strconv.uint64pow10", laid_internal_strconv_uint64pow10), ("cachetier/wire.nibbles", laid_cachetier_wire_nibbles)] }
def ReplicateHotSaid : Prop := replicateHotRow.holds Tryz.pinned (OpenSpec.ofChange replicateHotSpec)

/-- ITS FALSE NEIGHBOUR: 'it returns false'. Refute it at one input. -/
def replicateHotWrong : ChangeSpec := { name := "replicateHot", fn := fun _ => fun
  | [d1, d2, d3] => { results := [.lit (.bool false)], args := [d1, d2, d3] }
  | _ => none }
def ReplicateHotWrongFalsely : Prop := replicateHotRow.holds Tryz.pinned (OpenSpec.ofChange replicateHotWrong)

/-- 'cachetierlaw15.ReplicateSpread': WHATEVER THE INPUT: true; the input reads as it did. -/
def replicateSpreadSpec : ChangeSpec := { name := "replicateSpread", fn := fun _ => fun
  | [d1, d2, d3, d4, d5, d6] => { results := [.lit (.bool true)], args := [d1, d2, d3, d4, d5, d6] }
  | _ => none }
def replicateSpreadRow : OpenClaim := { program := "ytplkmbfeeegaiaagreatdoor", sum := "ce7e72febb93fc78899d7502dc73df3295822adbd5d7508bc2c39df67e140a7e", func := "cachetier/cachetierlaw15.ReplicateSpread", spec := "replicateSpread", unfollowed := true, recurses := true, named := ["internal/strconv.uint64pow10", "math/bits.deBruijn32tab", "math/bits.deBruijn64tab", "cachetier/wire.nibbles"], apart := false, laid := [("math/bits.deBruijn32tab", laid_math_bits_deBruijn32tab), ("math/bits.deBruijn64tab", laid_math_bits_deBruijn64tab), ("internal/strconv.uint64pow10", laid_internal_strconv_uint64pow10), ("cachetier/wire.nibbles", laid_cachetier_wire_nibbles)] }
def ReplicateSpreadSaid : Prop := replicateSpreadRow.holds Tryz.pinned (OpenSpec.ofChange replicateSpreadSpec)

/-- ITS FALSE NEIGHBOUR: 'it returns false'. Refute it at one input. -/
def replicateSpreadWrong : ChangeSpec := { name := "replicateSpread", fn := fun _ => fun
  | [d1, d2, d3, d4, d5, d6] => { results := [.lit (.bool false)], args := [d1, d2, d3, d4, d5, d6] }
  | _ => none }
def ReplicateSpreadWrongFalsely : Prop := replicateSpreadRow.holds Tryz.pinned (OpenSpec.ofChange replicateSpreadWrong)

/- THE SECOND FORM. 'bulk': how many values and letters a reading holds, each counted each time it is reached (what is shared counts as often as it is met; a slice's spare places count too). A statement '..UptoSaid' is the law's where the arguments, and the package variables that the reading takes, are together of bulk at most 1048576: NARROWER than '..Said'. Prove '..Said' where nothing that the law and all that it calls make is longer than what came in: it says more and counts as full. Else prove '..UptoSaid'. A law counts once. -/
mutual
def uptoBulk {H : Type} : DataW H → Nat
  | .lit (.string bytes) => bytes.length + 1
  | .lit _ => 1
  | .nil => 1
  | .ptr d => uptoBulk d + 1
  | .slice elems spare => uptoBulkAll elems + uptoBulkAll spare + 1
  | .agg parts => uptoBulkAll parts + 1
  | .iface _ d => uptoBulk d + 1
  | .map entries => uptoBulkEntries entries + 1
  | .held _ => 1
def uptoBulkAll {H : Type} : List (DataW H) → Nat
  | [] => 0
  | d :: r => uptoBulk d + uptoBulkAll r
def uptoBulkEntries {H : Type} : List (Lit × DataW H) → Nat
  | [] => 0
  | x :: r => uptoBulkEntry x + uptoBulkEntries r
def uptoBulkEntry {H : Type} : Lit × DataW H → Nat
  | (.string bytes, d) => bytes.length + uptoBulk d + 1
  | (_, d) => uptoBulk d + 1
 end
def uptoSmall : (H : Type) → List (DataW H) → Bool := fun _ ds => decide (uptoBulkAll ds ≤ 1048576)
def OpenSpec.upto (s : _root_.Go.ChangeSpec) : _root_.Go.OpenSpec := { _root_.Go.OpenSpec.ofChange s with cond := some uptoSmall }

/-- 'cachetierlaw13.ReshardMatchesReference', WHERE WHAT IT READS IS OF BULK AT MOST 1048576: true; the input reads as it did. -/
def reshardMatchesReferenceUptoRow : OpenClaim := { program := "ytplkmbfeeegaiaagreatdoor", sum := "ce7e72febb93fc78899d7502dc73df3295822adbd5d7508bc2c39df67e140a7e", func := "cachetier/cachetierlaw13.ReshardMatchesReference", spec := "reshardMatchesReference", unfollowed := true, recurses := true, named := ["internal/strconv.uint64pow10", "math/bits.deBruijn32tab", "math/bits.deBruijn64tab", "cachetier/wire.nibbles"], apart := false, laid := [("math/bits.deBruijn32tab", laid_math_bits_deBruijn32tab), ("math/bits.deBruijn64tab", laid_math_bits_deBruijn64tab), ("internal/strconv.uint64pow10", laid_internal_strconv_uint64pow10), ("cachetier/wire.nibbles", laid_cachetier_wire_nibbles)], narrowed := true }
def ReshardMatchesReferenceUptoSaid : Prop := reshardMatchesReferenceUptoRow.holds Tryz.pinned (OpenSpec.upto reshardMatchesReferenceSpec)

/-- 'cachetierlaw13.ReshardRawMatchesReference', WHERE WHAT IT READS IS OF BULK AT MOST 1048576: true; the input reads as it did. -/
def reshardRawMatchesReferenceUptoRow : OpenClaim := { program := "ytplkmbfeeegaiaagreatdoor", sum := "ce7e72febb93fc78899d7502dc73df3295822adbd5d7508bc2c39df67e140a7e", func := "cachetier/cachetierlaw13.ReshardRawMatchesReference", spec := "reshardRawMatchesReference", unfollowed := true, recurses := true, named := ["internal/strconv.uint64pow10", "math/bits.deBruijn32tab", "math/bits.deBruijn64tab", "cachetier/wire.nibbles"], apart := false, laid := [("math/bits.deBruijn32tab", laid_math_bits_deBruijn32tab), ("math/bits.deBruijn64tab", laid_math_bits_deBruijn64tab), ("internal/strconv.uint64pow10", laid_internal_strconv_uint64pow10), ("cachetier/wire.nibbles", laid_cachetier_wire_nibbles)], narrowed := true }
def ReshardRawMatchesReferenceUptoSaid : Prop := reshardRawMatchesReferenceUptoRow.holds Tryz.pinned (OpenSpec.upto reshardRawMatchesReferenceSpec)

/-- 'cachetierlaw15.ReplicateMatchesReference', WHERE WHAT IT READS IS OF BULK AT MOST 1048576: true; the input reads as it did. -/
def replicateMatchesReferenceUptoRow : OpenClaim := { program := "ytplkmbfeeegaiaagreatdoor", sum := "ce7e72febb93fc78899d7502dc73df3295822adbd5d7508bc2c39df67e140a7e", func := "cachetier/cachetierlaw15.ReplicateMatchesReference", spec := "replicateMatchesReference", unfollowed := true, recurses := true, named := ["internal/strconv.uint64pow10", "math/bits.deBruijn32tab", "math/bits.deBruijn64tab", "cachetier/wire.nibbles"], apart := false, laid := [("math/bits.deBruijn32tab", laid_math_bits_deBruijn32tab), ("math/bits.deBruijn64tab", laid_math_bits_deBruijn64tab), ("internal/strconv.uint64pow10", laid_internal_strconv_uint64pow10), ("cachetier/wire.nibbles", laid_cachetier_wire_nibbles)], narrowed := true }
def ReplicateMatchesReferenceUptoSaid : Prop := replicateMatchesReferenceUptoRow.holds Tryz.pinned (OpenSpec.upto replicateMatchesReferenceSpec)

/-- 'cachetierlaw15.ReplicateHotMatchesReference', WHERE WHAT IT READS IS OF BULK AT MOST 1048576: true; the input reads as it did. -/
def replicateHotMatchesReferenceUptoRow : OpenClaim := { program := "ytplkmbfeeegaiaagreatdoor", sum := "ce7e72febb93fc78899d7502dc73df3295822adbd5d7508bc2c39df67e140a7e", func := "cachetier/cachetierlaw15.ReplicateHotMatchesReference", spec := "replicateHotMatchesReference", unfollowed := true, recurses := true, named := ["internal/strconv.uint64pow10", "math/bits.deBruijn32tab", "math/bits.deBruijn64tab", "cachetier/wire.nibbles"], apart := false, laid := [("math/bits.deBruijn32tab", laid_math_bits_deBruijn32tab), ("math/bits.deBruijn64tab", laid_math_bits_deBruijn64tab), ("internal/strconv.uint64pow10", laid_internal_strconv_uint64pow10), ("cachetier/wire.nibbles", laid_cachetier_wire_nibbles)], narrowed := true }
def ReplicateHotMatchesReferenceUptoSaid : Prop := replicateHotMatchesReferenceUptoRow.holds Tryz.pinned (OpenSpec.upto replicateHotMatchesReferenceSpec)

/-- 'cachetierlaw15.ReplicateHolders', WHERE WHAT IT READS IS OF BULK AT MOST 1048576: true; the input reads as it did. -/
def replicateHoldersUptoRow : OpenClaim := { program := "ytplkmbfeeegaiaagreatdoor", sum := "ce7e72febb93fc78899d7502dc73df3295822adbd5d7508bc2c39df67e140a7e", func := "cachetier/cachetierlaw15.ReplicateHolders", spec := "replicateHolders", unfollowed := true, recurses := true, named := ["internal/strconv.uint64pow10", "math/bits.deBruijn32tab", "math/bits.deBruijn64tab", "cachetier/wire.nibbles"], apart := false, laid := [("math/bits.deBruijn32tab", laid_math_bits_deBruijn32tab), ("math/bits.deBruijn64tab", laid_math_bits_deBruijn64tab), ("internal/strconv.uint64pow10", laid_internal_strconv_uint64pow10), ("cachetier/wire.nibbles", laid_cachetier_wire_nibbles)], narrowed := true }
def ReplicateHoldersUptoSaid : Prop := replicateHoldersUptoRow.holds Tryz.pinned (OpenSpec.upto replicateHoldersSpec)

/-- 'cachetierlaw15.ReplicateRegions', WHERE WHAT IT READS IS OF BULK AT MOST 1048576: true; the input reads as it did. -/
def replicateRegionsUptoRow : OpenClaim := { program := "ytplkmbfeeegaiaagreatdoor", sum := "ce7e72febb93fc78899d7502dc73df3295822adbd5d7508bc2c39df67e140a7e", func := "cachetier/cachetierlaw15.ReplicateRegions", spec := "replicateRegions", unfollowed := true, recurses := true, named := ["internal/strconv.uint64pow10", "math/bits.deBruijn32tab", "math/bits.deBruijn64tab", "cachetier/wire.nibbles"], apart := false, laid := [("math/bits.deBruijn32tab", laid_math_bits_deBruijn32tab), ("math/bits.deBruijn64tab", laid_math_bits_deBruijn64tab), ("internal/strconv.uint64pow10", laid_internal_strconv_uint64pow10), ("cachetier/wire.nibbles", laid_cachetier_wire_nibbles)], narrowed := true }
def ReplicateRegionsUptoSaid : Prop := replicateRegionsUptoRow.holds Tryz.pinned (OpenSpec.upto replicateRegionsSpec)

/-- 'cachetierlaw15.ReplicateStable', WHERE WHAT IT READS IS OF BULK AT MOST 1048576: true; the input reads as it did. -/
def replicateStableUptoRow : OpenClaim := { program := "ytplkmbfeeegaiaagreatdoor", sum := "ce7e72febb93fc78899d7502dc73df3295822adbd5d7508bc2c39df67e140a7e", func := "cachetier/cachetierlaw15.ReplicateStable", spec := "replicateStable", unfollowed := true, recurses := true, named := ["internal/strconv.uint64pow10", "math/bits.deBruijn32tab", "math/bits.deBruijn64tab", "cachetier/wire.nibbles"], apart := false, laid := [("math/bits.deBruijn32tab", laid_math_bits_deBruijn32tab), ("math/bits.deBruijn64tab", laid_math_bits_deBruijn64tab), ("internal/strconv.uint64pow10", laid_internal_strconv_uint64pow10), ("cachetier/wire.nibbles", laid_cachetier_wire_nibbles)], narrowed := true }
def ReplicateStableUptoSaid : Prop := replicateStableUptoRow.holds Tryz.pinned (OpenSpec.upto replicateStableSpec)

/-- 'cachetierlaw15.ReplicateHot', WHERE WHAT IT READS IS OF BULK AT MOST 1048576: true; the input reads as it did. -/
def replicateHotUptoRow : OpenClaim := { program := "ytplkmbfeeegaiaagreatdoor", sum := "ce7e72febb93fc78899d7502dc73df3295822adbd5d7508bc2c39df67e140a7e", func := "cachetier/cachetierlaw15.ReplicateHot", spec := "replicateHot", unfollowed := true, recurses := true, named := ["internal/strconv.uint64pow10", "math/bits.deBruijn32tab", "math/bits.deBruijn64tab", "cachetier/wire.nibbles"], apart := false, laid := [("math/bits.deBruijn32tab", laid_math_bits_deBruijn32tab), ("math/bits.deBruijn64tab", laid_math_bits_deBruijn64tab), ("internal/strconv.uint64pow10", laid_internal_strconv_uint64pow10), ("cachetier/wire.nibbles", laid_cachetier_wire_nibbles)], narrowed := true }
def ReplicateHotUptoSaid : Prop := replicateHotUptoRow.holds Tryz.pinned (OpenSpec.upto replicateHotSpec)

/-- 'cachetierlaw15.ReplicateSpread', WHERE WHAT IT READS IS OF BULK AT MOST 1048576: true; the input reads as it did. -/
def replicateSpreadUptoRow : OpenClaim := { program := "ytplkmbfeeegaiaagreatdoor", sum := "ce7e72febb93fc78899d7502dc73df3295822adbd5d7508bc2c39df67e140a7e", func := "cachetier/cachetierlaw15.ReplicateSpread", spec := "replicateSpread", unfollowed := true, recurses := true, named := ["internal/strconv.uint64pow10", "math/bits.deBruijn32tab", "math/bits.deBruijn64tab", "cachetier/wire.nibbles"], apart := false, laid := [("math/bits.deBruijn32tab", laid_math_bits_deBruijn32tab), ("math/bits.deBruijn64tab", laid_math_bits_deBruijn64tab), ("internal/strconv.uint64pow10", laid_internal_strconv_uint64pow10), ("cachetier/wire.nibbles", laid_cachetier_wire_nibbles)], narrowed := true }
def ReplicateSpreadUptoSaid : Prop := replicateSpreadUptoRow.holds Tryz.pinned (OpenSpec.upto replicateSpreadSpec)

end Rows
end Go.Proofs.YtplkmbfeeegaiaaGreatDoor
