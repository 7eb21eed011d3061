/-
  NARROWER THAN 'FOR EVERY INPUT', by the rows' own cells (each row's printed sentence says how): RingMatchesReference: laid · RingFunctionsMatchReference: laid · RingBounded: laid · RingConsistent: laid · RingClockwise: laid · RingRegions: laid · RingOwners: laid · ReshardFew: laid · ReshardMoves: laid · ReshardKeys: laid · ReshardChain: laid.
  DERIVED. THE GIVEN ROWS OF THIS SEAT. 11 by the template 'for every input the law returns true; each argument reads behind the call as it read before'; 0 by the template 'total and deterministic' (their statements: YtplkmbfeeegaiaaDoorTotals.lean).
  GIVEN WITH THE SEED: the statements are not yours to turn. If you find one false, say at which input.
  Laid BY PROGRAM, IN A SANDBOX (cutbox-rows.mjs): the forced cells as the released guide's own fill.sh prints them over the translation 49b3e3b94fc8128f… (all of the seat's roots in one cut). By AI agents, Wed Nov 11 2026. No macro, syntax, notation, axiom, sorry.
-/
import Derived.Test.YtplkmbfeeegaiaaDoorChecked
import GoSem.Claim
import GoSem.ClaimJoined
import GoSem.ClaimMapViews
import Derived.JoinedTies
import Derived.KernelRfl
namespace Go.Proofs.YtplkmbfeeegaiaaDoor
/- THE CELL 'sum', in the pinned program and in every row, IS THE sha256 OF THE DUMP (.gsa) THAT YtplkmbfeeegaiaaDoorProg.lean LOADS. Nothing in Lean hashes anything: it is a label: what it is worth is what the hold of that sum in a sandbox is worth. -/
noncomputable def Tryd.pinned : Pinned := { name := "ytplkmbfeeegaiaadoor", sum := "49b3e3b94fc8128f24287ae0cc8bbbdbae04d6ebe262b4138059b3661faab654", checked := Tryd.checked }
namespace Rows
def none {H : Type} : Left H := { results := [], args := [] }

/- WHAT THE LISTED PACKAGE-LEVEL VARIABLES READ AS WHEN THE CALL BEGINS. Each datum BY PROGRAM (the guide's laid-datum.mjs) off the statement by which the dump's own 'gosem.cut.vars' lays the variable. In a bare row this is a premise. The card (YtplkmbfeeegaiaaDoorCards.lean) ties it to the program's text. -/
def laid_math_bits_deBruijn32tab {H : Type} : DataW H := .agg [.lit (.int .u8 0), .lit (.int .u8 1), .lit (.int .u8 28), .lit (.int .u8 2), .lit (.int .u8 29), .lit (.int .u8 14), .lit (.int .u8 24), .lit (.int .u8 3), .lit (.int .u8 30), .lit (.int .u8 22), .lit (.int .u8 20), .lit (.int .u8 15), .lit (.int .u8 25), .lit (.int .u8 17), .lit (.int .u8 4), .lit (.int .u8 8), .lit (.int .u8 31), .lit (.int .u8 27), .lit (.int .u8 13), .lit (.int .u8 23), .lit (.int .u8 21), .lit (.int .u8 19), .lit (.int .u8 16), .lit (.int .u8 7), .lit (.int .u8 26), .lit (.int .u8 12), .lit (.int .u8 18), .lit (.int .u8 6), .lit (.int .u8 11), .lit (.int .u8 5), .lit (.int .u8 10), .lit (.int .u8 9)]
def laid_math_bits_deBruijn64tab {H : Type} : DataW H := .agg [.lit (.int .u8 0), .lit (.int .u8 1), .lit (.int .u8 56), .lit (.int .u8 2), .lit (.int .u8 57), .lit (.int .u8 49), .lit (.int .u8 28), .lit (.int .u8 3), .lit (.int .u8 61), .lit (.int .u8 58), .lit (.int .u8 42), .lit (.int .u8 50), .lit (.int .u8 38), .lit (.int .u8 29), .lit (.int .u8 17), .lit (.int .u8 4), .lit (.int .u8 62), .lit (.int .u8 47), .lit (.int .u8 59), .lit (.int .u8 36), .lit (.int .u8 45), .lit (.int .u8 43), .lit (.int .u8 51), .lit (.int .u8 22), .lit (.int .u8 53), .lit (.int .u8 39), .lit (.int .u8 33), .lit (.int .u8 30), .lit (.int .u8 24), .lit (.int .u8 18), .lit (.int .u8 12), .lit (.int .u8 5), .lit (.int .u8 63), .lit (.int .u8 55), .lit (.int .u8 48), .lit (.int .u8 27), .lit (.int .u8 60), .lit (.int .u8 41), .lit (.int .u8 37), .lit (.int .u8 16), .lit (.int .u8 46), .lit (.int .u8 35), .lit (.int .u8 44), .lit (.int .u8 21), .lit (.int .u8 52), .lit (.int .u8 32), .lit (.int .u8 23), .lit (.int .u8 11), .lit (.int .u8 54), .lit (.int .u8 26), .lit (.int .u8 40), .lit (.int .u8 15), .lit (.int .u8 34), .lit (.int .u8 20), .lit (.int .u8 31), .lit (.int .u8 10), .lit (.int .u8 25), .lit (.int .u8 14), .lit (.int .u8 19), .lit (.int .u8 9), .lit (.int .u8 13), .lit (.int .u8 8), .lit (.int .u8 7), .lit (.int .u8 6)]
def laid_internal_strconv_uint64pow10 {H : Type} : DataW H := .agg [.lit (.int .u64 1), .lit (.int .u64 10), .lit (.int .u64 100), .lit (.int .u64 1000), .lit (.int .u64 10000), .lit (.int .u64 100000), .lit (.int .u64 1000000), .lit (.int .u64 10000000), .lit (.int .u64 100000000), .lit (.int .u64 1000000000), .lit (.int .u64 10000000000), .lit (.int .u64 100000000000), .lit (.int .u64 1000000000000), .lit (.int .u64 10000000000000), .lit (.int .u64 100000000000000), .lit (.int .u64 1000000000000000), .lit (.int .u64 10000000000000000), .lit (.int .u64 100000000000000000), .lit (.int .u64 1000000000000000000), .lit (.int .u64 10000000000000000000)]
def laid_cachetier_wire_nibbles {H : Type} : DataW H := .agg [.lit (.int .u32 0), .lit (.int .u32 274646895), .lit (.int .u32 549293790), .lit (.int .u32 820201905), .lit (.int .u32 1098587580), .lit (.int .u32 1361435347), .lit (.int .u32 1640403810), .lit (.int .u32 1905808397), .lit (.int .u32 2197175160), .lit (.int .u32 2460548119), .lit (.int .u32 2722870694), .lit (.int .u32 2987750089), .lit (.int .u32 3280807620), .lit (.int .u32 3553878443), .lit (.int .u32 3811616794), .lit (.int .u32 4084100981)]

/-- 'cachetierlaw12.RingMatchesReference': WHATEVER THE INPUT: true; the input reads as it did. -/
def ringMatchesReferenceSpec : ChangeSpec := { name := "ringMatchesReference", fn := fun _ => fun
  | [d1, d2, d3] => { results := [.lit (.bool true)], args := [d1, d2, d3] }
  | _ => none }
def ringMatchesReferenceRow : OpenClaim := { program := "ytplkmbfeeegaiaadoor", sum := "49b3e3b94fc8128f24287ae0cc8bbbdbae04d6ebe262b4138059b3661faab654", func := "cachetier/cachetierlaw12.RingMatchesReference", spec := "ringMatchesReference", unfollowed := true, recurses := true, named := ["internal/strconv.uint64pow10", "math/bits.deBruijn32tab", "math/bits.deBruijn64tab", "cachetier/wire.nibbles"], apart := false, laid := [("math/bits.deBruijn32tab", laid_math_bits_deBruijn32tab), ("math/bits.deBruijn64tab", laid_math_bits_deBruijn64tab), ("internal/strconv.uint64pow10", laid_internal_strconv_uint64pow10), ("cachetier/wire.nibbles", laid_cachetier_wire_nibbles)] }
def RingMatchesReferenceSaid : Prop := ringMatchesReferenceRow.holds Tryd.pinned (OpenSpec.ofChange ringMatchesReferenceSpec)

/-- ITS FALSE NEIGHBOUR: 'it returns false'. Refute it at one input. -/
def ringMatchesReferenceWrong : ChangeSpec := { name := "ringMatchesReference", fn := fun _ => fun
  | [d1, d2, d3] => { results := [.lit (.bool false)], args := [d1, d2, d3] }
  | _ => none }
def RingMatchesReferenceWrongFalsely : Prop := ringMatchesReferenceRow.holds Tryd.pinned (OpenSpec.ofChange ringMatchesReferenceWrong)

/-- 'cachetierlaw12.RingFunctionsMatchReference': WHATEVER THE INPUT: true; the input reads as it did. -/
def ringFunctionsMatchReferenceSpec : ChangeSpec := { name := "ringFunctionsMatchReference", fn := fun _ => fun
  | [d1, d2, d3, d4, d5] => { results := [.lit (.bool true)], args := [d1, d2, d3, d4, d5] }
  | _ => none }
def ringFunctionsMatchReferenceRow : OpenClaim := { program := "ytplkmbfeeegaiaadoor", sum := "49b3e3b94fc8128f24287ae0cc8bbbdbae04d6ebe262b4138059b3661faab654", func := "cachetier/cachetierlaw12.RingFunctionsMatchReference", spec := "ringFunctionsMatchReference", unfollowed := true, recurses := true, named := ["internal/strconv.uint64pow10", "math/bits.deBruijn32tab", "math/bits.deBruijn64tab", "cachetier/wire.nibbles"], apart := false, laid := [("math/bits.deBruijn32tab", laid_math_bits_deBruijn32tab), ("math/bits.deBruijn64tab", laid_math_bits_deBruijn64tab), ("internal/strconv.uint64pow10", laid_internal_strconv_uint64pow10), ("cachetier/wire.nibbles", laid_cachetier_wire_nibbles)] }
def RingFunctionsMatchReferenceSaid : Prop := ringFunctionsMatchReferenceRow.holds Tryd.pinned (OpenSpec.ofChange ringFunctionsMatchReferenceSpec)

/-- ITS FALSE NEIGHBOUR: 'it returns false'. Refute it at one input. -/
def ringFunctionsMatchReferenceWrong : ChangeSpec := { name := "ringFunctionsMatchReference", fn := fun _ => fun
  | [d1, d2, d3, d4, d5] => { results := [.lit (.bool false)], args := [d1, d2, d3, d4, d5] }
  | _ => none }
def RingFunctionsMatchReferenceWrongFalsely : Prop := ringFunctionsMatchReferenceRow.holds Tryd.pinned (OpenSpec.ofChange ringFunctionsMatchReferenceWrong)

/-- 'cachetierlaw12.RingBounded': WHATEVER THE INPUT: true; the input reads as it did. -/
def ringBoundedSpec : ChangeSpec := { name := "ringBounded", fn := fun _ => fun
  | [d1, d2] => { results := [.lit (.bool true)], args := [d1, d2] }
  | _ => none }
def ringBoundedRow : OpenClaim := { program := "ytplkmbfeeegaiaadoor", sum := "49b3e3b94fc8128f24287ae0cc8bbbdbae04d6ebe262b4138059b3661faab654", func := "cachetier/cachetierlaw12.RingBounded", spec := "ringBounded", unfollowed := true, recurses := true, named := ["internal/strconv.uint64pow10", "math/bits.deBruijn32tab", "math/bits.deBruijn64tab", "cachetier/wire.nibbles"], apart := false, laid := [("math/bits.deBruijn32tab", laid_math_bits_deBruijn32tab), ("math/bits.deBruijn64tab", laid_math_bits_deBruijn64tab), ("internal/strconv.uint64pow10", laid_internal_strconv_uint64pow10), ("cachetier/wire.nibbles", laid_cachetier_wire_nibbles)] }
def RingBoundedSaid : Prop := ringBoundedRow.holds Tryd.pinned (OpenSpec.ofChange ringBoundedSpec)

/-- ITS FALSE NEIGHBOUR: 'it returns false'. Refute it at one input. -/
def ringBoundedWrong : ChangeSpec := { name := "ringBounded", fn := fun _ => fun
  | [d1, d2] => { results := [.lit (.bool false)], args := [d1, d2] }
  | _ => none }
def RingBoundedWrongFalsely : Prop := ringBoundedRow.holds Tryd.pinned (OpenSpec.ofChange ringBoundedWrong)

/-- 'cachetierlaw12.RingConsistent': WHATEVER THE INPUT: true; the input reads as it did. -/
def ringConsistentSpec : ChangeSpec := { name := "ringConsistent", fn := fun _ => fun
  | [d1, d2, d3] => { results := [.lit (.bool true)], args := [d1, d2, d3] }
  | _ => none }
def ringConsistentRow : OpenClaim := { program := "ytplkmbfeeegaiaadoor", sum := "49b3e3b94fc8128f24287ae0cc8bbbdbae04d6ebe262b4138059b3661faab654", func := "cachetier/cachetierlaw12.RingConsistent", spec := "ringConsistent", unfollowed := true, recurses := true, named := ["internal/strconv.uint64pow10", "math/bits.deBruijn32tab", "math/bits.deBruijn64tab", "cachetier/wire.nibbles"], apart := false, laid := [("math/bits.deBruijn32tab", laid_math_bits_deBruijn32tab), ("math/bits.deBruijn64tab", laid_math_bits_deBruijn64tab), ("internal/strconv.uint64pow10", laid_internal_strconv_uint64pow10), ("cachetier/wire.nibbles", laid_cachetier_wire_nibbles)] }
def RingConsistentSaid : Prop := ringConsistentRow.holds Tryd.pinned (OpenSpec.ofChange ringConsistentSpec)

/-- ITS FALSE NEIGHBOUR: 'it returns false'. Refute it at one input. -/
def ringConsistentWrong : ChangeSpec := { name := "ringConsistent", fn := fun _ => fun
  | [d1, d2, d3] => { results := [.lit (.bool false)], args := [d1, d2, d3] }
  | _ => none }
def RingConsistentWrongFalsely : Prop := ringConsistentRow.holds Tryd.pinned (OpenSpec.ofChange ringConsistentWrong)

/-- 'cachetierlaw12.RingClockwise': WHATEVER THE INPUT: true; the input reads as it did. -/
def ringClockwiseSpec : ChangeSpec := { name := "ringClockwise", fn := fun _ => fun
  | [d] => { results := [.lit (.bool true)], args := [d] }
  | _ => none }
def ringClockwiseRow : OpenClaim := { program := "ytplkmbfeeegaiaadoor", sum := "49b3e3b94fc8128f24287ae0cc8bbbdbae04d6ebe262b4138059b3661faab654", func := "cachetier/cachetierlaw12.RingClockwise", spec := "ringClockwise", unfollowed := true, recurses := true, named := ["internal/strconv.uint64pow10", "math/bits.deBruijn32tab", "math/bits.deBruijn64tab", "cachetier/wire.nibbles"], apart := false, laid := [("math/bits.deBruijn32tab", laid_math_bits_deBruijn32tab), ("math/bits.deBruijn64tab", laid_math_bits_deBruijn64tab), ("internal/strconv.uint64pow10", laid_internal_strconv_uint64pow10), ("cachetier/wire.nibbles", laid_cachetier_wire_nibbles)] }
def RingClockwiseSaid : Prop := ringClockwiseRow.holds Tryd.pinned (OpenSpec.ofChange ringClockwiseSpec)

/-- ITS FALSE NEIGHBOUR: 'it returns false'. Refute it at one input. -/
def ringClockwiseWrong : ChangeSpec := { name := "ringClockwise", fn := fun _ => fun
  | [d] => { results := [.lit (.bool false)], args := [d] }
  | _ => none }
def RingClockwiseWrongFalsely : Prop := ringClockwiseRow.holds Tryd.pinned (OpenSpec.ofChange ringClockwiseWrong)

/-- 'cachetierlaw12.RingRegions': WHATEVER THE INPUT: true; the input reads as it did. -/
def ringRegionsSpec : ChangeSpec := { name := "ringRegions", fn := fun _ => fun
  | [d1, d2, d3] => { results := [.lit (.bool true)], args := [d1, d2, d3] }
  | _ => none }
def ringRegionsRow : OpenClaim := { program := "ytplkmbfeeegaiaadoor", sum := "49b3e3b94fc8128f24287ae0cc8bbbdbae04d6ebe262b4138059b3661faab654", func := "cachetier/cachetierlaw12.RingRegions", spec := "ringRegions", unfollowed := true, recurses := true, named := ["internal/strconv.uint64pow10", "math/bits.deBruijn32tab", "math/bits.deBruijn64tab", "cachetier/wire.nibbles"], apart := false, laid := [("math/bits.deBruijn32tab", laid_math_bits_deBruijn32tab), ("math/bits.deBruijn64tab", laid_math_bits_deBruijn64tab), ("internal/strconv.uint64pow10", laid_internal_strconv_uint64pow10), ("cachetier/wire.nibbles", laid_cachetier_wire_nibbles)] }
def RingRegionsSaid : Prop := ringRegionsRow.holds Tryd.pinned (OpenSpec.ofChange ringRegionsSpec)

/-- ITS FALSE NEIGHBOUR: 'it returns false'. Refute it at one input. -/
def ringRegionsWrong : ChangeSpec := { name := "ringRegions", fn := fun _ => fun
  | [d1, d2, d3] => { results := [.lit (.bool false)], args := [d1, d2, d3] }
  | _ => none }
def RingRegionsWrongFalsely : Prop := ringRegionsRow.holds Tryd.pinned (OpenSpec.ofChange ringRegionsWrong)

/-- 'cachetierlaw12.RingOwners': WHATEVER THE INPUT: true; the input reads as it did. -/
def ringOwnersSpec : ChangeSpec := { name := "ringOwners", fn := fun _ => fun
  | [d1, d2, d3, d4] => { results := [.lit (.bool true)], args := [d1, d2, d3, d4] }
  | _ => none }
def ringOwnersRow : OpenClaim := { program := "ytplkmbfeeegaiaadoor", sum := "49b3e3b94fc8128f24287ae0cc8bbbdbae04d6ebe262b4138059b3661faab654", func := "cachetier/cachetierlaw12.RingOwners", spec := "ringOwners", unfollowed := true, recurses := true, named := ["internal/strconv.uint64pow10", "math/bits.deBruijn32tab", "math/bits.deBruijn64tab", "cachetier/wire.nibbles"], apart := false, laid := [("math/bits.deBruijn32tab", laid_math_bits_deBruijn32tab), ("math/bits.deBruijn64tab", laid_math_bits_deBruijn64tab), ("internal/strconv.uint64pow10", laid_internal_strconv_uint64pow10), ("cachetier/wire.nibbles", laid_cachetier_wire_nibbles)] }
def RingOwnersSaid : Prop := ringOwnersRow.holds Tryd.pinned (OpenSpec.ofChange ringOwnersSpec)

/-- ITS FALSE NEIGHBOUR: 'it returns false'. Refute it at one input. -/
def ringOwnersWrong : ChangeSpec := { name := "ringOwners", fn := fun _ => fun
  | [d1, d2, d3, d4] => { results := [.lit (.bool false)], args := [d1, d2, d3, d4] }
  | _ => none }
def RingOwnersWrongFalsely : Prop := ringOwnersRow.holds Tryd.pinned (OpenSpec.ofChange ringOwnersWrong)

/-- 'cachetierlaw13.ReshardFew': WHATEVER THE INPUT: true; the input reads as it did. -/
def reshardFewSpec : ChangeSpec := { name := "reshardFew", fn := fun _ => fun
  | [d1, d2, d3] => { results := [.lit (.bool true)], args := [d1, d2, d3] }
  | _ => none }
def reshardFewRow : OpenClaim := { program := "ytplkmbfeeegaiaadoor", sum := "49b3e3b94fc8128f24287ae0cc8bbbdbae04d6ebe262b4138059b3661faab654", func := "cachetier/cachetierlaw13.ReshardFew", spec := "reshardFew", unfollowed := true, recurses := true, named := ["internal/strconv.uint64pow10", "math/bits.deBruijn32tab", "math/bits.deBruijn64tab", "cachetier/wire.nibbles"], apart := false, laid := [("math/bits.deBruijn32tab", laid_math_bits_deBruijn32tab), ("math/bits.deBruijn64tab", laid_math_bits_deBruijn64tab), ("internal/strconv.uint64pow10", laid_internal_strconv_uint64pow10), ("cachetier/wire.nibbles", laid_cachetier_wire_nibbles)] }
def ReshardFewSaid : Prop := reshardFewRow.holds Tryd.pinned (OpenSpec.ofChange reshardFewSpec)

/-- ITS FALSE NEIGHBOUR: 'it returns false'. Refute it at one input. -/
def reshardFewWrong : ChangeSpec := { name := "reshardFew", fn := fun _ => fun
  | [d1, d2, d3] => { results := [.lit (.bool false)], args := [d1, d2, d3] }
  | _ => none }
def ReshardFewWrongFalsely : Prop := reshardFewRow.holds Tryd.pinned (OpenSpec.ofChange reshardFewWrong)

/-- 'cachetierlaw13.ReshardMoves': WHATEVER THE INPUT: true; the input reads as it did. -/
def reshardMovesSpec : ChangeSpec := { name := "reshardMoves", fn := fun _ => fun
  | [d1, d2, d3] => { results := [.lit (.bool true)], args := [d1, d2, d3] }
  | _ => none }
def reshardMovesRow : OpenClaim := { program := "ytplkmbfeeegaiaadoor", sum := "49b3e3b94fc8128f24287ae0cc8bbbdbae04d6ebe262b4138059b3661faab654", func := "cachetier/cachetierlaw13.ReshardMoves", spec := "reshardMoves", unfollowed := true, recurses := true, named := ["internal/strconv.uint64pow10", "math/bits.deBruijn32tab", "math/bits.deBruijn64tab", "cachetier/wire.nibbles"], apart := false, laid := [("math/bits.deBruijn32tab", laid_math_bits_deBruijn32tab), ("math/bits.deBruijn64tab", laid_math_bits_deBruijn64tab), ("internal/strconv.uint64pow10", laid_internal_strconv_uint64pow10), ("cachetier/wire.nibbles", laid_cachetier_wire_nibbles)] }
def ReshardMovesSaid : Prop := reshardMovesRow.holds Tryd.pinned (OpenSpec.ofChange reshardMovesSpec)

/-- ITS FALSE NEIGHBOUR: 'it returns false'. Refute it at one input. -/
def reshardMovesWrong : ChangeSpec := { name := "reshardMoves", fn := fun _ => fun
  | [d1, d2, d3] => { results := [.lit (.bool false)], args := [d1, d2, d3] }
  | _ => none }
def ReshardMovesWrongFalsely : Prop := reshardMovesRow.holds Tryd.pinned (OpenSpec.ofChange reshardMovesWrong)

/-- 'cachetierlaw13.ReshardKeys': WHATEVER THE INPUT: true; the input reads as it did. -/
def reshardKeysSpec : ChangeSpec := { name := "reshardKeys", fn := fun _ => fun
  | [d1, d2, d3] => { results := [.lit (.bool true)], args := [d1, d2, d3] }
  | _ => none }
def reshardKeysRow : OpenClaim := { program := "ytplkmbfeeegaiaadoor", sum := "49b3e3b94fc8128f24287ae0cc8bbbdbae04d6ebe262b4138059b3661faab654", func := "cachetier/cachetierlaw13.ReshardKeys", spec := "reshardKeys", unfollowed := true, recurses := true, named := ["internal/strconv.uint64pow10", "math/bits.deBruijn32tab", "math/bits.deBruijn64tab", "cachetier/wire.nibbles"], apart := false, laid := [("math/bits.deBruijn32tab", laid_math_bits_deBruijn32tab), ("math/bits.deBruijn64tab", laid_math_bits_deBruijn64tab), ("internal/strconv.uint64pow10", laid_internal_strconv_uint64pow10), ("cachetier/wire.nibbles", laid_cachetier_wire_nibbles)] }
def ReshardKeysSaid : Prop := reshardKeysRow.holds Tryd.pinned (OpenSpec.ofChange reshardKeysSpec)

/-- ITS FALSE NEIGHBOUR: 'it returns false'. Refute it at one input. -/
def reshardKeysWrong : ChangeSpec := { name := "reshardKeys", fn := fun _ => fun
  | [d1, d2, d3] => { results := [.lit (.bool false)], args := [d1, d2, d3] }
  | _ => none }
def ReshardKeysWrongFalsely : Prop := reshardKeysRow.holds Tryd.pinned (OpenSpec.ofChange reshardKeysWrong)

/-- 'cachetierlaw13.ReshardChain': WHATEVER THE INPUT: true; the input reads as it did. -/
def reshardChainSpec : ChangeSpec := { name := "reshardChain", fn := fun _ => fun
  | [d1, d2, d3] => { results := [.lit (.bool true)], args := [d1, d2, d3] }
  | _ => none }
def reshardChainRow : OpenClaim := { program := "ytplkmbfeeegaiaadoor", sum := "49b3e3b94fc8128f24287ae0cc8bbbdbae04d6ebe262b4138059b3661faab654", func := "cachetier/cachetierlaw13.ReshardChain", spec := "reshardChain", unfollowed := true, recurses := true, named := ["internal/strconv.uint64pow10", "math/bits.deBruijn32tab", "math/bits.deBruijn64tab", "cachetier/wire.nibbles"], apart := false, laid := [("math/bits.deBruijn32tab", laid_math_bits_deBruijn32tab), ("math/bits.deBruijn64tab", laid_math_bits_deBruijn64tab), ("internal/strconv.uint64pow10", laid_internal_strconv_uint64pow10), ("cachetier/wire.nibbles", laid_cachetier_wire_nibbles)] }
def ReshardChainSaid : Prop := reshardChainRow.holds Tryd.pinned (OpenSpec.ofChange reshardChainSpec)

/-- ITS FALSE NEIGHBOUR: 'it returns false'. Refute it at one input. -/
def reshardChainWrong : ChangeSpec := { name := "reshardChain", fn := fun _ => fun
  | [d1, d2, d3] => { results := [.lit (.bool false)], args := [d1, d2, d3] }
  | _ => none }
def ReshardChainWrongFalsely : Prop := reshardChainRow.holds Tryd.pinned (OpenSpec.ofChange reshardChainWrong)

/- THE SECOND FORM. 'bulk': how many values and letters a reading holds, each counted each time it is reached (what is shared counts as often as it is met; a slice's spare places count too). A statement '..UptoSaid' is the law's where the arguments, and the package variables that the reading takes, are together of bulk at most 1048576: NARROWER than '..Said'. Prove '..Said' where nothing that the law and all that it calls make is longer than what came in: it says more and counts as full. Else prove '..UptoSaid'. A law counts once. -/
mutual
def uptoBulk {H : Type} : DataW H → Nat
  | .lit (.string bytes) => bytes.length + 1
  | .lit _ => 1
  | .nil => 1
  | .ptr d => uptoBulk d + 1
  | .slice elems spare => uptoBulkAll elems + uptoBulkAll spare + 1
  | .agg parts => uptoBulkAll parts + 1
  | .iface _ d => uptoBulk d + 1
  | .map entries => uptoBulkEntries entries + 1
  | .held _ => 1
def uptoBulkAll {H : Type} : List (DataW H) → Nat
  | [] => 0
  | d :: r => uptoBulk d + uptoBulkAll r
def uptoBulkEntries {H : Type} : List (Lit × DataW H) → Nat
  | [] => 0
  | x :: r => uptoBulkEntry x + uptoBulkEntries r
def uptoBulkEntry {H : Type} : Lit × DataW H → Nat
  | (.string bytes, d) => bytes.length + uptoBulk d + 1
  | (_, d) => uptoBulk d + 1
 end
def uptoSmall : (H : Type) → List (DataW H) → Bool := fun _ ds => decide (uptoBulkAll ds ≤ 1048576)
def OpenSpec.upto (s : _root_.Go.ChangeSpec) : _root_.Go.OpenSpec := { _root_.Go.OpenSpec.ofChange s with cond := some uptoSmall }

/-- 'cachetierlaw12.RingMatchesReference', WHERE WHAT IT READS IS OF BULK AT MOST 1048576: true; the input reads as it did. -/
def ringMatchesReferenceUptoRow : OpenClaim := { program := "ytplkmbfeeegaiaadoor", sum := "49b3e3b94fc8128f24287ae0cc8bbbdbae04d6ebe262b4138059b3661faab654", func := "cachetier/cachetierlaw12.RingMatchesReference", spec := "ringMatchesReference", unfollowed := true, recurses := true, named := ["internal/strconv.uint64pow10", "math/bits.deBruijn32tab", "math/bits.deBruijn64tab", "cachetier/wire.nibbles"], apart := false, laid := [("math/bits.deBruijn32tab", laid_math_bits_deBruijn32tab), ("math/bits.deBruijn64tab", laid_math_bits_deBruijn64tab), ("internal/strconv.uint64pow10", laid_internal_strconv_uint64pow10), ("cachetier/wire.nibbles", laid_cachetier_wire_nibbles)], narrowed := true }
def RingMatchesReferenceUptoSaid : Prop := ringMatchesReferenceUptoRow.holds Tryd.pinned (OpenSpec.upto ringMatchesReferenceSpec)

/-- 'cachetierlaw12.RingFunctionsMatchReference', WHERE WHAT IT READS IS OF BULK AT MOST 1048576: true; the input reads as it did. -/
def ringFunctionsMatchReferenceUptoRow : OpenClaim := { program := "ytplkmbfeeegaiaadoor", sum := "49b3e3b94fc8128f24287ae0cc8bbbdbae04d6ebe262b4138059b3661faab654", func := "cachetier/cachetierlaw12.RingFunctionsMatchReference", spec := "ringFunctionsMatchReference", unfollowed := true, recurses := true, named := ["internal/strconv.uint64pow10", "math/bits.deBruijn32tab", "math/bits.deBruijn64tab", "cachetier/wire.nibbles"], apart := false, laid := [("math/bits.deBruijn32tab", laid_math_bits_deBruijn32tab), ("math/bits.deBruijn64tab", laid_math_bits_deBruijn64tab), ("internal/strconv.uint64pow10", laid_internal_strconv_uint64pow10), ("cachetier/wire.nibbles", laid_cachetier_wire_nibbles)], narrowed := true }
def RingFunctionsMatchReferenceUptoSaid : Prop := ringFunctionsMatchReferenceUptoRow.holds Tryd.pinned (OpenSpec.upto ringFunctionsMatchReferenceSpec)

/-- 'cachetierlaw12.RingBounded', WHERE WHAT IT READS IS OF BULK AT MOST 1048576: true; the input reads as it did. -/
def ringBoundedUptoRow : OpenClaim := { program := "ytplkmbfeeegaiaadoor", sum := "49b3e3b94fc8128f24287ae0cc8bbbdbae04d6ebe262b4138059b3661faab654", func := "cachetier/cachetierlaw12.RingBounded", spec := "ringBounded", unfollowed := true, recurses := true, named := ["internal/strconv.uint64pow10", "math/bits.deBruijn32tab", "math/bits.deBruijn64tab", "cachetier/wire.nibbles"], apart := false, laid := [("math/bits.deBruijn32tab", laid_math_bits_deBruijn32tab), ("math/bits.deBruijn64tab", laid_math_bits_deBruijn64tab), ("internal/strconv.uint64pow10", laid_internal_strconv_uint64pow10), ("cachetier/wire.nibbles", laid_cachetier_wire_nibbles)], narrowed := true }
def RingBoundedUptoSaid : Prop := ringBoundedUptoRow.holds Tryd.pinned (OpenSpec.upto ringBoundedSpec)

/-- 'cachetierlaw12.RingConsistent', WHERE WHAT IT READS IS OF BULK AT MOST 1048576: true; the input reads as it did. -/
def ringConsistentUptoRow : OpenClaim := { program := "ytplkmbfeeegaiaadoor", sum := "49b3e3b94fc8128f24287ae0cc8bbbdbae04d6ebe262b4138059b3661faab654", func := "cachetier/cachetierlaw12.RingConsistent", spec := "ringConsistent", unfollowed := true, recurses := true, named := ["internal/strconv.uint64pow10", "math/bits.deBruijn32tab", "math/bits.deBruijn64tab", "cachetier/wire.nibbles"], apart := false, laid := [("math/bits.deBruijn32tab", laid_math_bits_deBruijn32tab), ("math/bits.deBruijn64tab", laid_math_bits_deBruijn64tab), ("internal/strconv.uint64pow10", laid_internal_strconv_uint64pow10), ("cachetier/wire.nibbles", laid_cachetier_wire_nibbles)], narrowed := true }
def RingConsistentUptoSaid : Prop := ringConsistentUptoRow.holds Tryd.pinned (OpenSpec.upto ringConsistentSpec)

/-- 'cachetierlaw12.RingClockwise', WHERE WHAT IT READS IS OF BULK AT MOST 1048576: true; the input reads as it did. -/
def ringClockwiseUptoRow : OpenClaim := { program := "ytplkmbfeeegaiaadoor", sum := "49b3e3b94fc8128f24287ae0cc8bbbdbae04d6ebe262b4138059b3661faab654", func := "cachetier/cachetierlaw12.RingClockwise", spec := "ringClockwise", unfollowed := true, recurses := true, named := ["internal/strconv.uint64pow10", "math/bits.deBruijn32tab", "math/bits.deBruijn64tab", "cachetier/wire.nibbles"], apart := false, laid := [("math/bits.deBruijn32tab", laid_math_bits_deBruijn32tab), ("math/bits.deBruijn64tab", laid_math_bits_deBruijn64tab), ("internal/strconv.uint64pow10", laid_internal_strconv_uint64pow10), ("cachetier/wire.nibbles", laid_cachetier_wire_nibbles)], narrowed := true }
def RingClockwiseUptoSaid : Prop := ringClockwiseUptoRow.holds Tryd.pinned (OpenSpec.upto ringClockwiseSpec)

/-- 'cachetierlaw12.RingRegions', WHERE WHAT IT READS IS OF BULK AT MOST 1048576: true; the input reads as it did. -/
def ringRegionsUptoRow : OpenClaim := { program := "ytplkmbfeeegaiaadoor", sum := "49b3e3b94fc8128f24287ae0cc8bbbdbae04d6ebe262b4138059b3661faab654", func := "cachetier/cachetierlaw12.RingRegions", spec := "ringRegions", unfollowed := true, recurses := true, named := ["internal/strconv.uint64pow10", "math/bits.deBruijn32tab", "math/bits.deBruijn64tab", "cachetier/wire.nibbles"], apart := false, laid := [("math/bits.deBruijn32tab", laid_math_bits_deBruijn32tab), ("math/bits.deBruijn64tab", laid_math_bits_deBruijn64tab), ("internal/strconv.uint64pow10", laid_internal_strconv_uint64pow10), ("cachetier/wire.nibbles", laid_cachetier_wire_nibbles)], narrowed := true }
def RingRegionsUptoSaid : Prop := ringRegionsUptoRow.holds Tryd.pinned (OpenSpec.upto ringRegionsSpec)

/-- 'cachetierlaw12.RingOwners', WHERE WHAT IT READS IS OF BULK AT MOST 1048576: true; the input reads as it did. -/
def ringOwnersUptoRow : OpenClaim := { program := "ytplkmbfeeegaiaadoor", sum := "49b3e3b94fc8128f24287ae0cc8bbbdbae04d6ebe262b4138059b3661faab654", func := "cachetier/cachetierlaw12.RingOwners", spec := "ringOwners", unfollowed := true, recurses := true, named := ["internal/strconv.uint64pow10", "math/bits.deBruijn32tab", "math/bits.deBruijn64tab", "cachetier/wire.nibbles"], apart := false, laid := [("math/bits.deBruijn32tab", laid_math_bits_deBruijn32tab), ("math/bits.deBruijn64tab", laid_math_bits_deBruijn64tab), ("internal/strconv.uint64pow10", laid_internal_strconv_uint64pow10), ("cachetier/wire.nibbles", laid_cachetier_wire_nibbles)], narrowed := true }
def RingOwnersUptoSaid : Prop := ringOwnersUptoRow.holds Tryd.pinned (OpenSpec.upto ringOwnersSpec)

/-- 'cachetierlaw13.ReshardFew', WHERE WHAT IT READS IS OF BULK AT MOST 1048576: true; the input reads as it did. -/
def reshardFewUptoRow : OpenClaim := { program := "ytplkmbfeeegaiaadoor", sum := "49b3e3b94fc8128f24287ae0cc8bbbdbae04d6ebe262b4138059b3661faab654", func := "cachetier/cachetierlaw13.ReshardFew", spec := "reshardFew", unfollowed := true, recurses := true, named := ["internal/strconv.uint64pow10", "math/bits.deBruijn32tab", "math/bits.deBruijn64tab", "cachetier/wire.nibbles"], apart := false, laid := [("math/bits.deBruijn32tab", laid_math_bits_deBruijn32tab), ("math/bits.deBruijn64tab", laid_math_bits_deBruijn64tab), ("internal/strconv.uint64pow10", laid_internal_strconv_uint64pow10), ("cachetier/wire.nibbles", laid_cachetier_wire_nibbles)], narrowed := true }
def ReshardFewUptoSaid : Prop := reshardFewUptoRow.holds Tryd.pinned (OpenSpec.upto reshardFewSpec)

/-- 'cachetierlaw13.ReshardMoves', WHERE WHAT IT READS IS OF BULK AT MOST 1048576: true; the input reads as it did. -/
def reshardMovesUptoRow : OpenClaim := { program := "ytplkmbfeeegaiaadoor", sum := "49b3e3b94fc8128f24287ae0cc8bbbdbae04d6ebe262b4138059b3661faab654", func := "cachetier/cachetierlaw13.ReshardMoves", spec := "reshardMoves", unfollowed := true, recurses := true, named := ["internal/strconv.uint64pow10", "math/bits.deBruijn32tab", "math/bits.deBruijn64tab", "cachetier/wire.nibbles"], apart := false, laid := [("math/bits.deBruijn32tab", laid_math_bits_deBruijn32tab), ("math/bits.deBruijn64tab", laid_math_bits_deBruijn64tab), ("internal/strconv.uint64pow10", laid_internal_strconv_uint64pow10), ("cachetier/wire.nibbles", laid_cachetier_wire_nibbles)], narrowed := true }
def ReshardMovesUptoSaid : Prop := reshardMovesUptoRow.holds Tryd.pinned (OpenSpec.upto reshardMovesSpec)

/-- 'cachetierlaw13.ReshardKeys', WHERE WHAT IT READS IS OF BULK AT MOST 1048576: true; the input reads as it did. -/
def reshardKeysUptoRow : OpenClaim := { program := "ytplkmbfeeegaiaadoor", sum := "49b3e3b94fc8128f24287ae0cc8bbbdbae04d6ebe262b4138059b3661faab654", func := "cachetier/cachetierlaw13.ReshardKeys", spec := "reshardKeys", unfollowed := true, recurses := true, named := ["internal/strconv.uint64pow10", "math/bits.deBruijn32tab", "math/bits.deBruijn64tab", "cachetier/wire.nibbles"], apart := false, laid := [("math/bits.deBruijn32tab", laid_math_bits_deBruijn32tab), ("math/bits.deBruijn64tab", laid_math_bits_deBruijn64tab), ("internal/strconv.uint64pow10", laid_internal_strconv_uint64pow10), ("cachetier/wire.nibbles", laid_cachetier_wire_nibbles)], narrowed := true }
def ReshardKeysUptoSaid : Prop := reshardKeysUptoRow.holds Tryd.pinned (OpenSpec.upto reshardKeysSpec)

/-- 'cachetierlaw13.ReshardChain', WHERE WHAT IT READS IS OF BULK AT MOST 1048576: true; the input reads as it did. -/
def reshardChainUptoRow : OpenClaim := { program := "ytplkmbfeeegaiaadoor", sum := "49b3e3b94fc8128f24287ae0cc8bbbdbae04d6ebe262b4138059b3661faab654", func := "cachetier/cachetierlaw13.ReshardChain", spec := "reshardChain", unfollowed := true, recurses := true, named := ["internal/strconv.uint64pow10", "math/bits.deBruijn32tab", "math/bits.deBruijn64tab", "cachetier/wire.nibbles"], apart := false, laid := [("math/bits.deBruijn32tab", laid_math_bits_deBruijn32tab), ("math/bits.deBruijn64tab", laid_math_bits_deBruijn64tab), ("internal/strconv.uint64pow10", laid_internal_strconv_uint64pow10), ("cachetier/wire.nibbles", laid_cachetier_wire_nibbles)], narrowed := true }
def ReshardChainUptoSaid : Prop := reshardChainUptoRow.holds Tryd.pinned (OpenSpec.upto reshardChainSpec)

end Rows
end Go.Proofs.YtplkmbfeeegaiaaDoor
