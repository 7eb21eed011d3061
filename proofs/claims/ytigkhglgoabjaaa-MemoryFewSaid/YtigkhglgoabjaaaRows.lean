/-
  No cell of these rows narrows 'for every input' (looked for: loops, veiled, ifaces, maps, wideKeys, modest, calm, conditions, laid).
  DERIVED. THE GIVEN ROWS OF THIS SEAT. 6 by the template 'for every input the law returns true; each argument reads behind the call as it read before'; 0 by the template 'total and deterministic' (their statements: YtigkhglgoabjaaaTotals.lean).
  GIVEN WITH THE SEED: the statements are not yours to turn. If you find one false, say at which input.
  Laid BY PROGRAM, IN A SANDBOX (cutbox-rows.mjs): the forced cells as the released guide's own fill.sh prints them over the translation 9db3e71a98d7eabb… (all of the seat's roots in one cut). By AI agents, Wed Nov 11 2026. No macro, syntax, notation, axiom, sorry.
-/
import Derived.Test.YtigkhglgoabjaaaChecked
import GoSem.Claim
import GoSem.ClaimJoined
import GoSem.ClaimMapViews
import Derived.JoinedTies
import Derived.KernelRfl
namespace Go.Proofs.Ytigkhglgoabjaaa
/- THE CELL 'sum', in the pinned program and in every row, IS THE sha256 OF THE DUMP (.gsa) THAT YtigkhglgoabjaaaProg.lean LOADS. Nothing in Lean hashes anything: it is a label: what it is worth is what the hold of that sum in a sandbox is worth. -/
noncomputable def Try.pinned : Pinned := { name := "ytigkhglgoabjaaa", sum := "9db3e71a98d7eabb52575da65e79c593579a6d5b697616b33e2ebb80e26dd656", checked := Try.checked }
namespace Rows
def none {H : Type} : Left H := { results := [], args := [] }

/-- 'cachetierlaw17.MemoryShares': WHATEVER THE INPUT: true; the input reads as it did. -/
def memorySharesSpec : ChangeSpec := { name := "memoryShares", fn := fun _ => fun
  | [d1, d2, d3] => { results := [.lit (.bool true)], args := [d1, d2, d3] }
  | _ => none }
def memorySharesRow : OpenClaim := { program := "ytigkhglgoabjaaa", sum := "9db3e71a98d7eabb52575da65e79c593579a6d5b697616b33e2ebb80e26dd656", func := "cachetier/cachetierlaw17.MemoryShares", spec := "memoryShares", unfollowed := true, recurses := true, apart := false }
def MemorySharesSaid : Prop := memorySharesRow.holds Try.pinned (OpenSpec.ofChange memorySharesSpec)

/-- ITS FALSE NEIGHBOUR: 'it returns false'. Refute it at one input. -/
def memorySharesWrong : ChangeSpec := { name := "memoryShares", fn := fun _ => fun
  | [d1, d2, d3] => { results := [.lit (.bool false)], args := [d1, d2, d3] }
  | _ => none }
def MemorySharesWrongFalsely : Prop := memorySharesRow.holds Try.pinned (OpenSpec.ofChange memorySharesWrong)

/-- 'cachetierlaw17.MemoryLends': WHATEVER THE INPUT: true; the input reads as it did. -/
def memoryLendsSpec : ChangeSpec := { name := "memoryLends", fn := fun _ => fun
  | [d1, d2, d3] => { results := [.lit (.bool true)], args := [d1, d2, d3] }
  | _ => none }
def memoryLendsRow : OpenClaim := { program := "ytigkhglgoabjaaa", sum := "9db3e71a98d7eabb52575da65e79c593579a6d5b697616b33e2ebb80e26dd656", func := "cachetier/cachetierlaw17.MemoryLends", spec := "memoryLends", unfollowed := true, recurses := true, apart := false }
def MemoryLendsSaid : Prop := memoryLendsRow.holds Try.pinned (OpenSpec.ofChange memoryLendsSpec)

/-- ITS FALSE NEIGHBOUR: 'it returns false'. Refute it at one input. -/
def memoryLendsWrong : ChangeSpec := { name := "memoryLends", fn := fun _ => fun
  | [d1, d2, d3] => { results := [.lit (.bool false)], args := [d1, d2, d3] }
  | _ => none }
def MemoryLendsWrongFalsely : Prop := memoryLendsRow.holds Try.pinned (OpenSpec.ofChange memoryLendsWrong)

/-- 'cachetierlaw17.MemoryGuarantees': WHATEVER THE INPUT: true; the input reads as it did. -/
def memoryGuaranteesSpec : ChangeSpec := { name := "memoryGuarantees", fn := fun _ => fun
  | [d1, d2, d3] => { results := [.lit (.bool true)], args := [d1, d2, d3] }
  | _ => none }
def memoryGuaranteesRow : OpenClaim := { program := "ytigkhglgoabjaaa", sum := "9db3e71a98d7eabb52575da65e79c593579a6d5b697616b33e2ebb80e26dd656", func := "cachetier/cachetierlaw17.MemoryGuarantees", spec := "memoryGuarantees", unfollowed := true, recurses := true, apart := false }
def MemoryGuaranteesSaid : Prop := memoryGuaranteesRow.holds Try.pinned (OpenSpec.ofChange memoryGuaranteesSpec)

/-- ITS FALSE NEIGHBOUR: 'it returns false'. Refute it at one input. -/
def memoryGuaranteesWrong : ChangeSpec := { name := "memoryGuarantees", fn := fun _ => fun
  | [d1, d2, d3] => { results := [.lit (.bool false)], args := [d1, d2, d3] }
  | _ => none }
def MemoryGuaranteesWrongFalsely : Prop := memoryGuaranteesRow.holds Try.pinned (OpenSpec.ofChange memoryGuaranteesWrong)

/-- 'cachetierlaw17.MemoryFew': WHATEVER THE INPUT: true; the input reads as it did. -/
def memoryFewSpec : ChangeSpec := { name := "memoryFew", fn := fun _ => fun
  | [d1, d2, d3] => { results := [.lit (.bool true)], args := [d1, d2, d3] }
  | _ => none }
def memoryFewRow : OpenClaim := { program := "ytigkhglgoabjaaa", sum := "9db3e71a98d7eabb52575da65e79c593579a6d5b697616b33e2ebb80e26dd656", func := "cachetier/cachetierlaw17.MemoryFew", spec := "memoryFew", unfollowed := true, recurses := true, apart := false }
def MemoryFewSaid : Prop := memoryFewRow.holds Try.pinned (OpenSpec.ofChange memoryFewSpec)

/-- ITS FALSE NEIGHBOUR: 'it returns false'. Refute it at one input. -/
def memoryFewWrong : ChangeSpec := { name := "memoryFew", fn := fun _ => fun
  | [d1, d2, d3] => { results := [.lit (.bool false)], args := [d1, d2, d3] }
  | _ => none }
def MemoryFewWrongFalsely : Prop := memoryFewRow.holds Try.pinned (OpenSpec.ofChange memoryFewWrong)

/-- 'cachetierlaw17.MemoryOrder': WHATEVER THE INPUT: true; the input reads as it did. -/
def memoryOrderSpec : ChangeSpec := { name := "memoryOrder", fn := fun _ => fun
  | [d1, d2] => { results := [.lit (.bool true)], args := [d1, d2] }
  | _ => none }
def memoryOrderRow : OpenClaim := { program := "ytigkhglgoabjaaa", sum := "9db3e71a98d7eabb52575da65e79c593579a6d5b697616b33e2ebb80e26dd656", func := "cachetier/cachetierlaw17.MemoryOrder", spec := "memoryOrder", unfollowed := true, recurses := true, apart := false }
def MemoryOrderSaid : Prop := memoryOrderRow.holds Try.pinned (OpenSpec.ofChange memoryOrderSpec)

/-- ITS FALSE NEIGHBOUR: 'it returns false'. Refute it at one input. -/
def memoryOrderWrong : ChangeSpec := { name := "memoryOrder", fn := fun _ => fun
  | [d1, d2] => { results := [.lit (.bool false)], args := [d1, d2] }
  | _ => none }
def MemoryOrderWrongFalsely : Prop := memoryOrderRow.holds Try.pinned (OpenSpec.ofChange memoryOrderWrong)

/-- 'cachetierlaw17.MemoryRefuses': WHATEVER THE INPUT: true; the input reads as it did. -/
def memoryRefusesSpec : ChangeSpec := { name := "memoryRefuses", fn := fun _ => fun
  | [d1, d2, d3, d4] => { results := [.lit (.bool true)], args := [d1, d2, d3, d4] }
  | _ => none }
def memoryRefusesRow : OpenClaim := { program := "ytigkhglgoabjaaa", sum := "9db3e71a98d7eabb52575da65e79c593579a6d5b697616b33e2ebb80e26dd656", func := "cachetier/cachetierlaw17.MemoryRefuses", spec := "memoryRefuses", unfollowed := true, recurses := true, apart := false }
def MemoryRefusesSaid : Prop := memoryRefusesRow.holds Try.pinned (OpenSpec.ofChange memoryRefusesSpec)

/-- ITS FALSE NEIGHBOUR: 'it returns false'. Refute it at one input. -/
def memoryRefusesWrong : ChangeSpec := { name := "memoryRefuses", fn := fun _ => fun
  | [d1, d2, d3, d4] => { results := [.lit (.bool false)], args := [d1, d2, d3, d4] }
  | _ => none }
def MemoryRefusesWrongFalsely : Prop := memoryRefusesRow.holds Try.pinned (OpenSpec.ofChange memoryRefusesWrong)

/- THE SECOND FORM. 'bulk': how many values and letters a reading holds, each counted each time it is reached (what is shared counts as often as it is met; a slice's spare places count too). A statement '..UptoSaid' is the law's where the arguments, and the package variables that the reading takes, are together of bulk at most 1048576: NARROWER than '..Said'. Prove '..Said' where nothing that the law and all that it calls make is longer than what came in: it says more and counts as full. Else prove '..UptoSaid'. A law counts once. -/
mutual
def uptoBulk {H : Type} : DataW H → Nat
  | .lit (.string bytes) => bytes.length + 1
  | .lit _ => 1
  | .nil => 1
  | .ptr d => uptoBulk d + 1
  | .slice elems spare => uptoBulkAll elems + uptoBulkAll spare + 1
  | .agg parts => uptoBulkAll parts + 1
  | .iface _ d => uptoBulk d + 1
  | .map entries => uptoBulkEntries entries + 1
  | .held _ => 1
def uptoBulkAll {H : Type} : List (DataW H) → Nat
  | [] => 0
  | d :: r => uptoBulk d + uptoBulkAll r
def uptoBulkEntries {H : Type} : List (Lit × DataW H) → Nat
  | [] => 0
  | x :: r => uptoBulkEntry x + uptoBulkEntries r
def uptoBulkEntry {H : Type} : Lit × DataW H → Nat
  | (.string bytes, d) => bytes.length + uptoBulk d + 1
  | (_, d) => uptoBulk d + 1
 end
def uptoSmall : (H : Type) → List (DataW H) → Bool := fun _ ds => decide (uptoBulkAll ds ≤ 1048576)
def OpenSpec.upto (s : _root_.Go.ChangeSpec) : _root_.Go.OpenSpec := { _root_.Go.OpenSpec.ofChange s with cond := some uptoSmall }

/-- 'cachetierlaw17.MemoryShares', WHERE WHAT IT READS IS OF BULK AT MOST 1048576: true; the input reads as it did. -/
def memorySharesUptoRow : OpenClaim := { program := "ytigkhglgoabjaaa", sum := "9db3e71a98d7eabb52575da65e79c593579a6d5b697616b33e2ebb80e26dd656", func := "cachetier/cachetierlaw17.MemoryShares", spec := "memoryShares", unfollowed := true, recurses := true, apart := false, narrowed := true }
def MemorySharesUptoSaid : Prop := memorySharesUptoRow.holds Try.pinned (OpenSpec.upto memorySharesSpec)

/-- 'cachetierlaw17.MemoryLends', WHERE WHAT IT READS IS OF BULK AT MOST 1048576: true; the input reads as it did. -/
def memoryLendsUptoRow : OpenClaim := { program := "ytigkhglgoabjaaa", sum := "9db3e71a98d7eabb52575da65e79c593579a6d5b697616b33e2ebb80e26dd656", func := "cachetier/cachetierlaw17.MemoryLends", spec := "memoryLends", unfollowed := true, recurses := true, apart := false, narrowed := true }
def MemoryLendsUptoSaid : Prop := memoryLendsUptoRow.holds Try.pinned (OpenSpec.upto memoryLendsSpec)

/-- 'cachetierlaw17.MemoryGuarantees', WHERE WHAT IT READS IS OF BULK AT MOST 1048576: true; the input reads as it did. -/
def memoryGuaranteesUptoRow : OpenClaim := { program := "ytigkhglgoabjaaa", sum := "9db3e71a98d7eabb52575da65e79c593579a6d5b697616b33e2ebb80e26dd656", func := "cachetier/cachetierlaw17.MemoryGuarantees", spec := "memoryGuarantees", unfollowed := true, recurses := true, apart := false, narrowed := true }
def MemoryGuaranteesUptoSaid : Prop := memoryGuaranteesUptoRow.holds Try.pinned (OpenSpec.upto memoryGuaranteesSpec)

/-- 'cachetierlaw17.MemoryFew', WHERE WHAT IT READS IS OF BULK AT MOST 1048576: true; the input reads as it did. -/
def memoryFewUptoRow : OpenClaim := { program := "ytigkhglgoabjaaa", sum := "9db3e71a98d7eabb52575da65e79c593579a6d5b697616b33e2ebb80e26dd656", func := "cachetier/cachetierlaw17.MemoryFew", spec := "memoryFew", unfollowed := true, recurses := true, apart := false, narrowed := true }
def MemoryFewUptoSaid : Prop := memoryFewUptoRow.holds Try.pinned (OpenSpec.upto memoryFewSpec)

/-- 'cachetierlaw17.MemoryOrder', WHERE WHAT IT READS IS OF BULK AT MOST 1048576: true; the input reads as it did. -/
def memoryOrderUptoRow : OpenClaim := { program := "ytigkhglgoabjaaa", sum := "9db3e71a98d7eabb52575da65e79c593579a6d5b697616b33e2ebb80e26dd656", func := "cachetier/cachetierlaw17.MemoryOrder", spec := "memoryOrder", unfollowed := true, recurses := true, apart := false, narrowed := true }
def MemoryOrderUptoSaid : Prop := memoryOrderUptoRow.holds Try.pinned (OpenSpec.upto memoryOrderSpec)

/-- 'cachetierlaw17.MemoryRefuses', WHERE WHAT IT READS IS OF BULK AT MOST 1048576: true; the input reads as it did. -/
def memoryRefusesUptoRow : OpenClaim := { program := "ytigkhglgoabjaaa", sum := "9db3e71a98d7eabb52575da65e79c593579a6d5b697616b33e2ebb80e26dd656", func := "cachetier/cachetierlaw17.MemoryRefuses", spec := "memoryRefuses", unfollowed := true, recurses := true, apart := false, narrowed := true }
def MemoryRefusesUptoSaid : Prop := memoryRefusesUptoRow.holds Try.pinned (OpenSpec.upto memoryRefusesSpec)

end Rows
end Go.Proofs.Ytigkhglgoabjaaa
