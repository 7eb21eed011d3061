/-
  errors.Is of the error itself; the deferred closure of parse.
-/
import Derived.Test.YtmndjicaofciiaaGreatDoorW9
import Derived.LaidEql
import Derived.Stop.Asserts
import Derived.RowKitTokens
import Derived.Defers
import Derived.Recover
namespace Go.Proofs.YtmndjicaofciiaaGreatDoor
open Go.RowKit Go.Shelf Go.Extern Go.Stop

abbrev eV (p : Addr) : Value := .iface 193 (.pointer (some p))
theorem isTypeOf (v : Value) (w : World) : (Extern.ReflectliteType.typeOf #[.iface 193 v]).run Tryz.prog w = .ok (.iface 139 (.agg #[.pointer (some ⟨9, 193, none⟩)])) w := by kernel_rfl
def cmpX : Array Value → Sem Value := Extern.ReflectliteType.method fun t => do Extern.Rtype.noPackHeld "Comparable" t; pure (.bool (← typeInfo t).comparable)
theorem isComparable (w : World) : (cmpX #[.agg #[.pointer (some ⟨9, 193, none⟩)]]).run Tryz.prog w = .ok (.bool true) w := by kernel_rfl
theorem isComp : (Tryz.prog.info? 193).map (·.comparable) = some true := by kernel_rfl
theorem isSize : (Tryz.prog.info? 195).map (·.size) = some 1 := by kernel_rfl
theorem isMethodComparable (v : Value) (w : World) : (Go.method 325 139 v "Comparable").run Tryz.prog w = .ok (136, v) w := by kernel_rfl
set_option maxRecDepth 100000 in
set_option maxHeartbeats 2000000 in
theorem is_same (a : Addr) (w : World) : Calls Tryz.prog 41 #[eV a, eV a] w fun e w' => e = .returned (.bool true) ∧ w' = w := by
  obtain ⟨i, hi, hcmp⟩ := Option.map_eq_some_iff.1 isComp
  obtain ⟨j, hj, hjs⟩ := Option.map_eq_some_iff.1 isSize
  have h8 := @run_callFunc_extern Tryz.prog 53 _ Extern.ReflectliteType.typeOf Tryz.func53 (by kernel_rfl) (by kernel_rfl) (by kernel_rfl) (by kernel_rfl)
  have h32 := @run_callFunc_extern Tryz.prog 136 _ cmpX Tryz.func136 (by kernel_rfl) (by kernel_rfl) (by kernel_rfl) (by kernel_rfl)
  have tT := isTypeOf
  have cT := isComparable
  have mR := isMethodComparable
  have heq := run_eql_iface_ptr_same (P := Tryz.prog) w a Tryz.underlying77 Tryz.underlying193 hi hcmp hj
  go_enter Tryz.func41, Tryz.ntmps41
  go_wp2
  refine wp_loop_rounds 1 ?_
  rw [rounds_succ]
  go_wp2
  go_ret
  exact ⟨rfl, rfl⟩
end Go.Proofs.YtmndjicaofciiaaGreatDoor
