/-
  within, Sum, Point, Slot of package ring and of the reference.
-/
import Derived.Test.YtplkmbfeeegaiaaDoorProg
import Derived.Test.YtplkmbfeeegaiaaDoorP1
import Derived.Test.YtplkmbfeeegaiaaDoorG7
import Derived.WalkKit
import Derived.WalkMore
import Derived.WalkSpells
import Derived.WalkLawsBesides
import Derived.LoopTactic
import Derived.StillTailTactics
import Derived.Maps.Keyed
import Derived.Deep.QuietTactic
import Derived.BigQuiet
import Derived.Below
import Derived.Shelf.Abstract
import Derived.Lib.Hide
import Derived.Laws.BitsAll
import Derived.Deep.DeepCutAuto
namespace Go.Proofs.YtplkmbfeeegaiaaDoor
open Go.RowKit Go.Shelf

abbrev ptr (s : Nat) : Value := .pointer (some ⟨s, 0, none⟩)
/-- The table of half bytes lies in its variable. -/
def Tab (w : World) : Prop := ∀ i, i < 16 → w.cell? ⟨0, i, none⟩ = some (.int .u32 (tabL.getD i 0 : Nat))
theorem Tab.keep {w w' : World} {A : Nat → Prop} (h : Tab w) (k : Keep A w w') (hA : ¬ A 0) : Tab w' := fun i hi => k.cell (h i hi) hA
theorem Tab.kept {w w' : World} (h : Tab w) (k : Keep (fun _ => False) w w') : Tab w' := h.keep k (fun h => h)

theorem Keep.drewN {A : Nat → Prop} {a w : World} (h : Keep A a w) (k : Nat) : Keep A a (w.drewN k) := ⟨h.os, h.tape, h.output, h.size, h.block⟩
theorem Keep.frozen {A : Nat → Prop} {w w' : World} (k : Keep A w w') {b : Nat} (hb : b < w.heap.size) (hA : ¬ A b) (o : Nat) : w'.frozen? ⟨b, o, none⟩ = w.frozen? ⟨b, o, none⟩ :=
  World.frozen?_of_block (w := w) (a := ⟨b, o, none⟩) (k.block _ hb hA)
theorem quiet_same {P : Program} {f : FuncId} {args : Array Value} {w : World} {n : Nat} {v : Value}
    (h : Calls P f args (w.drewN n) fun e w' => e = .returned v ∧ w.drewN n = w') : Calls P f args (w.drewN n) fun e w'' => e = .returned v ∧ ∃ m, w'' = w.drewN m :=
  h.mono fun _ _ ⟨he, hm⟩ => ⟨he, n, hm.symm⟩
set_option maxRecDepth 100000 in
set_option maxHeartbeats 400000 in
theorem within_any (n lo hi : Int) (w : World) : Calls Tryd.prog 53 #[.int .i64 n, .int .i64 lo, .int .i64 hi] w fun e w' => e = .returned (.bool (decide (lo ≤ n ∧ n ≤ hi))) ∧ w = w' := by
  by_cases h1 : lo ≤ n
  · by_cases h2 : n ≤ hi
    · go_enter Tryd.func53, Tryd.ntmps53
      go_wp2
      go_ret
      exact ⟨by simp [h1, h2], rfl⟩
    · go_enter Tryd.func53, Tryd.ntmps53
      go_wp2
      go_ret
      exact ⟨by simp [h2], rfl⟩
  · go_enter Tryd.func53, Tryd.ntmps53
    go_wp2
    go_ret
    exact ⟨by simp [show ¬ lo ≤ n by omega], rfl⟩

theorem and15 (r : Nat) (h : r < 4294967296) : bits .and .u32 (r : Int) 15 = ((r % 16 : Nat) : Int) := by
  have := u32_and_nat r 15 h (by decide)
  rw [show r &&& 15 = r % 16 from Nat.and_two_pow_sub_one_eq_mod r 4] at this
  exact this
theorem nib_bits (r : Nat) (h : r < 4294967296) : bits .xor .u32 ((r : Int) / 16) ((tabL.getD (r % 16) 0 : Nat) : Int) = (nib r : Nat) := by
  have h2 : tabL.getD (r % 16) 0 < 4294967296 := by
    have : ∀ n : Fin 16, tabL.getD n.val 0 < 4294967296 := by decide
    exact this ⟨r % 16, Nat.mod_lt _ (by omega)⟩
  have := u32_xor_nat (r / 16) _ (by omega) h2
  rw [show ((r / 16 : Nat) : Int) = (r : Int) / 16 by omega] at this
  exact this

set_option maxRecDepth 100000 in
set_option maxHeartbeats 1000000 in
theorem sum_any (s : ByteArray) (hs : s.size ≤ 1000000) (w : World) (hT : Tab w) : Calls Tryd.prog 58 #[.string s] w fun e w' => e = .returned (.int .i64 (sumN s.data.toList : Nat)) ∧ w = w' := by
  have HT := Lib.hid hT
  clear hT
  go_enter Tryd.func58, Tryd.ntmps58
  go_wp2_with fail
  go_loopg [3, 7] s.size (fun gh v3 v7 wr => ∃ i : Nat, v7 = .int .i64 i ∧ i + gh = s.size ∧ v3 = .int .u32 (regN (s.data.toList.take i) : Nat) ∧ w = wr)
  case atStart => exact ⟨0, rfl, by omega, by simp [regN], rfl⟩
  case round =>
    obtain ⟨i, rfl, hi, rfl, rfl⟩ := hrel
    by_cases hlt : i < s.size
    · obtain ⟨bt, hbt⟩ : ∃ bt : Nat, s[i].toNat = bt := ⟨_, rfl⟩
      have hb : bt < 256 := by rw [← hbt]; exact s[i].toNat_lt
      have hreg := regN_lt (s.data.toList.take i)
      have hsn : Hid (regN (s.data.toList.take (i + 1)) = byteN (regN (s.data.toList.take i)) bt) := Lib.hid (by
        rw [List.take_add_one, List.getElem?_eq_getElem (by simpa using hlt), ← hbt]
        exact regN_snoc _ _)
      obtain ⟨r0, hr0⟩ : ∃ r0, regN (s.data.toList.take i) = r0 := ⟨_, rfl⟩
      rw [hr0] at hreg hsn
      have e0 : (bt : Int) % 4294967296 = (bt : Int) := by omega
      obtain ⟨r1, hr1⟩ : ∃ r1, r0 ^^^ bt = r1 := ⟨_, rfl⟩
      have h1 : r1 < 4294967296 := by rw [← hr1]; exact Nat.xor_lt_two_pow (n := 32) hreg (by omega)
      have e1 : bits .xor .u32 (r0 : Int) (bt : Int) = (r1 : Int) := by rw [u32_xor_nat _ _ hreg (by omega), hr1]
      obtain ⟨r2, hr2⟩ : ∃ r2, nib r1 = r2 := ⟨_, rfl⟩
      obtain ⟨r3, hr3⟩ : ∃ r3, nib r2 = r3 := ⟨_, rfl⟩
      have h2 : r2 < 4294967296 := by rw [← hr2]; exact nib_lt h1
      have HR : Hid (regN (s.data.toList.take (i + 1)) = r3) := Lib.hid (by rw [hsn.out]; unfold byteN; rw [hr1, hr2, hr3])
      have ea1 : bits .and .u32 (r1 : Int) 15 = ((r1 % 16 : Nat) : Int) := and15 r1 h1
      have ea2 : bits .and .u32 (r2 : Int) 15 = ((r2 % 16 : Nat) : Int) := and15 r2 h2
      have ex1 : bits .xor .u32 ((r1 : Int) / 16) ((tabL.getD (r1 % 16) 0 : Nat) : Int) = (r2 : Int) := by rw [nib_bits r1 h1, hr2]
      have ex2 : bits .xor .u32 ((r2 : Int) / 16) ((tabL.getD (r2 % 16) 0 : Nat) : Int) = (r3 : Int) := by rw [nib_bits r2 h2, hr3]
      have c1 := HT.out (r1 % 16) (Nat.mod_lt _ (by decide))
      have c2 := HT.out (r2 % 16) (Nat.mod_lt _ (by decide))
      have m1 : r1 % 16 < 16 := Nat.mod_lt _ (by decide)
      have m2 : r2 % 16 < 16 := Nat.mod_lt _ (by decide)
      generalize r1 % 16 = q1 at *
      generalize r2 % 16 = q2 at *
      generalize tabL.getD q1 0 = t1 at *
      generalize tabL.getD q2 0 = t2 at *
      clear hr1 hr2 hr3 hsn
      rw [hr0]
      clear hr0
      go_wp2_with fail
      go_roundg (gk - 1)
      case rel => exact ⟨i + 1, by go_num, by omega, by rw [HR.out], rfl⟩
      case measure => omega
    · obtain rfl : i = s.size := by omega
      have e : s.data.toList.take s.size = s.data.toList := List.take_of_length_le (by show s.data.toList.length ≤ s.data.size; rw [Array.length_toList]; exact Nat.le_refl _)
      rw [e]
      have hreg := regN_lt s.data.toList
      have HS : Hid (4294967295 ^^^ regN s.data.toList = sumN s.data.toList) := Lib.hid rfl
      have hl := sumN_lt s.data.toList
      obtain ⟨z, hz⟩ : ∃ z, sumN s.data.toList = z := ⟨_, rfl⟩
      rw [hz] at HS hl
      have HZ := Lib.hid hz
      clear hz
      generalize regN s.data.toList = r at *
      have e1 : bits .xor .u32 IntKind.u32.max (r : Int) = (z : Int) := by
        show bits .xor .u32 4294967295 (r : Int) = (z : Int)
        have := u32_xor_nat 4294967295 r (by decide) hreg
        rw [HS.out] at this
        exact this
      have ew : wrap64 (z : Int) = (z : Int) := by unfold wrap64; omega
      go_wp2_with fail
      go_ret
      exact ⟨by rw [HZ.out]; rfl, rfl⟩

/-- The point of a string. -/
def pt (s : ByteArray) : Nat := sumN s.data.toList
theorem pt_lt (s : ByteArray) : pt s < 4294967296 := sumN_lt _
set_option maxRecDepth 100000 in
theorem point_any (s : ByteArray) (hs : s.size ≤ 1000000) (w : World) (hT : Tab w) : Calls Tryd.prog 32 #[.string s] w fun e w' => e = .returned (.int .i64 (pt s : Nat)) ∧ w = w' := by
  have HS := Lib.hid (sum_any s hs w hT)
  clear hT
  go_enter Tryd.func32, Tryd.ntmps32
  go_wp2_with fail
  with_reducible refine HS.out.mono ?_
  rintro e w' ⟨rfl, rfl⟩
  go_wp2_with fail
  go_ret
  exact ⟨rfl, rfl⟩
def slotOf (s : ByteArray) : Nat := pt s % 64
theorem slotOf_lt (s : ByteArray) : slotOf s < 64 := Nat.mod_lt _ (by decide)
set_option maxRecDepth 100000 in
theorem slot_any (s : ByteArray) (hs : s.size ≤ 1000000) (w : World) (hT : Tab w) : Calls Tryd.prog 34 #[.string s] w fun e w' => e = .returned (.int .i64 (slotOf s : Nat)) ∧ w = w' := by
  have HS := Lib.hid (point_any s hs w hT)
  have hl := pt_lt s
  have HZ : Hid ((slotOf s : Int) = (pt s : Int) % 64) := Lib.hid (by unfold slotOf; omega)
  generalize slotOf s = z at *
  generalize pt s = p at *
  clear hT
  go_enter Tryd.func34, Tryd.ntmps34
  go_wp2_with fail
  with_reducible refine HS.out.mono ?_
  rintro e w' ⟨rfl, rfl⟩
  go_wp2_with fail
  go_ret
  exact ⟨by rw [HZ.out]; rfl, rfl⟩
end Go.Proofs.YtplkmbfeeegaiaaDoor
