/-
  The reference's SameInts, Sum, Point, Digits.
-/
import Derived.Test.YtplkmbfeeegaiaaDoorA4
import Derived.Test.YtplkmbfeeegaiaaDoorR1
namespace Go.Proofs.YtplkmbfeeegaiaaDoor
open Go.RowKit Go.Shelf

set_option maxRecDepth 100000 in
set_option maxHeartbeats 2000000 in
theorem sameInts_any (va vb : Value) (xs ys : List Int) (w : World) (ha : Its w va xs) (hb : Its w vb ys) : Calls Tryd.prog 23 #[va, vb] w fun e w' => e = .returned (.bool (decide (xs = ys))) ∧ Keep (fun _ => False) w w' := by
  obtain ⟨hn1, -, a, c, b, off, rfl, hc, ha, hcell⟩ := ha
  obtain ⟨hn2, -, a', c', b', off', rfl, hc', ha', hcell'⟩ := hb
  have HCA := Lib.hid hcell
  have HCB := Lib.hid hcell'
  have HAA := Lib.hid ha
  have HAB := Lib.hid ha'
  clear hcell hcell' ha ha'
  by_cases hl : xs.length = ys.length
  · obtain ⟨n, hn⟩ : ∃ n, xs.length = n := ⟨_, rfl⟩
    have hny : ys.length = n := by omega
    have HN := Lib.hid hn
    have HNY := Lib.hid hny
    rw [hn] at hn1 hc ⊢
    rw [hny] at hn2 hc' ⊢
    have hd : ((n : Int) != (n : Int)) = false := by simp
    clear hl hn hny
    go_enter Tryd.func23, Tryd.ntmps23
    go_wp2_with fail
    go_loopg [5] (n) (fun gh i wr => ∃ (k m : Nat), gh + k = n ∧ i = .int .i64 k ∧ wr = w.drewN m ∧ Hid (xs.take k = ys.take k))
    case atStart => exact ⟨0, 0, Nat.add_zero _, rfl, rfl, rfl⟩
    case round =>
      obtain ⟨k, m, hk, rfl, rfl, HE⟩ := hrel
      by_cases hlt : k < n
      · have hkx : k < xs.length := by rw [HN.out]; exact hlt
        have hky : k < ys.length := by rw [HNY.out]; exact hlt
        obtain rfl := HAA.out (by omega)
        obtain rfl := HAB.out (by omega)
        have t1 : xs.take (k + 1) = xs.take k ++ [xs[k]] := by rw [List.take_add_one, List.getElem?_eq_getElem hkx]; rfl
        have t2 : ys.take (k + 1) = ys.take k ++ [ys[k]] := by rw [List.take_add_one, List.getElem?_eq_getElem hky]; rfl
        have hb0 : (0 : Int) ≤ (k : Int) := by omega
        have hb1 : (k : Int) < (n : Int) := by omega
        have ca0 := HCA.out k _ (List.getElem?_eq_getElem hkx)
        have cb0 := HCB.out k _ (List.getElem?_eq_getElem hky)
        -- the elements
        by_cases hst : xs[k] = ys[k]
        · have HT : Hid (xs.take (k + 1) = ys.take (k + 1)) := by
            show _ = _
            rw [t1, t2, HE.out, hst]
          rw [← hst] at cb0
          clear t1 t2 hst
          generalize xs[k] = x at *
          clear hkx hky
          have hb : (x != x) = false := by simp
          go_wp2_with fail
          go_quiet (fail)
          go_wp2_with fail
          go_roundg (gk - 1)
          case rel => exact ⟨k + 1, _, by omega, by go_num, by first | rfl | exact World.drewN_drewN _ _ _, HT⟩
          case measure => omega
        · have HT : Hid (decide (xs = ys) = false) := Lib.hid (by
            rw [decide_eq_false_iff_not]
            intro e
            subst e
            exact hst rfl)
          generalize xs[k] = x at *
          generalize ys[k] = y at *
          have hb : (x != y) = true := by simpa using hst
          clear hkx hky t1 t2 hst
          go_wp2_with fail
          go_quiet (fail)
          go_wp2_with fail
          go_ret
          exact ⟨by rw [HT.out]; rfl, ((Keep.refl _ w).drewN _).drewN _⟩
      · have HT : Hid (decide (xs = ys) = true) := by
          show _ = _
          rw [decide_eq_true_eq]
          have h1 := HE.out
          rw [List.take_of_length_le (by have := HN.out; omega), List.take_of_length_le (by have := HNY.out; omega)] at h1
          exact h1
        go_wp2_with fail
        go_ret
        exact ⟨by rw [HT.out]; rfl, (Keep.refl _ w).drewN _⟩
  · have hd : ((xs.length : Int) != (ys.length : Int)) = true := by simp; omega
    have HT : Hid (decide (xs = ys) = false) := by
      show _ = _
      rw [decide_eq_false_iff_not]
      intro e
      subst e
      exact hl rfl
    go_enter Tryd.func23, Tryd.ntmps23
    go_wp2_with fail
    go_ret
    exact ⟨by rw [HT.out]; rfl, Keep.refl _ w⟩

/-- k bits. -/
def bitsN (r : Nat) : Nat → Nat
  | 0 => r
  | k + 1 => bit1 (bitsN r k)
theorem bit1_lt {r : Nat} (h : r < 4294967296) : bit1 r < 4294967296 := by
  unfold bit1
  refine Nat.xor_lt_two_pow (n := 32) (by omega) ?_
  unfold poly
  split <;> omega
theorem bitsN_lt {r : Nat} (h : r < 4294967296) : ∀ k, bitsN r k < 4294967296
  | 0 => h
  | k + 1 => bit1_lt (bitsN_lt h k)
theorem bitsN_8 (r b : Nat) : bitsN (r ^^^ b) 8 = byteN r b := by
  unfold byteN
  rw [← nib_eq, ← nib_eq]
  rfl
set_option maxRecDepth 100000 in
set_option maxHeartbeats 2000000 in
theorem refSum_any (s : ByteArray) (hs : s.size ≤ 1000000) (w : World) : Calls Tryd.prog 59 #[.string s] w fun e w' => e = .returned (.int .i64 (sumN s.data.toList : Nat)) ∧ w = w' := by
  go_enter Tryd.func59, Tryd.ntmps59
  go_wp2_with fail
  go_loopg [3, 4] s.size (fun gh v3 v4 wr => ∃ i : Nat, v4 = .int .i64 i ∧ i + gh = s.size ∧ v3 = .int .u32 (regN (s.data.toList.take i) : Nat) ∧ w = wr)
  case atStart => exact ⟨0, rfl, by omega, by simp [regN], rfl⟩
  case round =>
    obtain ⟨i, rfl, hi, rfl, rfl⟩ := hrel
    by_cases hlt : i < s.size
    · obtain ⟨bt, hbt⟩ : ∃ bt : Nat, s[i].toNat = bt := ⟨_, rfl⟩
      have hb : bt < 256 := by rw [← hbt]; exact s[i].toNat_lt
      have hreg := regN_lt (s.data.toList.take i)
      have hsn : Hid (regN (s.data.toList.take (i + 1)) = byteN (regN (s.data.toList.take i)) bt) := Lib.hid (by
        rw [List.take_add_one, List.getElem?_eq_getElem (by simpa using hlt), ← hbt]
        exact regN_snoc _ _)
      obtain ⟨r0, hr0⟩ : ∃ r0, regN (s.data.toList.take i) = r0 := ⟨_, rfl⟩
      rw [hr0] at hreg hsn
      have e0 : (bt : Int) % 4294967296 = (bt : Int) := by omega
      obtain ⟨r1, hr1⟩ : ∃ r1, r0 ^^^ bt = r1 := ⟨_, rfl⟩
      have h1 : r1 < 4294967296 := by rw [← hr1]; exact Nat.xor_lt_two_pow (n := 32) hreg (by omega)
      have e1 : bits .xor .u32 (r0 : Int) (bt : Int) = (r1 : Int) := by rw [u32_xor_nat _ _ hreg (by omega), hr1]
      have HR : Hid (regN (s.data.toList.take (i + 1)) = bitsN r1 8) := Lib.hid (by rw [hsn.out, ← hr1, bitsN_8])
      clear hr1 hsn
      rw [hr0]
      clear hr0
      have HLT := Lib.hid hlt
      go_wp2_with fail
      clear e0 e1 hbt hb
      go_loopg [3, 5] 8 (fun gh2 v3 v5 wr => ∃ k : Nat, v5 = .int .i64 k ∧ k + gh2 = 8 ∧ v3 = .int .u32 (bitsN r1 k : Nat) ∧ w = wr)
      case atStart => exact ⟨0, rfl, by omega, rfl, rfl⟩
      case round =>
        obtain ⟨k, rfl, hk, rfl, rfl⟩ := hrel
        have hbl := bitsN_lt h1 k
        by_cases hlt2 : k < 8
        · have HB : Hid (bitsN r1 (k + 1) = bit1 (bitsN r1 k)) := Lib.hid rfl
          obtain ⟨q, hq⟩ : ∃ q, bitsN r1 k = q := ⟨_, rfl⟩
          rw [hq] at hbl HB ⊢
          clear hq
          have hkz : (k : Int) < 8 := by omega
          have hp : q / 2 < 4294967296 := by omega
          by_cases hodd : q % 2 = 1
          · have em : (q : Int) % 2 = 1 := by omega
            have ex : bits .xor .u32 ((q : Int) / 2) 2197175160 = ((bit1 q : Nat) : Int) := by
              have := u32_xor_nat (q / 2) 2197175160 hp (by decide)
              unfold bit1 poly
              rw [if_pos hodd]
              rw [show ((q / 2 : Nat) : Int) = (q : Int) / 2 by omega] at this
              exact this
            rw [← HB.out] at ex
            go_wp2_with fail
            go_roundg (gk - 1)
            case rel => exact ⟨k + 1, by go_num, by omega, rfl, rfl⟩
            case measure => omega
          · have em : (q : Int) % 2 = 0 := by omega
            have ex : (q : Int) / 2 = ((bit1 q : Nat) : Int) := by
              unfold bit1
              rw [if_neg hodd, Nat.xor_zero]
              omega
            rw [← HB.out] at ex
            have HEX := Lib.hid ex
            clear ex
            go_wp2_with fail
            go_roundg (gk - 1)
            case rel => exact ⟨k + 1, by go_num, by omega, by rw [← HEX.out], rfl⟩
            case measure => omega
        · obtain rfl : k = 8 := by omega
          go_wp2_with fail
          go_roundg (s.size - (i + 1))
          case rel => exact ⟨i + 1, by go_num, by have := HLT.out; omega, by rw [HR.out], rfl⟩
          case measure => omega
    · obtain rfl : i = s.size := by omega
      have e : s.data.toList.take s.size = s.data.toList := List.take_of_length_le (by show s.data.toList.length ≤ s.data.size; rw [Array.length_toList]; exact Nat.le_refl _)
      rw [e]
      have hreg := regN_lt s.data.toList
      have HS : Hid (4294967295 ^^^ regN s.data.toList = sumN s.data.toList) := Lib.hid rfl
      have hl := sumN_lt s.data.toList
      obtain ⟨z, hz⟩ : ∃ z, sumN s.data.toList = z := ⟨_, rfl⟩
      rw [hz] at HS hl
      have HZ := Lib.hid hz
      clear hz
      generalize regN s.data.toList = r at *
      have e1 : bits .xor .u32 IntKind.u32.max (r : Int) = (z : Int) := by
        show bits .xor .u32 4294967295 (r : Int) = (z : Int)
        have := u32_xor_nat 4294967295 r (by decide) hreg
        rw [HS.out] at this
        exact this
      have ew : wrap64 (z : Int) = (z : Int) := by unfold wrap64; omega
      go_wp2_with fail
      go_ret
      exact ⟨by rw [HZ.out]; rfl, rfl⟩
set_option maxRecDepth 100000 in
theorem refPoint_any (s : ByteArray) (hs : s.size ≤ 1000000) (w : World) : Calls Tryd.prog 33 #[.string s] w fun e w' => e = .returned (.int .i64 (pt s : Nat)) ∧ w = w' := by
  have HS := Lib.hid (refSum_any s hs w)
  go_enter Tryd.func33, Tryd.ntmps33
  go_wp2_with fail
  with_reducible refine HS.out.mono ?_
  rintro e w' ⟨rfl, rfl⟩
  go_wp2_with fail
  go_ret
  exact ⟨rfl, rfl⟩
end Go.Proofs.YtplkmbfeeegaiaaDoor
