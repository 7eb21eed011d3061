/-
  Several texts in one, each under its own heading below (merged by a program of ours): the contracts of the functions that the law reaches, part 3 of 6.
-/
import Derived.Test.YtplkmbfeeegaiaaGreatDoorZ1
import Derived.Test.YtplkmbfeeegaiaaGreatDoorZ2
import Derived.WalkKit
import Derived.WideShapes
import Derived.Test.YtplkmbfeeegaiaaGreatDoorProg
import Derived.WalkMore
import Derived.WalkSpells
import Derived.WalkLawsBesides
import Derived.LoopTactic
import Derived.Lib.Hide
import Derived.StillTailTactics
import Derived.Maps.Keyed
import Derived.Deep.QuietTactic
import Derived.BigQuiet
import Derived.Sort.Walk0

/-
  The reference's SameInts, Sum, Point, Digits.
-/
namespace Go.Proofs.YtplkmbfeeegaiaaGreatDoor
open Go.RowKit Go.Shelf

set_option maxRecDepth 100000 in
set_option maxHeartbeats 2000000 in
theorem sameInts_any (va vb : Value) (xs ys : List Int) (w : World) (ha : Its w va xs) (hb : Its w vb ys) : Calls Tryz.prog 26 #[va, vb] w fun e w' => e = .returned (.bool (decide (xs = ys))) ∧ Keep (fun _ => False) w w' := by
  obtain ⟨hn1, -, a, c, b, off, rfl, hc, ha, hcell⟩ := ha
  obtain ⟨hn2, -, a', c', b', off', rfl, hc', ha', hcell'⟩ := hb
  have HCA := Lib.hid hcell
  have HCB := Lib.hid hcell'
  have HAA := Lib.hid ha
  have HAB := Lib.hid ha'
  clear hcell hcell' ha ha'
  by_cases hl : xs.length = ys.length
  · obtain ⟨n, hn⟩ : ∃ n, xs.length = n := ⟨_, rfl⟩
    have hny : ys.length = n := by omega
    have HN := Lib.hid hn
    have HNY := Lib.hid hny
    rw [hn] at hn1 hc ⊢
    rw [hny] at hn2 hc' ⊢
    have hd : ((n : Int) != (n : Int)) = false := by simp
    clear hl hn hny
    go_enter Tryz.func26, Tryz.ntmps26
    go_wp2_with fail
    go_loopg [5] (n) (fun gh i wr => ∃ (k m : Nat), gh + k = n ∧ i = .int .i64 k ∧ wr = w.drewN m ∧ Hid (xs.take k = ys.take k))
    case atStart => exact ⟨0, 0, Nat.add_zero _, rfl, rfl, rfl⟩
    case round =>
      obtain ⟨k, m, hk, rfl, rfl, HE⟩ := hrel
      by_cases hlt : k < n
      · have hkx : k < xs.length := by rw [HN.out]; exact hlt
        have hky : k < ys.length := by rw [HNY.out]; exact hlt
        obtain rfl := HAA.out (by omega)
        obtain rfl := HAB.out (by omega)
        have t1 : xs.take (k + 1) = xs.take k ++ [xs[k]] := by rw [List.take_add_one, List.getElem?_eq_getElem hkx]; rfl
        have t2 : ys.take (k + 1) = ys.take k ++ [ys[k]] := by rw [List.take_add_one, List.getElem?_eq_getElem hky]; rfl
        have hb0 : (0 : Int) ≤ (k : Int) := by omega
        have hb1 : (k : Int) < (n : Int) := by omega
        have ca0 := HCA.out k _ (List.getElem?_eq_getElem hkx)
        have cb0 := HCB.out k _ (List.getElem?_eq_getElem hky)
        -- the elements
        by_cases hst : xs[k] = ys[k]
        · have HT : Hid (xs.take (k + 1) = ys.take (k + 1)) := by
            show _ = _
            rw [t1, t2, HE.out, hst]
          rw [← hst] at cb0
          clear t1 t2 hst
          generalize xs[k] = x at *
          clear hkx hky
          have hb : (x != x) = false := by simp
          go_wp2_with fail
          go_quiet (fail)
          go_wp2_with fail
          go_roundg (gk - 1)
          case rel => exact ⟨k + 1, _, by omega, by go_num, by first | rfl | exact World.drewN_drewN _ _ _, HT⟩
          case measure => omega
        · have HT : Hid (decide (xs = ys) = false) := Lib.hid (by
            rw [decide_eq_false_iff_not]
            intro e
            subst e
            exact hst rfl)
          generalize xs[k] = x at *
          generalize ys[k] = y at *
          have hb : (x != y) = true := by simpa using hst
          clear hkx hky t1 t2 hst
          go_wp2_with fail
          go_quiet (fail)
          go_wp2_with fail
          go_ret
          exact ⟨by rw [HT.out]; rfl, ((Keep.refl _ w).drewN _).drewN _⟩
      · have HT : Hid (decide (xs = ys) = true) := by
          show _ = _
          rw [decide_eq_true_eq]
          have h1 := HE.out
          rw [List.take_of_length_le (by have := HN.out; omega), List.take_of_length_le (by have := HNY.out; omega)] at h1
          exact h1
        go_wp2_with fail
        go_ret
        exact ⟨by rw [HT.out]; rfl, (Keep.refl _ w).drewN _⟩
  · have hd : ((xs.length : Int) != (ys.length : Int)) = true := by simp; omega
    have HT : Hid (decide (xs = ys) = false) := by
      show _ = _
      rw [decide_eq_false_iff_not]
      intro e
      subst e
      exact hl rfl
    go_enter Tryz.func26, Tryz.ntmps26
    go_wp2_with fail
    go_ret
    exact ⟨by rw [HT.out]; rfl, Keep.refl _ w⟩

/-- k bits. -/
def bitsN (r : Nat) : Nat → Nat
  | 0 => r
  | k + 1 => bit1 (bitsN r k)
theorem bit1_lt {r : Nat} (h : r < 4294967296) : bit1 r < 4294967296 := by
  unfold bit1
  refine Nat.xor_lt_two_pow (n := 32) (by omega) ?_
  unfold poly
  split <;> omega
theorem bitsN_lt {r : Nat} (h : r < 4294967296) : ∀ k, bitsN r k < 4294967296
  | 0 => h
  | k + 1 => bit1_lt (bitsN_lt h k)
theorem bitsN_8 (r b : Nat) : bitsN (r ^^^ b) 8 = byteN r b := by
  unfold byteN
  rw [← nib_eq, ← nib_eq]
  rfl
set_option maxRecDepth 100000 in
set_option maxHeartbeats 2000000 in
theorem refSum_any (s : ByteArray) (hs : s.size ≤ 1000000) (w : World) : Calls Tryz.prog 113 #[.string s] w fun e w' => e = .returned (.int .i64 (sumN s.data.toList : Nat)) ∧ w = w' := by
  go_enter Tryz.func113, Tryz.ntmps113
  go_wp2_with fail
  go_loopg [3, 4] s.size (fun gh v3 v4 wr => ∃ i : Nat, v4 = .int .i64 i ∧ i + gh = s.size ∧ v3 = .int .u32 (regN (s.data.toList.take i) : Nat) ∧ w = wr)
  case atStart => exact ⟨0, rfl, by omega, by simp [regN], rfl⟩
  case round =>
    obtain ⟨i, rfl, hi, rfl, rfl⟩ := hrel
    by_cases hlt : i < s.size
    · obtain ⟨bt, hbt⟩ : ∃ bt : Nat, s[i].toNat = bt := ⟨_, rfl⟩
      have hb : bt < 256 := by rw [← hbt]; exact s[i].toNat_lt
      have hreg := regN_lt (s.data.toList.take i)
      have hsn : Hid (regN (s.data.toList.take (i + 1)) = byteN (regN (s.data.toList.take i)) bt) := Lib.hid (by
        rw [List.take_add_one, List.getElem?_eq_getElem (by simpa using hlt), ← hbt]
        exact regN_snoc _ _)
      obtain ⟨r0, hr0⟩ : ∃ r0, regN (s.data.toList.take i) = r0 := ⟨_, rfl⟩
      rw [hr0] at hreg hsn
      have e0 : (bt : Int) % 4294967296 = (bt : Int) := by omega
      obtain ⟨r1, hr1⟩ : ∃ r1, r0 ^^^ bt = r1 := ⟨_, rfl⟩
      have h1 : r1 < 4294967296 := by rw [← hr1]; exact Nat.xor_lt_two_pow (n := 32) hreg (by omega)
      have e1 : bits .xor .u32 (r0 : Int) (bt : Int) = (r1 : Int) := by rw [u32_xor_nat _ _ hreg (by omega), hr1]
      have HR : Hid (regN (s.data.toList.take (i + 1)) = bitsN r1 8) := Lib.hid (by rw [hsn.out, ← hr1, bitsN_8])
      clear hr1 hsn
      rw [hr0]
      clear hr0
      have HLT := Lib.hid hlt
      go_wp2_with fail
      clear e0 e1 hbt hb
      go_loopg [3, 5] 8 (fun gh2 v3 v5 wr => ∃ k : Nat, v5 = .int .i64 k ∧ k + gh2 = 8 ∧ v3 = .int .u32 (bitsN r1 k : Nat) ∧ w = wr)
      case atStart => exact ⟨0, rfl, by omega, rfl, rfl⟩
      case round =>
        obtain ⟨k, rfl, hk, rfl, rfl⟩ := hrel
        have hbl := bitsN_lt h1 k
        by_cases hlt2 : k < 8
        · have HB : Hid (bitsN r1 (k + 1) = bit1 (bitsN r1 k)) := Lib.hid rfl
          obtain ⟨q, hq⟩ : ∃ q, bitsN r1 k = q := ⟨_, rfl⟩
          rw [hq] at hbl HB ⊢
          clear hq
          have hkz : (k : Int) < 8 := by omega
          have hp : q / 2 < 4294967296 := by omega
          by_cases hodd : q % 2 = 1
          · have em : (q : Int) % 2 = 1 := by omega
            have ex : bits .xor .u32 ((q : Int) / 2) 2197175160 = ((bit1 q : Nat) : Int) := by
              have := u32_xor_nat (q / 2) 2197175160 hp (by decide)
              unfold bit1 poly
              rw [if_pos hodd]
              rw [show ((q / 2 : Nat) : Int) = (q : Int) / 2 by omega] at this
              exact this
            rw [← HB.out] at ex
            go_wp2_with fail
            go_roundg (gk - 1)
            case rel => exact ⟨k + 1, by go_num, by omega, rfl, rfl⟩
            case measure => omega
          · have em : (q : Int) % 2 = 0 := by omega
            have ex : (q : Int) / 2 = ((bit1 q : Nat) : Int) := by
              unfold bit1
              rw [if_neg hodd, Nat.xor_zero]
              omega
            rw [← HB.out] at ex
            have HEX := Lib.hid ex
            clear ex
            go_wp2_with fail
            go_roundg (gk - 1)
            case rel => exact ⟨k + 1, by go_num, by omega, by rw [← HEX.out], rfl⟩
            case measure => omega
        · obtain rfl : k = 8 := by omega
          go_wp2_with fail
          go_roundg (s.size - (i + 1))
          case rel => exact ⟨i + 1, by go_num, by have := HLT.out; omega, by rw [HR.out], rfl⟩
          case measure => omega
    · obtain rfl : i = s.size := by omega
      have e : s.data.toList.take s.size = s.data.toList := List.take_of_length_le (by show s.data.toList.length ≤ s.data.size; rw [Array.length_toList]; exact Nat.le_refl _)
      rw [e]
      have hreg := regN_lt s.data.toList
      have HS : Hid (4294967295 ^^^ regN s.data.toList = sumN s.data.toList) := Lib.hid rfl
      have hl := sumN_lt s.data.toList
      obtain ⟨z, hz⟩ : ∃ z, sumN s.data.toList = z := ⟨_, rfl⟩
      rw [hz] at HS hl
      have HZ := Lib.hid hz
      clear hz
      generalize regN s.data.toList = r at *
      have e1 : bits .xor .u32 IntKind.u32.max (r : Int) = (z : Int) := by
        show bits .xor .u32 4294967295 (r : Int) = (z : Int)
        have := u32_xor_nat 4294967295 r (by decide) hreg
        rw [HS.out] at this
        exact this
      have ew : wrap64 (z : Int) = (z : Int) := by unfold wrap64; omega
      go_wp2_with fail
      go_ret
      exact ⟨by rw [HZ.out]; rfl, rfl⟩
set_option maxRecDepth 100000 in
theorem refPoint_any (s : ByteArray) (hs : s.size ≤ 1000000) (w : World) : Calls Tryz.prog 78 #[.string s] w fun e w' => e = .returned (.int .i64 (pt s : Nat)) ∧ w = w' := by
  have HS := Lib.hid (refSum_any s hs w)
  go_enter Tryz.func78, Tryz.ntmps78
  go_wp2_with fail
  with_reducible refine HS.out.mono ?_
  rintro e w' ⟨rfl, rfl⟩
  go_wp2_with fail
  go_ret
  exact ⟨rfl, rfl⟩
end Go.Proofs.YtplkmbfeeegaiaaGreatDoor

/-
  The reference's Digits.
-/
namespace Go.Proofs.YtplkmbfeeegaiaaGreatDoor
open Go.RowKit Go.Shelf

/-- While the digits of N are written: n is left, s is there. -/
def digSt (N n : Nat) (s : List UInt8) : Prop := (s = [] ∧ n = N) ∨ (s ≠ [] ∧ n ≠ 0 ∧ Lib.decDigits n ++ s = Lib.decDigits N) ∨ (s ≠ [] ∧ n = 0 ∧ s = Lib.decDigits N)
theorem dec_ne (n : Nat) : Lib.decDigits n ≠ [] := by
  rw [Lib.decDigits]
  split <;> simp
theorem digSt_step {N n : Nat} {s : List UInt8} (h : digSt N n s) (hgo : s = [] ∨ 0 < n) : digSt N (n / 10) (UInt8.ofNat (48 + n % 10) :: s) := by
  have key : Lib.decDigits n ++ s = Lib.decDigits N → digSt N (n / 10) (UInt8.ofNat (48 + n % 10) :: s) := fun e => by
    by_cases h10 : n < 10
    · refine .inr (.inr ⟨by simp, by omega, ?_⟩)
      rw [← e, Lib.decDigits, dif_pos h10, Nat.mod_eq_of_lt h10]
      rfl
    · refine .inr (.inl ⟨by simp, by omega, ?_⟩)
      rw [← e]
      conv => rhs; rw [Lib.decDigits, dif_neg h10]
      simp
  rcases h with ⟨rfl, rfl⟩ | ⟨h1, h2, h3⟩ | ⟨h1, h2, h3⟩
  · exact key (by simp)
  · exact key h3
  · rcases hgo with hgo | hgo
    · exact absurd hgo h1
    · omega
theorem digSt_end {N n : Nat} {s : List UInt8} (h : digSt N n s) (h1 : s ≠ []) (h0 : n = 0) : s = Lib.decDigits N := by
  rcases h with ⟨rfl, rfl⟩ | ⟨_, h2, _⟩ | ⟨_, _, h3⟩
  · exact absurd rfl h1
  · exact absurd h0 h2
  · exact h3
theorem dec_len (n : Nat) : (Lib.decDigits n).length ≤ n + 1 := by
  induction n using Nat.strongRecOn with
  | _ n ih =>
    rw [Lib.decDigits]
    split
    · simp
    · have := ih (n / 10) (by omega)
      simp only [List.length_append, List.length_cons, List.length_nil]
      omega
theorem digSt_len {N n : Nat} {s : List UInt8} (h : digSt N n s) : s.length ≤ N + 1 := by
  have := dec_len N
  rcases h with ⟨rfl, _⟩ | ⟨_, _, h3⟩ | ⟨_, _, h3⟩
  · simp
  · have h4 := congrArg List.length h3
    rw [List.length_append] at h4
    omega
  · rw [h3]; exact this
def digM (n : Nat) (s : ByteArray) : Nat := n + (if s.size = 0 then 1 else 0)
theorem cells_new0 (W : World) (x : Value) (t : TypeId) (u : Value) (h : x = u) : (W.alloc (.cells #[x] t)).cell? ⟨W.heap.size, 0, none⟩ = some u := by
  subst h
  unfold World.cell?
  rw [World.alloc_heap_new]
  simp
theorem byte_str (W : World) (d : Nat) (hd : d < 10) : (convert 146 9 (.slice (some ⟨W.heap.size, 0, none⟩) 1 1)).run Tryz.prog (W.alloc (.cells #[.int .u8 (48 + (d : Int))] 5)) = .ok (.string ⟨#[UInt8.ofNat (48 + d)]⟩) (W.alloc (.cells #[.int .u8 (48 + (d : Int))] 5)) := by
  have h := run_convert_bytes_back (P := Tryz.prog) (W.alloc (.cells #[.int .u8 (48 + (d : Int))] 5)) 146 9 5 ⟨W.heap.size, 0, none⟩ 1 [UInt8.ofNat (48 + d)] Tryz.underlying146 Tryz.underlying5 Tryz.underlying9 (fun j hj => by
    obtain rfl : j = 0 := by simp at hj; omega
    rw [Addr.add_lit, Nat.zero_add]
    refine cells_new0 W _ _ _ ?_
    simp only [List.getElem_cons_zero, UInt8.toNat_ofNat']
    rw [Nat.mod_eq_of_lt (by omega)]
    simp)
  exact h
set_option maxRecDepth 100000 in
set_option maxHeartbeats 2000000 in
theorem digits_any (N : Nat) (hN : N ≤ 1000000000000000000) (w : World) : Calls Tryz.prog 79 #[.int .i64 N] w fun e w' => e = .returned (.string (dig N)) ∧ Keep (fun _ => False) w w' := by
  go_enter Tryz.func79, Tryz.ntmps79
  go_wp2_with fail
  go_loopg [0, 3] (N + 1) (fun gh v0 v3 wr => ∃ (n : Nat) (s : ByteArray), v0 = .int .i64 n ∧ v3 = .string s ∧ digSt N n s.data.toList ∧ n ≤ N ∧ gh = digM n s ∧ Keep (fun _ => False) w wr)
  case atStart => exact ⟨N, ⟨#[]⟩, rfl, rfl, .inl ⟨rfl, rfl⟩, Nat.le_refl _, rfl, Keep.refl _ _⟩
  case round =>
    obtain ⟨n, s, rfl, rfl, hst, hn, hgk, hkeep⟩ := hrel
    have HST := Lib.hid hst
    have HK := Lib.hid hkeep
    clear hst hkeep
    have hb0 : (0 : Int) ≤ (n : Int) := by omega
    have hsz : s.size ≤ N + 1 := by
      have := digSt_len HST.out
      rwa [Array.length_toList, ByteArray.size_data] at this
    by_cases hgo : s.data.toList = [] ∨ 0 < n
    · have HN := Lib.hid (digSt_step HST.out hgo)
      obtain ⟨d, hd⟩ : ∃ d : Nat, n % 10 = d := ⟨_, rfl⟩
      obtain ⟨q, hq⟩ : ∃ q : Nat, n / 10 = q := ⟨_, rfl⟩
      have hm0 : (n : Int) % 10 = (d : Int) := by omega
      have hm1 : (n : Int) / 10 = (q : Int) := by omega
      have hd9 : d < 10 := by omega
      rw [hd, hq] at HN
      have HQ := Lib.hid hq
      clear hd hq
      have hbs := byte_str wr d hd9
      generalize UInt8.ofNat (48 + d) = c at *
      obtain ⟨t, ht⟩ : ∃ t : ByteArray, (⟨#[c]⟩ : ByteArray) ++ s = t := ⟨_, rfl⟩
      have htl : t.data.toList = c :: s.data.toList := by rw [← ht]; simp
      rw [← htl] at HN
      have hts : t.size = s.size + 1 := by rw [← ht, ByteArray.size_append]; show 1 + s.size = _; omega
      have HTS := Lib.hid hts
      by_cases hs : s.data.toList = []
      · have hb : s.toList.isEmpty = true := by rw [Lib.toList_data, hs]; rfl
        have hb2 : (s.toList == []) = true := by rw [Lib.toList_data, hs]; rfl
        go_wp2_with fail
        go_roundg (digM q t)
        case rel => exact ⟨q, t, by first | rfl | go_num, by first | rfl | simp, HN.out, by have := HQ.out; omega, rfl, HK.out.alloc _⟩
        case measure =>
          rw [hgk]
          have h1 := HTS.out
          have h2 := HQ.out
          unfold digM
          rw [if_neg (by omega)]
          by_cases hz : s.size = 0
          · rw [if_pos hz]; omega
          · rw [if_neg hz]
            have : 0 < n := by
              rcases hgo with h | h
              · exact absurd (by rw [← ByteArray.size_data, ← Array.length_toList, h]; rfl) hz
              · exact h
            omega
      · have hn0 : 0 < n := by rcases hgo with h | h; exact absurd h hs; omega
        have hb : s.toList.isEmpty = false := by rw [Lib.toList_data]; simpa using hs
        go_wp2_with fail
        go_roundg (digM q t)
        case rel => exact ⟨q, t, by first | rfl | go_num, by first | rfl | simp, HN.out, by have := HQ.out; omega, rfl, HK.out.alloc _⟩
        case measure =>
          rw [hgk]
          have h1 := HTS.out
          have h2 := HQ.out
          unfold digM
          rw [if_neg (by omega)]
          by_cases hz : s.size = 0
          · rw [if_pos hz]; omega
          · rw [if_neg hz]
            have : 0 < n := by
              rcases hgo with h | h
              · exact absurd (by rw [← ByteArray.size_data, ← Array.length_toList, h]; rfl) hz
              · exact h
            omega
    · have hs : s.data.toList ≠ [] := fun e => hgo (.inl e)
      have hn0 : ¬ 0 < n := fun e => hgo (.inr e)
      have hb : s.toList.isEmpty = false := by rw [Lib.toList_data]; simpa using hs
      have HE : Hid (s = dig N) := Lib.hid (by
        have := digSt_end HST.out hs (by omega)
        unfold dig
        rw [← this])
      go_wp2_with fail
      go_ret
      exact ⟨by rw [← HE.out] <;> rfl, HK.out⟩
end Go.Proofs.YtplkmbfeeegaiaaGreatDoor

/-
  Rows of elements of k cells, written out.
-/
namespace Go.Proofs.YtplkmbfeeegaiaaGreatDoor
section
variable {α : Type} {enc : α → List Value} {k : Nat}
theorem flat_len (hk : ∀ x, (enc x).length = k) : ∀ l : List α, (l.flatMap enc).length = l.length * k
  | [] => by simp
  | x :: l => by rw [List.flatMap_cons, List.length_append, hk, flat_len hk l, List.length_cons, Nat.add_mul]; omega
theorem flat_get (hk : ∀ x, (enc x).length = k) : ∀ (l : List α) (q : Nat) (x : α) (r : Nat), l[q]? = some x → r < k → (l.flatMap enc)[q * k + r]? = (enc x)[r]?
  | [], _, _, _, h, _ => by simp at h
  | y :: l, 0, x, r, h, hr => by
    simp only [List.getElem?_cons_zero, Option.some.injEq] at h
    subst h
    rw [List.flatMap_cons, List.getElem?_append_left (by rw [hk]; omega), Nat.zero_mul, Nat.zero_add]
  | y :: l, q + 1, x, r, h, hr => by
    simp only [List.getElem?_cons_succ] at h
    rw [List.flatMap_cons, List.getElem?_append_right (by rw [hk, Nat.add_mul]; omega), hk, ← flat_get hk l q x r h hr]
    congr 1
    rw [Nat.add_mul]; omega
theorem flat_take (hk : ∀ x, (enc x).length = k) : ∀ (l : List α) (q : Nat), (l.flatMap enc).take (q * k) = (l.take q).flatMap enc
  | [], q => by simp
  | y :: l, 0 => by simp
  | y :: l, q + 1 => by
    rw [List.flatMap_cons, List.take_succ_cons, List.flatMap_cons, ← flat_take hk l q, List.take_append, hk, List.take_of_length_le (by rw [hk, Nat.add_mul]; omega), Nat.add_mul, Nat.one_mul, Nat.add_sub_cancel]
theorem flat_drop (hk : ∀ x, (enc x).length = k) : ∀ (l : List α) (q : Nat), (l.flatMap enc).drop (q * k) = (l.drop q).flatMap enc
  | [], q => by simp
  | y :: l, 0 => by simp
  | y :: l, q + 1 => by
    rw [List.flatMap_cons, List.drop_succ_cons, ← flat_drop hk l q, List.drop_append, hk, List.drop_of_length_le (by rw [hk, Nat.add_mul]; omega), Nat.add_mul, Nat.one_mul, Nat.add_sub_cancel, List.nil_append]
theorem flat_set (hk : ∀ x, (enc x).length = k) {r : Nat} {u : Value} (hr : r < k) : ∀ (l : List α) (q : Nat) (x y : α), l[q]? = some x → (enc x).set r u = enc y → (l.flatMap enc).set (q * k + r) u = (l.set q y).flatMap enc
  | [], _, _, _, h, _ => by simp at h
  | z :: l, 0, x, y, h, he => by
    simp only [List.getElem?_cons_zero, Option.some.injEq] at h
    subst h
    rw [List.flatMap_cons, List.set_cons_zero, List.flatMap_cons, ← he, Nat.zero_mul, Nat.zero_add, List.set_append_left _ _ (by rw [hk]; omega)]
  | z :: l, q + 1, x, y, h, he => by
    simp only [List.getElem?_cons_succ] at h
    rw [List.flatMap_cons, List.set_cons_succ, List.flatMap_cons, ← flat_set hk hr l q x y h he, List.set_append_right _ _ (by rw [hk, Nat.add_mul]; omega), hk]
    congr 2
    rw [Nat.add_mul]; omega
end
/-- An element is put into its place: room behind, the tail moved, the element stored. -/
theorem ins_moved {α : Type} (S : List α) (x : α) {j : Nat} (hj : j ≤ S.length) : (((S ++ [x]).take (j + 1) ++ S.drop j).set j x) = S.take j ++ x :: S.drop j := by
  have hl : ((S ++ [x]).take (j + 1)).length = j + 1 := by rw [List.length_take, List.length_append]; simp; omega
  rw [List.set_append_left _ _ (by rw [hl]; omega)]
  have e : ((S ++ [x]).take (j + 1)).set j x = S.take j ++ [x] := by
    rw [List.take_add_one, List.take_append_of_le_length hj]
    obtain ⟨y, hy⟩ : ∃ y, (S ++ [x])[j]? = some y := ⟨_, List.getElem?_eq_getElem (by simp; omega)⟩
    rw [hy, List.set_append_right _ _ (by simp; omega)]
    simp [Nat.min_eq_left hj]
  rw [e]
  simp
theorem moved_eq {α : Type} (S : List α) (x : α) {j : Nat} (hj : j ≤ S.length) : ((S ++ [x]).drop j).take (S.length - j) = S.drop j := by
  rw [List.drop_append_of_le_length hj, List.take_append_of_le_length (by simp), List.take_of_length_le (by simp)]
end Go.Proofs.YtplkmbfeeegaiaaGreatDoor

/-
  A walk that parts: where two operations may come, both orders are walked.
-/
namespace Go.Proofs.YtplkmbfeeegaiaaGreatDoor
open Go Go.RowKit

/-- done: all are listed; read: the operation only reads; one: it is the only one that may come; two: either of the two may come. -/
inductive WT where
  | done : WT
  | read (i : Nat) (t : WT) : WT
  | one (i : Nat) (t : WT) : WT
  | two (i : Nat) (t : WT) (j : Nat) (u : WT) : WT
def WT.len : WT → Nat
  | .done => 0
  | .read _ t => t.len + 1
  | .one _ t => t.len + 1
  | .two _ t _ _ => t.len + 1

section
variable {P : Program} {md : Region.Mode} {ops : Array Oper}
def walkT (P : Program) (ops : Array Oper) (Q : Act → World → Prop) (C : World → Prop) : WT → Act → World → Prop
  | .done, a, w => C w ∧ Q a w
  | .read i t, a, w => ∃ o v, ops[i]? = some o ∧ YC P ops C o v a ∧ walkT P ops Q C t (a.put o.dst v) w
  | .one i t, a, w => C w ∧ ∃ o, ops[i]? = some o ∧ if Region.wanted o (yielded ops a.tmps) then o.wp P a w (walkT P ops Q C t) noQ else walkT P ops Q C t (a.put o.dst undef) w
  | .two i t j u, a, w => C w ∧ (∃ o, ops[i]? = some o ∧ if Region.wanted o (yielded ops a.tmps) then o.wp P a w (walkT P ops Q C t) noQ else walkT P ops Q C t (a.put o.dst undef) w) ∧
      ∃ o, ops[j]? = some o ∧ if Region.wanted o (yielded ops a.tmps) then o.wp P a w (walkT P ops Q C u) noQ else walkT P ops Q C u (a.put o.dst undef) w

variable {C : World → Prop}
theorem walkT_read {Q : Act → World → Prop} {i : Nat} {t : WT} {a : Act} {w : World} {o : Oper} (ho : ops[i]? = some o)
    (h : ∀ K : Act → Prop, (∀ a, walkT P ops Q C t a w → K a) → if Region.wanted o (yielded ops a.tmps) then ∃ v, (∀ w, C w → o.quietAt P a (fun w'' => w'' = w) w v) ∧ K (a.put o.dst v) else K (a.put o.dst undef)) : walkT P ops Q C (.read i t) a w := by
  have h1 := h _ (fun _ h => h)
  by_cases hw : Region.wanted o (yielded ops a.tmps) = true
  · rw [if_pos hw] at h1
    obtain ⟨v, h2, h3⟩ := h1
    exact ⟨o, v, ho, .inl ⟨hw, h2⟩, h3⟩
  · rw [if_neg hw] at h1
    exact ⟨o, undef, ho, .inr ⟨by simpa using hw, rfl⟩, h1⟩
theorem walkT_do {Q : Act → World → Prop} {i : Nat} {t : WT} {a : Act} {w : World} {o : Oper} (ho : ops[i]? = some o) (hC : C w)
    (h : ∀ K : Act → World → Prop, (∀ a w, walkT P ops Q C t a w → K a w) → if Region.wanted o (yielded ops a.tmps) then o.wp P a w K noQ else K (a.put o.dst undef) w) : walkT P ops Q C (.one i t) a w :=
  ⟨hC, o, ho, h _ (fun _ _ h => h)⟩
theorem walkT_two {Q : Act → World → Prop} {i j : Nat} {t u : WT} {a : Act} {w : World} {o p : Oper} (ho : ops[i]? = some o) (hp : ops[j]? = some p) (hC : C w)
    (h : ∀ K : Act → World → Prop, (∀ a w, walkT P ops Q C t a w → K a w) → if Region.wanted o (yielded ops a.tmps) then o.wp P a w K noQ else K (a.put o.dst undef) w)
    (h' : ∀ K : Act → World → Prop, (∀ a w, walkT P ops Q C u a w → K a w) → if Region.wanted p (yielded ops a.tmps) then p.wp P a w K noQ else K (a.put p.dst undef) w) : walkT P ops Q C (.two i t j u) a w :=
  ⟨hC, ⟨o, ho, h _ (fun _ _ h => h)⟩, p, hp, h' _ (fun _ _ h => h)⟩

def walkTB (md : Region.Mode) (ops : Array Oper) : WT → Array Bool → Bool
  | .done, listed => (Region.ready md ops listed).isEmpty
  | .read k t, listed => (Region.ready md ops listed).contains k && Region.free md ops listed k && walkTB md ops t (listed.setIfInBounds k true)
  | .one k t, listed => decide (Region.ready md ops listed = [k]) && walkTB md ops t (listed.setIfInBounds k true)
  | .two i t j u, listed => decide (Region.ready md ops listed = [i, j]) && (decide (t.len = u.len) && (walkTB md ops t (listed.setIfInBounds i true) && walkTB md ops u (listed.setIfInBounds j true)))

theorem wpC_walkT {Q : Act → World → Prop} (hsel : Region.noSelect ops = true) : ∀ (t : WT) (listed : Array Bool) (a : Act) (w : World), walkTB md ops t listed = true → walkT P ops Q C t a w → wpC P md ops C Q t.len listed a w
  | .done, listed, a, w, hB, h => ⟨h.1, by simpa [walkTB] using hB, h.2⟩
  | .read k t, listed, a, w, hB, h => by
    simp only [walkTB, Bool.and_eq_true] at hB
    obtain ⟨⟨hr, hf⟩, hB'⟩ := hB
    obtain ⟨o, v, ho, hy, h⟩ := h
    exact wpC_first ho (Region.noSelect_spec hsel) _ listed a w (Region.free_spec ho hf) (by simpa using hr) hy (wpC_walkT hsel t _ _ w hB' h)
  | .one k t, listed, a, w, hB, h => by
    simp only [walkTB, Bool.and_eq_true, decide_eq_true_eq] at hB
    obtain ⟨hC, o, ho, h⟩ := h
    refine ⟨hC, fun h0 => (by rw [hB.1] at h0; cases h0), fun i hi => ?_⟩
    rw [hB.1, List.mem_singleton] at hi
    subst hi
    unfold wpOp
    simp only [ho]
    split
    · rename_i hw
      rw [if_pos hw] at h
      exact .inl (Oper.wp_mono (fun a' w' h2 => wpC_walkT hsel t _ a' w' hB.2 h2) h)
    · rename_i hw
      rw [if_neg hw] at h
      exact wpC_walkT hsel t _ _ w hB.2 h
  | .two k t j u, listed, a, w, hB, h => by
    simp only [walkTB, Bool.and_eq_true, decide_eq_true_eq] at hB
    obtain ⟨hr, hlen, hB1, hB2⟩ := hB
    obtain ⟨hC, ⟨o, ho, h⟩, p, hp, h'⟩ := h
    refine ⟨hC, fun h0 => (by rw [hr] at h0; cases h0), fun i hi => ?_⟩
    rw [hr] at hi
    rcases List.mem_cons.1 hi with rfl | hi
    · unfold wpOp
      simp only [ho]
      split
      · rename_i hw
        rw [if_pos hw] at h
        exact .inl (Oper.wp_mono (fun a' w' h2 => wpC_walkT hsel t _ a' w' hB1 h2) h)
      · rename_i hw
        rw [if_neg hw] at h
        exact wpC_walkT hsel t _ _ w hB1 h
    · rw [List.mem_singleton] at hi
      subst hi
      unfold wpOp
      simp only [hp]
      split
      · rename_i hw
        rw [if_pos hw] at h'
        exact .inl (Oper.wp_mono (fun a' w' h2 => by rw [hlen]; exact wpC_walkT hsel u _ a' w' hB2 h2) h')
      · rename_i hw
        rw [if_neg hw] at h'
        show wpC P md ops C Q t.len _ _ _
        rw [hlen]
        exact wpC_walkT hsel u _ _ w hB2 h'

def walkTOk (ops : Array Oper) (t : WT) : Bool := Region.noSelect ops && decide (t.len = ops.size) && walkTB .any ops t (Array.replicate ops.size false)
theorem wp_region_walkT {id : Nat} {Q : Exit → Act → World → Prop} {a : Act} {w : World} {l : List Oper} (t : WT) (C : World → Prop) (hm : P.follows .mixedOrders = true) (hB : walkTOk l.toArray t = true)
    (h : walkT P l.toArray (fun a w => Q .normal a w) C t a w.drew) : (Code.region id l.toArray true).wp P Q a w := by
  simp only [walkTOk, Bool.and_eq_true, decide_eq_true_eq] at hB
  obtain ⟨⟨hsel, hlen⟩, hB⟩ := hB
  refine wp_region_any hm (wpAny_of_wpC (C := C) (Q := fun a w => Q .normal a w) (fun _ _ h => h) _ _ _ _ ?_)
  rw [← hlen]
  exact wpC_walkT hsel t _ a _ (by rw [hlen]; exact hB) h
/-- The same; the ways meet in J. -/
theorem wp_region_walkT_join {id : Nat} {Q : Exit → Act → World → Prop} {a : Act} {w : World} {l : List Oper} (t : WT) (C : World → Prop) (J : Act → World → Prop) (hm : P.follows .mixedOrders = true) (hB : walkTOk l.toArray t = true)
    (hJ : ∀ a w, J a w → Q .normal a w) (h : walkT P l.toArray J C t a w.drew) : (Code.region id l.toArray true).wp P Q a w := by
  simp only [walkTOk, Bool.and_eq_true, decide_eq_true_eq] at hB
  obtain ⟨⟨hsel, hlen⟩, hB⟩ := hB
  refine wp_region_any hm (wpAny_of_wpC (C := C) (Q := J) hJ _ _ _ _ ?_)
  rw [← hlen]
  exact wpC_walkT hsel t _ a _ (by rw [hlen]; exact hB) h
end
end Go.Proofs.YtplkmbfeeegaiaaGreatDoor

/-
  The reference's points of members.
-/
namespace Go.Proofs.YtplkmbfeeegaiaaGreatDoor
open Go.RowKit Go.Shelf

/-- A point as the reference keeps it. -/
def encSp (x : Mk) : List Value := [.int .i64 x.point, .int .i64 x.node]
theorem encSp_len (x : Mk) : (encSp x).length = 2 := rfl
def flatS (l : List Mk) : List Value := l.flatMap encSp
theorem flatS_one (x : Mk) : flatS [x] = encSp x := by simp [flatS]
theorem flatS_append (a b : List Mk) : flatS (a ++ b) = flatS a ++ flatS b := by unfold flatS; rw [List.flatMap_append]
theorem flatS_cell (l : List Mk) : ∀ u ∈ flatS l, u.oneCell' = true := by
  intro u hu
  unfold flatS at hu
  obtain ⟨m, _, hu⟩ := List.mem_flatMap.1 hu
  simp only [encSp, List.mem_cons, List.not_mem_nil, or_false] at hu
  rcases hu with rfl | rfl <;> rfl
def OwnS (w : World) (l : List Mk) (v : Value) (W : World) : Prop := Keep (fun _ => False) w W ∧ W.ownsRow w.heap.size 145 2 v l.length (flatS l)
theorem OwnS.nil {w W : World} (k : Keep (fun _ => False) w W) : OwnS w [] (.slice none 0 0) W := ⟨k, by simpa [flatS] using World.ownsRow_nil W w.heap.size 145 2⟩
theorem OwnS.keep {w W W' : World} {l : List Mk} {v : Value} (h : OwnS w l v W) (k : Keep (fun _ => False) W W') : OwnS w l v W' := ⟨h.1.trans k, ownsRow_keep h.2 k (fun _ _ h => h)⟩
theorem OwnS.form {w W : World} {l : List Mk} {v : Value} (h : OwnS w l v W) : (v = .slice none 0 0 ∧ l = []) ∨ ∃ b c, v = .slice (some ⟨b, 0, none⟩) l.length c := by
  rcases h.2.2 with ⟨h1, h2⟩ | ⟨g, c, cur, h1, _⟩
  · exact .inl ⟨h1, List.eq_nil_of_length_eq_zero h2⟩
  · exact .inr ⟨g, c, h1⟩
theorem infoSp : (Tryz.prog.info? 145).map (fun i => (i.zero, i.size, i.bytes)) = some (some (.agg #[.int .i64 0, .int .i64 0]), 2, 16) := by kernel_rfl
theorem OwnS.snoc {w W : World} {l : List Mk} {v : Value} (h : OwnS w l v W) (x : Mk) (hl : l.length ≤ 100000) :
    ∃ g c w', (Builtin.append_ #[142, 142] 142 #[v, .slice (some ⟨W.heap.size, 0, none⟩) 1 1]).run Tryz.prog (W.alloc (.cells #[.int .i64 x.point, .int .i64 x.node] 145)) = .ok (.slice (some ⟨g, 0, none⟩) (l.length + 1) c) w' ∧ OwnS w (l ++ [x]) (.slice (some ⟨g, 0, none⟩) (l.length + 1) c) w' ∧ Keep (fun j => v.ownBlock = some j) W w' ∧ (v.ownBlock = some g ∨ g = W.heap.size + 1) := by
  obtain ⟨v', w', r1, r2, r3, r4, g, c, r5⟩ := app_one 142 145 2 16 _ Tryz.underlying142 infoSp rfl (by decide) (by decide) W 142 w.heap.size v l.length (flatS l) (encSp x) h.2 rfl (by simp [encSp, Value.oneCell']) (by omega) h.1.size
  subst r5
  refine ⟨g, c, w', r1, ⟨h.1.trans' r3 (fun j e => .inr (h.2.lt j e).1), ?_⟩, r3, ?_⟩
  · rw [flatS_append, flatS_one, List.length_append]
    exact r2
  · rcases r4 with r4 | r4
    · exact .inl r4.symm
    · exact .inr (by cases r4; rfl)
theorem two_cell (W : World) (x y : Value) (t : TypeId) : (W.alloc (.cells #[x, y] t)).cell? ⟨W.heap.size, 0, none⟩ = some x ∧ (W.alloc (.cells #[x, y] t)).cell? ⟨W.heap.size, 1, none⟩ = some y ∧ ∀ o, (W.alloc (.cells #[x, y] t)).frozen? ⟨W.heap.size, o, none⟩ = false := by
  refine ⟨?_, ?_, fun o => ?_⟩
  · exact cells_new W [x, y] t 0 x rfl
  · exact cells_new W [x, y] t 1 y rfl
  · unfold World.frozen?
    rw [World.alloc_heap_new]
    simp
/-- The text of a point. -/
theorem nodeT_ref (m i : Nat) : ((⟨#[110, 111, 100, 101, 32]⟩ : ByteArray) ++ dig m) ++ ⟨#[32]⟩ ++ dig i = nodeT (m : Int) i := by
  rw [nodeT_eq]
  apply Go.WideShapes.bytes_inj
  simp [txt, addT]

/-- A point in a block of its own. -/
structure SpotAt (w0 W : World) (z : Nat) (p n : Int) : Prop where
  k : Keep (fun _ => False) w0 W
  lo : w0.heap.size ≤ z
  c0 : W.cell? ⟨z, 0, none⟩ = some (.int .i64 p)
  c1 : W.cell? ⟨z, 1, none⟩ = some (.int .i64 n)
theorem SpotAt.mk' {w0 V : World} {z : Nat} {p n : Int} {x y : Value} (k : Keep (fun _ => False) w0 V) (lo : w0.heap.size ≤ z) (f0 : V.cell? ⟨z, 0, none⟩ = some x) (f1 : V.cell? ⟨z, 1, none⟩ = some y) (_ff : ∀ o, V.frozen? ⟨z, o, none⟩ = false) :
    SpotAt w0 ((V.setCell ⟨z, 0, none⟩ (.int .i64 p)).setCell ⟨z, 1, none⟩ (.int .i64 n)) z p n :=
  ⟨(k.setCell (p := ⟨z, 0, none⟩) _ (.inr lo)).setCell (p := ⟨z, 1, none⟩) _ (.inr lo), lo, (cell_set_off (by decide)).trans (cell_set_same f0), cell_set_same ((cell_set_off (by decide)).trans f1)⟩

theorem infoSp2 : (Tryz.prog.info? 145).map (·.size) = some 2 := by kernel_rfl
theorem wp_cpy {P : Program} {o : Oper} {a : Act} {w w' : World} {K : Act → World → Prop} {Q : Exit → Act → World → Prop} {v v2 v' : Value}
    (s x : Operand) (t : TypeId) (hop : o.op = Op.call { callee := Callee.builtin Builtin.copy, args := #[s, x], argTypes := #[t, t] })
    (hs : a.eval s = v) (hx : a.eval x = v2) (hrun : (Builtin.copy_ #[t, t] o.type #[v, v2]).run P w = .ok v' w') (hK : K (a.put o.dst v') w') : o.wp P a w K Q := by
  unfold Oper.wp
  simp [execOp, hop, resolve, invoke, builtin, hs, hx, hrun, Result.andThen]
  exact hK
/-- The points that are drawn already come before the next one. -/
theorem drawK_lt {l : List Mb} (hv : VL l) {k i : Nat} {m : Mb} (h : l[k]? = some m) : ∀ y ∈ drawK l k i, dLt y ⟨PN m.node i, m.node, i⟩ := by
  intro y hy
  unfold drawK at hy
  rw [h] at hy
  rcases List.mem_append.1 hy with hy | hy
  · obtain ⟨m', hm', hy⟩ := (mem_draws PN).1 hy
    have h1 := ((mem_drawM PN).1 hy).1
    have h2 := hv.asc
    rw [← List.take_append_drop k l, List.pairwise_append] at h2
    have h3 := h2.2.2 m' hm' m (by
      have hk : k < l.length := (List.getElem?_eq_some_iff.1 h).1
      rw [List.drop_eq_getElem_cons hk]
      rw [List.getElem?_eq_getElem hk] at h
      simp only [Option.some.injEq] at h
      rw [h]; exact List.mem_cons_self)
    exact .inl (by simp only []; omega)
  · obtain ⟨j, hj⟩ := List.mem_iff_getElem?.1 hy
    have hji : j < i := by have := (List.getElem?_eq_some_iff.1 hj).1; rw [List.length_take] at this; omega
    rw [List.getElem?_take_of_lt hji] at hj
    unfold drawM at hj
    rw [List.getElem?_map] at hj
    cases hr : (List.range (4 * m.weight.toNat))[j]? with
    | none => rw [hr] at hj; simp at hj
    | some j' =>
      rw [hr] at hj
      simp only [Option.map_some, Option.some.injEq] at hj
      have hjj : j' = j := by
        have := (List.getElem?_eq_some_iff.1 hr).2
        simpa using this.symm
      subst hj
      exact .inr ⟨rfl, by simp only []; omega⟩
set_option maxRecDepth 100000 in
set_option maxHeartbeats 8000000 in
theorem spots_any (v : Value) (l : List Mb) (w : World) (h : Mbs w v l) (hv : VL l) : Calls Tryz.prog 112 #[v] w fun e w' => ∃ vo, e = .returned vo ∧ OwnS w (circ PN l) vo w' := by
  obtain ⟨hn, hbd, a, c, b, off, rfl, hc, ha, hcell⟩ := h
  have HC := Lib.hid hcell
  have HA := Lib.hid ha
  have HV := Lib.hid hv
  clear hcell ha hbd hv
  obtain ⟨n, hn'⟩ : ∃ n, l.length = n := ⟨_, rfl⟩
  have HL := Lib.hid hn'
  rw [hn'] at hn hc ⊢
  clear hn'
  go_enter Tryz.func112, Tryz.ntmps112
  go_wp2_with fail
  go_loopg [3, 4] n (fun gh v3 v wr => ∃ (k : Nat) (S : List Mk), gh + k = n ∧ v = .int .i64 k ∧ OwnS w S v3 wr ∧ Hid (S.Pairwise ltMk ∧ S.Perm (drawK l k 0)))
  case atStart => exact ⟨0, [], by omega, rfl, OwnS.nil (Keep.refl _ _), Lib.hid ⟨List.Pairwise.nil, by rw [drawK_zero]⟩⟩
  case round =>
    obtain ⟨k, S, hk, rfl, how, HS⟩ := hrel
    have HOW := Lib.hid how
    clear how
    by_cases hlt : k < n
    · obtain ⟨m, hm⟩ : ∃ m, l[k]? = some m := ⟨_, List.getElem?_eq_getElem (by have := HL.out; omega)⟩
      obtain rfl := HA.out (by have := HL.out; omega)
      have HM := Lib.hid hm
      have HCX := Lib.hid (HC.out k m hm)
      have hok := HV.out.ok m (List.mem_of_getElem? hm)
      unfold okMb at hok
      have hkz : (k : Int) < (n : Int) := by omega
      have hk0 : (0 : Int) ≤ (k : Int) := by omega
      clear hm
      obtain ⟨mn, mr, mw⟩ := m
      simp only [] at HCX hok
      obtain ⟨mq, rfl⟩ : ∃ mq : Nat, mn = mq := ⟨mn.toNat, by omega⟩
      obtain ⟨wq, rfl⟩ : ∃ wq : Nat, mw = wq := ⟨mw.toNat, by omega⟩
      have HKK := Lib.hid (And.intro hk hlt)
      clear hk hlt
      go_wp2_with fail
      go_loopg [3, 5] (4 * wq) (fun g2 v3 v wr2 => ∃ (i : Nat) (S : List Mk), g2 + i = 4 * wq ∧ v = .int .i64 i ∧ OwnS w S v3 wr2 ∧ Hid (S.Pairwise ltMk ∧ S.Perm (drawK l k i)))
      case atStart => exact ⟨0, S, by omega, rfl, HOW.out, HS⟩
      case round =>
        clear HOW HS S
        obtain ⟨i, S, hi, rfl, how, HS⟩ := hrel
        have HOW := Lib.hid how
        clear how
        have c0 := HOW.out.1.cell HCX.out.1 (fun h => h)
        have c2 := HOW.out.1.cell HCX.out.2.2 (fun h => h)
        have hw4 : IntKind.i64.wrap (4 * (wq : Int)) = 4 * (wq : Int) := wrapI (by unfold I64; omega)
        by_cases hil : i < 4 * wq
        · have hiz : (i : Int) < 4 * (wq : Int) := by omega
          have hi0 : (0 : Int) ≤ (i : Int) := by omega
          have HF := Lib.hid HOW.out.form
          have HD1 : Hid (∀ W, Calls Tryz.prog 79 #[.int .i64 (mq : Int)] W fun e w' => e = .returned (.string (dig mq)) ∧ Keep (fun _ => False) W w') := Lib.hid (fun W => digits_any mq (by omega) W)
          have HD2 : Hid (∀ W, Calls Tryz.prog 79 #[.int .i64 (i : Int)] W fun e w' => e = .returned (.string (dig i)) ∧ Keep (fun _ => False) W w') := Lib.hid (fun W => digits_any i (by omega) W)
          have HPT : Hid (∀ W, Calls Tryz.prog 78 #[.string (((⟨#[110, 111, 100, 101, 32]⟩ : ByteArray) ++ dig mq) ++ ⟨#[32]⟩ ++ dig i)] W fun e w' => e = .returned (.int .i64 (PN (mq : Int) i)) ∧ W = w') := Lib.hid (fun W => by
            rw [nodeT_ref]
            exact refPoint_any _ (nodeT_size (by rw [Int.toNat_natCast]; omega) (by omega)) W)
          have hd1 : (dig mq).size ≤ 2 := dig_size (by omega)
          have hd2 : (dig i).size ≤ 2 := dig_size (by omega)
          generalize dig mq = dm at *
          generalize dig i = di at *
          go_upto_region 8 with (fail)
          clear c0 c2
          have cz : ∀ q : KA (fun _ => False) wr, q.val.cell? ⟨b, off + k * 3, none⟩ = some (.int .i64 mq) := fun q => q.k.cell (HOW.out.1.cell HCX.out.1 (fun h => h)) (fun h => h)
          refine wp_region_walkT_join (.read 0 (.read 1 (.read 2 (.read 3 (.read 4 (.read 8 (.read 12 (.read 13 (.read 14 (.read 15 (.read 16 (.two 5 (.read 6 (.read 7 (.two 9 (.read 10 (.two 11 (.read 17 (.one 18 (.one 19 .done))) 18 (.one 11 (.read 17 (.one 19 .done))))) 18 (.one 9 (.read 10 (.one 11 (.read 17 (.one 19 .done)))))))) 18 (.one 5 (.read 6 (.read 7 (.one 9 (.read 10 (.one 11 (.read 17 (.one 19 .done)))))))))))))))))))) (inKA (fun _ => False) wr) (fun a' w' => ∃ z, SpotAt wr w' z (PN (mq : Int) i) mq ∧ a' = { tmps := #[.slice (some ⟨b, off, none⟩) n c, undef, .slice none 0 0, u3, .int .i64 (k : Int), .int .i64 (i : Int), .pointer (some ⟨z, 0, none⟩), u7, .int .i64 (k : Int), .slice (some ⟨b, off, none⟩) n c, .int .i64 (n : Int), .bool true, u12, u13, .int .i64 (i : Int), .slice (some ⟨b, off, none⟩) n c, .int .i64 (k : Int), .pointer (some ⟨b, off + k * 3, none⟩), .pointer (some ⟨b, off + k * 3 + 2, none⟩), .int .i64 (wq : Int), .int .i64 (4 * (wq : Int)), .bool true, u22, u23, .slice (some ⟨b, off, none⟩) n c, .int .i64 (k : Int), .pointer (some ⟨b, off + k * 3, none⟩), .pointer (some ⟨b, off + k * 3, none⟩), .int .i64 (mq : Int), .string dm, .string ((⟨#[110, 111, 100, 101, 32]⟩ : ByteArray) ++ dm), .string (((⟨#[110, 111, 100, 101, 32]⟩ : ByteArray) ++ dm) ++ ⟨#[32]⟩), .int .i64 (i : Int), .string di, .string ((((⟨#[110, 111, 100, 101, 32]⟩ : ByteArray) ++ dm) ++ ⟨#[32]⟩) ++ di), .int .i64 (PN (mq : Int) i), .slice (some ⟨b, off, none⟩) n c, .int .i64 (k : Int), .pointer (some ⟨b, off + k * 3, none⟩), .pointer (some ⟨b, off + k * 3, none⟩), .int .i64 (mq : Int), .agg #[.int .i64 (PN (mq : Int) i), .int .i64 (mq : Int)], u42, u43, u44, u45, u46, u47, u48, u49, u50, u51, u52, u53, u54, u55, u56, u57, u58, u59, u60, u61, u62, u63, u64, u65, u66, u67, u68, u69, u70, u71, u72, u73, u74, undef], defers := [] }) (by kernel_rfl) (by kernel_rfl) ?_ ?_
          rotate_left
          ·
            iterate 11 (refine walkT_read rfl (fun K hK => ?_); go_simp; refine hK _ ?_; clear hK K)
            clear cz
            have HKR : Hid (Keep (fun _ => False) wr wr.drew) := Lib.hid (Keep.refl _ wr).drew
            generalize wr.drew = V0 at *
            have hz1 : ¬ (9223372036854775807 < 5 + dm.size) := by omega
            have hz2 : ¬ (9223372036854775807 < 5 + dm.size + 1) := by omega
            have hz3 : ¬ (9223372036854775807 < 5 + dm.size + 1 + di.size) := by omega
            refine walkT_two rfl rfl (inKA.of HKR.out) (fun K hK => ?_) (fun K hK => ?_)
            rotate_left
            ·
              skip
              go_simp
              refine hK _ _ ?_; clear hK K
              have HK1 : Hid (Keep (fun _ => False) wr (V0.alloc (.cells #[.int .i64 0, .int .i64 0] 145))) := Lib.hid (HKR.out.alloc _)
              have G1 := Lib.hid (And.intro (two_cell V0 (.int .i64 0) (.int .i64 0) 145).1 (And.intro (two_cell V0 (.int .i64 0) (.int .i64 0) 145).2.1 (And.intro (two_cell V0 (.int .i64 0) (.int .i64 0) 145).2.2 HKR.out.size)))
              generalize V0.alloc (.cells #[.int .i64 0, .int .i64 0] 145) = V1 at *
              generalize V0.heap.size = z at *
              refine walkT_do rfl (inKA.of HK1.out) (fun K hK => ?_)
              go_simp
              refine (HD1.out _).mono ?_
              rintro e V2 ⟨rfl, kk⟩
              refine hK _ _ ?_; clear hK K
              have HK2 := Lib.hid (HK1.out.trans kk)
              have G2 := Lib.hid (And.intro (kk.cell G1.out.1 (fun h => h)) (And.intro (kk.cell G1.out.2.1 (fun h => h)) (And.intro (fun o => (kk.frozen (World.block_lt_of_cell? _ _ G1.out.1) (fun h => h) o).trans (G1.out.2.2.1 o)) G1.out.2.2.2)))
              clear kk
              refine walkT_read rfl (fun K hK => ?_); go_simp; refine hK _ ?_; clear hK K
              refine walkT_read rfl (fun K hK => ?_); go_simp; refine hK _ ?_; clear hK K
              refine walkT_do rfl (inKA.of HK2.out) (fun K hK => ?_)
              go_simp
              refine (HD2.out _).mono ?_
              rintro e V3 ⟨rfl, kk⟩
              refine hK _ _ ?_; clear hK K
              have HK3 := Lib.hid (HK2.out.trans kk)
              have G3 := Lib.hid (And.intro (kk.cell G2.out.1 (fun h => h)) (And.intro (kk.cell G2.out.2.1 (fun h => h)) (And.intro (fun o => (kk.frozen (World.block_lt_of_cell? _ _ G2.out.1) (fun h => h) o).trans (G2.out.2.2.1 o)) G2.out.2.2.2)))
              clear kk
              refine walkT_read rfl (fun K hK => ?_); go_simp; refine hK _ ?_; clear hK K
              refine walkT_do rfl (inKA.of HK3.out) (fun K hK => ?_)
              go_simp
              refine (HPT.out _).mono ?_
              rintro e w' ⟨rfl, rfl⟩
              refine hK _ _ ?_; clear hK K
              refine walkT_read rfl (fun K hK => ?_); go_simp; refine hK _ ?_; clear hK K
              have f0 := G3.out.1
              have f1 := G3.out.2.1
              have ff := G3.out.2.2.1
              refine walkT_do rfl (inKA.of HK3.out) (fun K hK => ?_)
              go_simp
              refine hK _ _ ?_; clear hK K
              have HY : Hid (SpotAt wr ((V3.setCell ⟨z, 0, none⟩ (.int .i64 (PN (mq : Int) i))).setCell ⟨z, 1, none⟩ (.int .i64 (mq : Int))) z (PN (mq : Int) i) mq) := Lib.hid (SpotAt.mk' HK3.out G3.out.2.2.2 f0 f1 ff)
              clear f0 f1 ff
              generalize (V3.setCell ⟨z, 0, none⟩ (.int .i64 (PN (mq : Int) i))).setCell ⟨z, 1, none⟩ (.int .i64 (mq : Int)) = Y at *
              refine ⟨inKA.of HY.out.k, ?_⟩
              exact ⟨z, HY.out, rfl⟩
            ·
              skip
              go_simp
              refine (HD1.out _).mono ?_
              rintro e V5 ⟨rfl, kk⟩
              refine hK _ _ ?_; clear hK K
              have HK5 := Lib.hid (HKR.out.trans kk)
              clear kk
              refine walkT_read rfl (fun K hK => ?_); go_simp; refine hK _ ?_; clear hK K
              refine walkT_read rfl (fun K hK => ?_); go_simp; refine hK _ ?_; clear hK K
              refine walkT_two rfl rfl (inKA.of HK5.out) (fun K hK => ?_) (fun K hK => ?_)
              rotate_left
              ·
                skip
                go_simp
                refine hK _ _ ?_; clear hK K
                have HK6 : Hid (Keep (fun _ => False) wr (V5.alloc (.cells #[.int .i64 0, .int .i64 0] 145))) := Lib.hid (HK5.out.alloc _)
                have G6 := Lib.hid (And.intro (two_cell V5 (.int .i64 0) (.int .i64 0) 145).1 (And.intro (two_cell V5 (.int .i64 0) (.int .i64 0) 145).2.1 (And.intro (two_cell V5 (.int .i64 0) (.int .i64 0) 145).2.2 HK5.out.size)))
                generalize V5.alloc (.cells #[.int .i64 0, .int .i64 0] 145) = V6 at *
                generalize V5.heap.size = z at *
                refine walkT_do rfl (inKA.of HK6.out) (fun K hK => ?_)
                go_simp
                refine (HD2.out _).mono ?_
                rintro e V7 ⟨rfl, kk⟩
                refine hK _ _ ?_; clear hK K
                have HK7 := Lib.hid (HK6.out.trans kk)
                have G7 := Lib.hid (And.intro (kk.cell G6.out.1 (fun h => h)) (And.intro (kk.cell G6.out.2.1 (fun h => h)) (And.intro (fun o => (kk.frozen (World.block_lt_of_cell? _ _ G6.out.1) (fun h => h) o).trans (G6.out.2.2.1 o)) G6.out.2.2.2)))
                clear kk
                refine walkT_read rfl (fun K hK => ?_); go_simp; refine hK _ ?_; clear hK K
                refine walkT_do rfl (inKA.of HK7.out) (fun K hK => ?_)
                go_simp
                refine (HPT.out _).mono ?_
                rintro e w' ⟨rfl, rfl⟩
                refine hK _ _ ?_; clear hK K
                refine walkT_read rfl (fun K hK => ?_); go_simp; refine hK _ ?_; clear hK K
                have f0 := G7.out.1
                have f1 := G7.out.2.1
                have ff := G7.out.2.2.1
                refine walkT_do rfl (inKA.of HK7.out) (fun K hK => ?_)
                go_simp
                refine hK _ _ ?_; clear hK K
                have HY : Hid (SpotAt wr ((V7.setCell ⟨z, 0, none⟩ (.int .i64 (PN (mq : Int) i))).setCell ⟨z, 1, none⟩ (.int .i64 (mq : Int))) z (PN (mq : Int) i) mq) := Lib.hid (SpotAt.mk' HK7.out G7.out.2.2.2 f0 f1 ff)
                clear f0 f1 ff
                generalize (V7.setCell ⟨z, 0, none⟩ (.int .i64 (PN (mq : Int) i))).setCell ⟨z, 1, none⟩ (.int .i64 (mq : Int)) = Y at *
                refine ⟨inKA.of HY.out.k, ?_⟩
                exact ⟨z, HY.out, rfl⟩
              ·
                skip
                go_simp
                refine (HD2.out _).mono ?_
                rintro e V9 ⟨rfl, kk⟩
                refine hK _ _ ?_; clear hK K
                have HK9 := Lib.hid (HK5.out.trans kk)
                clear kk
                refine walkT_read rfl (fun K hK => ?_); go_simp; refine hK _ ?_; clear hK K
                refine walkT_two rfl rfl (inKA.of HK9.out) (fun K hK => ?_) (fun K hK => ?_)
                rotate_left
                ·
                  skip
                  go_simp
                  refine hK _ _ ?_; clear hK K
                  have HK10 : Hid (Keep (fun _ => False) wr (V9.alloc (.cells #[.int .i64 0, .int .i64 0] 145))) := Lib.hid (HK9.out.alloc _)
                  have G10 := Lib.hid (And.intro (two_cell V9 (.int .i64 0) (.int .i64 0) 145).1 (And.intro (two_cell V9 (.int .i64 0) (.int .i64 0) 145).2.1 (And.intro (two_cell V9 (.int .i64 0) (.int .i64 0) 145).2.2 HK9.out.size)))
                  generalize V9.alloc (.cells #[.int .i64 0, .int .i64 0] 145) = V10 at *
                  generalize V9.heap.size = z at *
                  refine walkT_do rfl (inKA.of HK10.out) (fun K hK => ?_)
                  go_simp
                  refine (HPT.out _).mono ?_
                  rintro e w' ⟨rfl, rfl⟩
                  refine hK _ _ ?_; clear hK K
                  refine walkT_read rfl (fun K hK => ?_); go_simp; refine hK _ ?_; clear hK K
                  have f0 := G10.out.1
                  have f1 := G10.out.2.1
                  have ff := G10.out.2.2.1
                  refine walkT_do rfl (inKA.of HK10.out) (fun K hK => ?_)
                  go_simp
                  refine hK _ _ ?_; clear hK K
                  have HY : Hid (SpotAt wr ((V10.setCell ⟨z, 0, none⟩ (.int .i64 (PN (mq : Int) i))).setCell ⟨z, 1, none⟩ (.int .i64 (mq : Int))) z (PN (mq : Int) i) mq) := Lib.hid (SpotAt.mk' HK10.out G10.out.2.2.2 f0 f1 ff)
                  clear f0 f1 ff
                  generalize (V10.setCell ⟨z, 0, none⟩ (.int .i64 (PN (mq : Int) i))).setCell ⟨z, 1, none⟩ (.int .i64 (mq : Int)) = Y at *
                  refine ⟨inKA.of HY.out.k, ?_⟩
                  exact ⟨z, HY.out, rfl⟩
                ·
                  skip
                  go_simp
                  refine (HPT.out _).mono ?_
                  rintro e w' ⟨rfl, rfl⟩
                  refine hK _ _ ?_; clear hK K
                  refine walkT_read rfl (fun K hK => ?_); go_simp; refine hK _ ?_; clear hK K
                  refine walkT_do rfl (inKA.of HK9.out) (fun K hK => ?_)
                  go_simp
                  refine hK _ _ ?_; clear hK K
                  have HK13 : Hid (Keep (fun _ => False) wr (V9.alloc (.cells #[.int .i64 0, .int .i64 0] 145))) := Lib.hid (HK9.out.alloc _)
                  have G13 := Lib.hid (And.intro (two_cell V9 (.int .i64 0) (.int .i64 0) 145).1 (And.intro (two_cell V9 (.int .i64 0) (.int .i64 0) 145).2.1 (And.intro (two_cell V9 (.int .i64 0) (.int .i64 0) 145).2.2 HK9.out.size)))
                  generalize V9.alloc (.cells #[.int .i64 0, .int .i64 0] 145) = V13 at *
                  generalize V9.heap.size = z at *
                  have f0 := G13.out.1
                  have f1 := G13.out.2.1
                  have ff := G13.out.2.2.1
                  refine walkT_do rfl (inKA.of HK13.out) (fun K hK => ?_)
                  go_simp
                  refine hK _ _ ?_; clear hK K
                  have HY : Hid (SpotAt wr ((V13.setCell ⟨z, 0, none⟩ (.int .i64 (PN (mq : Int) i))).setCell ⟨z, 1, none⟩ (.int .i64 (mq : Int))) z (PN (mq : Int) i) mq) := Lib.hid (SpotAt.mk' HK13.out G13.out.2.2.2 f0 f1 ff)
                  clear f0 f1 ff
                  generalize (V13.setCell ⟨z, 0, none⟩ (.int .i64 (PN (mq : Int) i))).setCell ⟨z, 1, none⟩ (.int .i64 (mq : Int)) = Y at *
                  refine ⟨inKA.of HY.out.k, ?_⟩
                  exact ⟨z, HY.out, rfl⟩
          ·
            rintro a' Y ⟨z, hy, rfl⟩
            have HY := Lib.hid hy
            have HOY := Lib.hid (HOW.out.keep hy.k)
            clear hy hd1 hd2 HD1 HD2 HPT
            obtain ⟨x, hx⟩ : ∃ x : Mk, (⟨PN (mq : Int) i, (mq : Int), (i : Int)⟩ : Mk) = x := ⟨_, rfl⟩
            have HX := Lib.hid hx
            have HX0 : Hid (PN (mq : Int) i = x.point) := Lib.hid (by rw [← hx])
            have HX1 : Hid ((mq : Int) = x.node) := Lib.hid (by rw [← hx])
            clear hx
            have HXC0 : Hid (Y.cell? ⟨z, 0, none⟩ = some (.int .i64 x.point)) := Lib.hid (by rw [← HX0.out]; exact HY.out.c0)
            have HXC1 : Hid (Y.cell? ⟨z, 1, none⟩ = some (.int .i64 x.node)) := Lib.hid (by rw [← HX1.out]; exact HY.out.c1)
            have HLEN : Hid (S.length ≤ 100000) := Lib.hid (by rw [HS.out.2.length_eq]; exact drawK_len HV.out)
            obtain ⟨q, hq⟩ : ∃ q, S.length = q := ⟨_, rfl⟩
            have HQ := Lib.hid hq
            obtain ⟨ua, uc, bo, hue, hua⟩ : ∃ (a : Option Addr) (c bo : Nat), u3 = .slice a q c ∧ (0 < q → a = some ⟨bo, 0, none⟩) := by
              rcases HOY.out.form with ⟨h1, h2⟩ | ⟨bo, co, h1⟩
              · exact ⟨none, 0, 0, by rw [h1, ← hq, h2]; rfl, fun h => by rw [← hq, h2] at h; simp at h⟩
              · exact ⟨_, co, bo, by rw [h1, hq], fun _ => rfl⟩
            subst hue
            have HUA := Lib.hid hua
            have hq5 : q ≤ 100000 := by rw [← hq]; exact HLEN.out
            clear hq hua
            go_wp2_with fail
            go_loopg [7] q (fun g3 v wr3 => ∃ (m : Nat), v = .int .i64 (g3 : Int) ∧ g3 ≤ q ∧ wr3 = Y.drewN m ∧ Hid (∀ y ∈ S.drop g3, x.point < y.point))
            case atStart => exact ⟨0, rfl, Nat.le_refl _, rfl, Lib.hid (fun y hy => by rw [List.drop_of_length_le (by rw [HQ.out]; exact Nat.le_refl _)] at hy; cases hy)⟩
            case round =>
              obtain ⟨m, rfl, hjq, rfl, HDP⟩ := hrel
              generalize gk = j at *
              have xc := HXC0.out
              by_cases hj0 : j = 0
              · have HTK : Hid (∀ y ∈ S.take j, y.point ≤ x.point) := Lib.hid (by rw [hj0]; simp)
                have HJD : Hid (decide (0 < j) = false) := Lib.hid (decide_eq_false (by omega))
                clear hj0
                go_upto_region 10 with (fail)
                refine wp_region_walk [(false, 0), (false, 1), (false, 2), (true, 3), (true, 4), (true, 5), (true, 6), (true, 7), (true, 8), (false, 9), (false, 10), (false, 11), (false, 12)] (inKA (fun _ => False) (Y.drewN m)) (by kernel_rfl) (by kernel_rfl) ?_
                have HKN : Hid (Keep (fun _ => False) (Y.drewN m) (Y.drewN m).drew) := Lib.hid (Keep.refl _ _).drew
                have HKN0 : Hid (Keep (fun _ => False) Y (Y.drewN m).drew) := Lib.hid (((Keep.refl (fun _ => False) Y).drewN m).drew)
                generalize (Y.drewN m).drew = Y2 at *
                refine walkW_do rfl (inKA.of HKN.out) (fun K hK => ?_); go_simp; refine hK _ _ ?_; clear hK K
                refine walkW_do rfl (inKA.of HKN.out) (fun K hK => ?_); go_simp; refine hK _ _ ?_; clear hK K
                rw [HJD.out]
                refine walkW_do rfl (inKA.of HKN.out) (fun K hK => ?_); go_simp; refine hK _ _ ?_; clear hK K
                iterate 6 (refine walkW_read rfl (fun K hK => ?_); go_simp; refine hK _ ?_; clear hK K)
                iterate 4 (refine walkW_do rfl (inKA.of HKN.out) (fun K hK => ?_); go_simp; refine hK _ _ ?_; clear hK K)
                refine ⟨inKA.of HKN.out, ?_⟩
                clear xc
                have HOY2 := Lib.hid (HOY.out.keep HKN0.out)
                have HKY2 := HKN0
                have x0 := HKY2.out.cell HXC0.out (fun h => h)
                have x1 := HKY2.out.cell HXC1.out (fun h => h)
                obtain ⟨g, gc', Y3, hr, hown3, kp, hg⟩ := HOY2.out.snoc x HLEN.out
                rw [HQ.out] at hr hown3
                have HR := Lib.hid hr
                have HOY3 := Lib.hid hown3
                have hzu : ∀ jj, (Value.slice ua q uc).ownBlock = some jj → jj < z := fun jj e => Nat.lt_of_lt_of_le (HOW.out.2.lt jj e).2 HY.out.lo
                have hgz : g ≠ z := by
                  rcases hg with hg | hg
                  · have := hzu g hg; omega
                  · have := World.block_lt_of_cell? _ _ x0; simp only [] at this; omega
                have HX30 := Lib.hid (kp.cell x0 (fun e => by have := hzu z e; omega))
                have HX31 := Lib.hid (kp.cell x1 (fun e => by have := hzu z e; omega))
                have HKY3 := Lib.hid kp
                clear hr hown3 kp hg
                go_wp2_with (at_builtin; refine wpList_app rfl (.tmp 59) (.tmp 61) 142 rfl rfl rfl HR.out ?_)
                clear x0 x1
                have hjz0 : (0 : Int) ≤ (j : Int) := by omega
                have hjq0 : (j : Int) ≤ (q : Int) := by omega
                have hj1 : (0 : Int) ≤ (j : Int) + 1 := by omega
                have hj2 : (j : Int) ≤ (q : Int) + 1 := by omega
                have hwj : IntKind.i64.wrap ((j : Int) + 1) = (j : Int) + 1 := wrapI (by unfold I64; omega)
                go_upto_region 13 with (fail)
                refine wp_region_walk [(true, 0), (true, 1), (true, 2), (true, 3), (true, 4), (false, 5), (false, 6), (false, 7)] (inKA (fun jj => jj = g) Y3) (by kernel_rfl) (by kernel_rfl) ?_
                have HKD : Hid (Keep (fun jj => jj = g) Y3 Y3.drew) := Lib.hid (Keep.refl _ Y3).drew
                have HKD0 : Hid (Keep (fun _ => False) Y3 Y3.drew) := Lib.hid (Keep.refl _ Y3).drew
                generalize Y3.drew = Y4 at *
                iterate 5 (refine walkW_read rfl (fun K hK => ?_); go_simp; refine hK _ ?_; clear hK K)
                iterate 2 (refine walkW_do rfl (inKA.of HKD.out) (fun K hK => ?_); go_simp; refine hK _ _ ?_; clear hK K)
                have HOY4 := Lib.hid (HOY3.out.keep HKD0.out)
                have hgc : q + 1 ≤ gc' := by
                  rcases HOY4.out.2.2 with ⟨e, _⟩ | ⟨g', c', cur, e, _, _, h1, _⟩
                  · cases e
                  · obtain ⟨_, _, e3⟩ := Value.slice.inj e
                    have h2 := HQ.out
                    rw [List.length_append, h2] at h1
                    have h3 : [x].length = 1 := rfl
                    omega
                have hown4 := HOY4.out.2
                rw [List.length_append, HQ.out] at hown4
                obtain ⟨Y5, hcp, hown5, kcp⟩ := copy_within (P := Tryz.prog) hown4 (flatS_cell _) 142 142 3 145 Tryz.underlying142 infoSp2
                  (if gc' = j + 1 then some ⟨g, 0, none⟩ else some ⟨g, (j + 1) * 2, none⟩) (if gc' = j then some ⟨g, 0, none⟩ else some ⟨g, j * 2, none⟩) (q - j) (gc' - (j + 1)) (q + 1 - j) (gc' - j) ((j + 1) * 2) (j * 2) (q - j) (by show min (q + 1 - j) (q - j) = q - j; omega)
                  (fun h => ⟨if_neg (by omega), if_neg (by omega)⟩) (by omega) (by omega)
                have HCP := Lib.hid hcp
                have HOWN5 := Lib.hid hown5
                have HKCP := Lib.hid kcp
                clear hcp hown5 kcp hown4
                refine walkW_do rfl (inKA.of HKD.out) (fun K hK => ?_)
                rw [if_pos (by simp [Region.wanted])]
                refine wp_cpy (.tmp 66) (.tmp 69) 142 rfl rfl rfl HCP.out (hK _ _ ?_); clear hK K
                refine ⟨inKA.of (HKD.out.trans HKCP.out), ?_⟩
                have hS5 : (flatS (S ++ [x])).take ((j + 1) * 2) ++ (((flatS (S ++ [x])).drop (j * 2)).take ((q - j) * 2) ++ (flatS (S ++ [x])).drop ((j + 1) * 2 + (q - j) * 2)) = flatS ((S ++ [x]).take (j + 1) ++ S.drop j) := by
                  unfold flatS
                  rw [flat_take encSp_len, flat_drop encSp_len, flat_take encSp_len, show (j + 1) * 2 + (q - j) * 2 = (q + 1) * 2 by omega, flat_drop encSp_len, List.flatMap_append, ← HQ.out, moved_eq S x (by rw [HQ.out]; omega), List.drop_of_length_le (l := S ++ [x]) (by simp)]
                  simp
                rw [hS5] at HOWN5
                clear hS5
                have x0 := HKCP.out.cell (HKD0.out.cell HX30.out (fun h => h)) (fun e => hgz e.symm)
                have x1 := HKCP.out.cell (HKD0.out.cell HX31.out (fun h => h)) (fun e => hgz e.symm)
                obtain ⟨s0, hs0⟩ : ∃ y, ((S ++ [x]).take (j + 1) ++ S.drop j)[j]? = some y := ⟨_, List.getElem?_eq_getElem (by have := HQ.out; simp only [List.length_append, List.length_take, List.length_drop, List.length_cons, List.length_nil]; omega)⟩
                have HS0 := Lib.hid hs0
                have hcl5 : (S.length + [x].length) = q + 1 := by rw [HQ.out]; rfl
                have g0 : Y5.cell? ⟨g, j * 2, none⟩ = some (.int .i64 s0.point) := by
                  rw [HOWN5.out.cellAt (j * 2) (by omega)]
                  exact flat_get encSp_len _ j s0 0 hs0 (by decide)
                have g1 : Y5.cell? ⟨g, j * 2 + 1, none⟩ = some (.int .i64 s0.node) := by
                  rw [HOWN5.out.cellAt (j * 2 + 1) (by omega)]
                  exact flat_get encSp_len _ j s0 1 hs0 (by decide)
                have gf : ∀ o, Y5.frozen? ⟨g, o, none⟩ = false := fun o => HOWN5.out.frozenAt o
                clear hs0
                have hjq1 : (j : Int) < (q : Int) + 1 := by omega
                clear hcl5
                generalize (if gc' = j + 1 then (some ⟨g, 0, none⟩ : Option Addr) else some ⟨g, (j + 1) * 2, none⟩) = adp at *
                generalize (if gc' = j then (some ⟨g, 0, none⟩ : Option Addr) else some ⟨g, j * 2, none⟩) = asp at *
                go_wp2_with fail
                clear x0 x1 g0 g1 gf
                go_roundg (4 * wq - (i + 1))
                case rel =>
                  have hlen : (S.take j ++ x :: S.drop j).length = q + 1 := by
                    have := HQ.out
                    simp only [List.length_append, List.length_take, List.length_cons, List.length_drop]
                    omega
                  have hst : ((flatS ((S ++ [x]).take (j + 1) ++ S.drop j)).set (j * 2) (.int .i64 x.point)).set (j * 2 + 1) (.int .i64 x.node) = flatS (S.take j ++ x :: S.drop j) := by
                    have e1 : (((S ++ [x]).take (j + 1) ++ S.drop j).flatMap encSp).set (j * 2) (.int .i64 x.point) = (((S ++ [x]).take (j + 1) ++ S.drop j).set j ⟨x.point, s0.node, x.i⟩).flatMap encSp := flat_set encSp_len (r := 0) (u := .int .i64 x.point) (by decide) _ j s0 ⟨x.point, s0.node, x.i⟩ HS0.out rfl
                    have h2 : (((S ++ [x]).take (j + 1) ++ S.drop j).set j ⟨x.point, s0.node, x.i⟩)[j]? = some ⟨x.point, s0.node, x.i⟩ := List.getElem?_set_self (List.getElem?_eq_some_iff.1 HS0.out).1
                    have e2 := flat_set encSp_len (r := 1) (u := .int .i64 x.node) (by decide) _ j _ x h2 rfl
                    unfold flatS
                    rw [e1, e2, List.set_set, ins_moved S x (by rw [HQ.out]; exact hjq)]
                  have h1 := ((HOWN5.out.stored (j * 2) (.int .i64 x.point)).1.stored (j * 2 + 1) (.int .i64 x.node)).1
                  rw [hst] at h1
                  have hgw : w.heap.size ≤ g := (HOY3.out.2.lt g rfl).1
                  refine ⟨i + 1, S.take j ++ x :: S.drop j, by omega, by go_num, ⟨(HOY3.out.1.trans HKD0.out).trans' ((HKCP.out.setCell (p := ⟨g, j * 2, none⟩) _ (.inl rfl)).setCell (p := ⟨g, j * 2 + 1, none⟩) _ (.inl rfl)) (fun jj e => .inr (by omega)), ?_⟩, Lib.hid ⟨?_, ?_⟩⟩
                  · rw [hlen]; exact h1
                  · exact ins_at HS.out.1 (fun y hy => by rw [← HX.out]; exact drawK_lt HV.out HM.out y (HS.out.2.mem_iff.1 hy)) HTK.out HDP.out
                  · rw [drawK_succ HM.out (by simp only [Int.toNat_natCast]; exact hil), HX.out]
                    exact (ins_perm S x j).trans (HS.out.2.append_right _)
                case measure => omega
              · obtain ⟨p, hjp⟩ : ∃ p, j = p + 1 := ⟨j - 1, by omega⟩
                clear hj0
                obtain ⟨y, hy⟩ : ∃ y, S[p]? = some y := ⟨_, List.getElem?_eq_getElem (by rw [HQ.out]; omega)⟩
                have hjz : 0 < j := by omega
                have ek : (j : Int) - 1 = (p : Int) := by omega
                have hwk : IntKind.i64.wrap (p : Int) = (p : Int) := wrapI (by unfold I64; omega)
                obtain rfl := HUA.out (by omega)
                have hp0 : (0 : Int) ≤ (p : Int) := by omega
                have hpq : (p : Int) < (q : Int) := by omega
                have yc : Y.cell? ⟨bo, p * 2, none⟩ = some (.int .i64 y.point) := by
                  have h1 := HOY.out.2
                  rw [HQ.out] at h1
                  rw [h1.cellAt (p * 2) (by omega)]
                  exact flat_get encSp_len S p y 0 hy (by decide)
                have HJP := Lib.hid hjp
                have HYS := Lib.hid hy
                clear hy hjp
                by_cases hgt : x.point < y.point
                · have HDN : Hid (∀ y ∈ S.drop p, x.point < y.point) := Lib.hid (fun y' hy' => by
                    rw [List.drop_eq_getElem_cons (by rw [HQ.out]; omega)] at hy'
                    rcases List.mem_cons.1 hy' with rfl | hy'
                    · obtain ⟨_, e⟩ := List.getElem?_eq_some_iff.1 HYS.out
                      rw [e]; exact hgt
                    · rw [← HJP.out] at hy'; exact HDP.out y' hy')
                  go_wp2_with fail
                  go_quiet (fail)
                  go_wp2_with fail
                  go_roundg p
                  case rel => exact ⟨_, by go_num, by have := HJP.out; omega, by first | rfl | exact World.drewN_drewN _ _ _, HDN⟩
                  case measure => have := HJP.out; omega
                · have HTK : Hid (∀ y ∈ S.take j, y.point ≤ x.point) := Lib.hid (fun y' hy' => by
                    obtain ⟨a1, ha1⟩ := List.mem_iff_getElem?.1 hy'
                    have hlt1 : a1 < j := by have := (List.getElem?_eq_some_iff.1 ha1).1; rw [List.length_take] at this; omega
                    rw [List.getElem?_take_of_lt hlt1] at ha1
                    have := sorted_points HS.out.1 ha1 HYS.out (by have := HJP.out; omega)
                    omega)
                  go_wp2_with fail
                  go_quiet (fail)
                  clear xc
                  have HOY2 := Lib.hid (HOY.out.keep (((Keep.refl (fun _ => False) Y).drewN m).drewN nq))
                  have HKY2 : Hid (Keep (fun _ => False) Y ((Y.drewN m).drewN nq)) := Lib.hid (((Keep.refl (fun _ => False) Y).drewN m).drewN nq)
                  generalize (Y.drewN m).drewN nq = Y2 at *
                  have x0 := HKY2.out.cell HXC0.out (fun h => h)
                  have x1 := HKY2.out.cell HXC1.out (fun h => h)
                  obtain ⟨g, gc', Y3, hr, hown3, kp, hg⟩ := HOY2.out.snoc x HLEN.out
                  rw [HQ.out] at hr hown3
                  have HR := Lib.hid hr
                  have HOY3 := Lib.hid hown3
                  have hzu : ∀ jj, (Value.slice (some ⟨bo, 0, none⟩) q uc).ownBlock = some jj → jj < z := fun jj e => Nat.lt_of_lt_of_le (HOW.out.2.lt jj e).2 HY.out.lo
                  have hgz : g ≠ z := by
                    rcases hg with hg | hg
                    · have := hzu g hg; omega
                    · have := World.block_lt_of_cell? _ _ x0; simp only [] at this; omega
                  have HX30 := Lib.hid (kp.cell x0 (fun e => by have := hzu z e; omega))
                  have HX31 := Lib.hid (kp.cell x1 (fun e => by have := hzu z e; omega))
                  have HKY3 := Lib.hid kp
                  clear hr hown3 kp hg
                  go_wp2_with (at_builtin; refine wpList_app rfl (.tmp 59) (.tmp 61) 142 rfl rfl rfl HR.out ?_)
                  clear x0 x1
                  have hjz0 : (0 : Int) ≤ (j : Int) := by omega
                  have hjq0 : (j : Int) ≤ (q : Int) := by omega
                  have hj1 : (0 : Int) ≤ (j : Int) + 1 := by omega
                  have hj2 : (j : Int) ≤ (q : Int) + 1 := by omega
                  have hwj : IntKind.i64.wrap ((j : Int) + 1) = (j : Int) + 1 := wrapI (by unfold I64; omega)
                  go_upto_region 13 with (fail)
                  refine wp_region_walk [(true, 0), (true, 1), (true, 2), (true, 3), (true, 4), (false, 5), (false, 6), (false, 7)] (inKA (fun jj => jj = g) Y3) (by kernel_rfl) (by kernel_rfl) ?_
                  have HKD : Hid (Keep (fun jj => jj = g) Y3 Y3.drew) := Lib.hid (Keep.refl _ Y3).drew
                  have HKD0 : Hid (Keep (fun _ => False) Y3 Y3.drew) := Lib.hid (Keep.refl _ Y3).drew
                  generalize Y3.drew = Y4 at *
                  iterate 5 (refine walkW_read rfl (fun K hK => ?_); go_simp; refine hK _ ?_; clear hK K)
                  iterate 2 (refine walkW_do rfl (inKA.of HKD.out) (fun K hK => ?_); go_simp; refine hK _ _ ?_; clear hK K)
                  have HOY4 := Lib.hid (HOY3.out.keep HKD0.out)
                  have hgc : q + 1 ≤ gc' := by
                    rcases HOY4.out.2.2 with ⟨e, _⟩ | ⟨g', c', cur, e, _, _, h1, _⟩
                    · cases e
                    · obtain ⟨_, _, e3⟩ := Value.slice.inj e
                      have h2 := HQ.out
                      rw [List.length_append, h2] at h1
                      have h3 : [x].length = 1 := rfl
                      omega
                  have hown4 := HOY4.out.2
                  rw [List.length_append, HQ.out] at hown4
                  obtain ⟨Y5, hcp, hown5, kcp⟩ := copy_within (P := Tryz.prog) hown4 (flatS_cell _) 142 142 3 145 Tryz.underlying142 infoSp2
                    (if gc' = j + 1 then some ⟨g, 0, none⟩ else some ⟨g, (j + 1) * 2, none⟩) (if gc' = j then some ⟨g, 0, none⟩ else some ⟨g, j * 2, none⟩) (q - j) (gc' - (j + 1)) (q + 1 - j) (gc' - j) ((j + 1) * 2) (j * 2) (q - j) (by show min (q + 1 - j) (q - j) = q - j; omega)
                    (fun h => ⟨if_neg (by omega), if_neg (by omega)⟩) (by omega) (by omega)
                  have HCP := Lib.hid hcp
                  have HOWN5 := Lib.hid hown5
                  have HKCP := Lib.hid kcp
                  clear hcp hown5 kcp hown4
                  refine walkW_do rfl (inKA.of HKD.out) (fun K hK => ?_)
                  rw [if_pos (by simp [Region.wanted])]
                  refine wp_cpy (.tmp 66) (.tmp 69) 142 rfl rfl rfl HCP.out (hK _ _ ?_); clear hK K
                  refine ⟨inKA.of (HKD.out.trans HKCP.out), ?_⟩
                  have hS5 : (flatS (S ++ [x])).take ((j + 1) * 2) ++ (((flatS (S ++ [x])).drop (j * 2)).take ((q - j) * 2) ++ (flatS (S ++ [x])).drop ((j + 1) * 2 + (q - j) * 2)) = flatS ((S ++ [x]).take (j + 1) ++ S.drop j) := by
                    unfold flatS
                    rw [flat_take encSp_len, flat_drop encSp_len, flat_take encSp_len, show (j + 1) * 2 + (q - j) * 2 = (q + 1) * 2 by omega, flat_drop encSp_len, List.flatMap_append, ← HQ.out, moved_eq S x (by rw [HQ.out]; omega), List.drop_of_length_le (l := S ++ [x]) (by simp)]
                    simp
                  rw [hS5] at HOWN5
                  clear hS5
                  have x0 := HKCP.out.cell (HKD0.out.cell HX30.out (fun h => h)) (fun e => hgz e.symm)
                  have x1 := HKCP.out.cell (HKD0.out.cell HX31.out (fun h => h)) (fun e => hgz e.symm)
                  obtain ⟨s0, hs0⟩ : ∃ y, ((S ++ [x]).take (j + 1) ++ S.drop j)[j]? = some y := ⟨_, List.getElem?_eq_getElem (by have := HQ.out; simp only [List.length_append, List.length_take, List.length_drop, List.length_cons, List.length_nil]; omega)⟩
                  have HS0 := Lib.hid hs0
                  have hcl5 : (S.length + [x].length) = q + 1 := by rw [HQ.out]; rfl
                  have g0 : Y5.cell? ⟨g, j * 2, none⟩ = some (.int .i64 s0.point) := by
                    rw [HOWN5.out.cellAt (j * 2) (by omega)]
                    exact flat_get encSp_len _ j s0 0 hs0 (by decide)
                  have g1 : Y5.cell? ⟨g, j * 2 + 1, none⟩ = some (.int .i64 s0.node) := by
                    rw [HOWN5.out.cellAt (j * 2 + 1) (by omega)]
                    exact flat_get encSp_len _ j s0 1 hs0 (by decide)
                  have gf : ∀ o, Y5.frozen? ⟨g, o, none⟩ = false := fun o => HOWN5.out.frozenAt o
                  clear hs0
                  have hjq1 : (j : Int) < (q : Int) + 1 := by omega
                  clear hcl5
                  generalize (if gc' = j + 1 then (some ⟨g, 0, none⟩ : Option Addr) else some ⟨g, (j + 1) * 2, none⟩) = adp at *
                  generalize (if gc' = j then (some ⟨g, 0, none⟩ : Option Addr) else some ⟨g, j * 2, none⟩) = asp at *
                  go_wp2_with fail
                  clear x0 x1 g0 g1 gf
                  go_roundg (4 * wq - (i + 1))
                  case rel =>
                    have hlen : (S.take j ++ x :: S.drop j).length = q + 1 := by
                      have := HQ.out
                      simp only [List.length_append, List.length_take, List.length_cons, List.length_drop]
                      omega
                    have hst : ((flatS ((S ++ [x]).take (j + 1) ++ S.drop j)).set (j * 2) (.int .i64 x.point)).set (j * 2 + 1) (.int .i64 x.node) = flatS (S.take j ++ x :: S.drop j) := by
                      have e1 : (((S ++ [x]).take (j + 1) ++ S.drop j).flatMap encSp).set (j * 2) (.int .i64 x.point) = (((S ++ [x]).take (j + 1) ++ S.drop j).set j ⟨x.point, s0.node, x.i⟩).flatMap encSp := flat_set encSp_len (r := 0) (u := .int .i64 x.point) (by decide) _ j s0 ⟨x.point, s0.node, x.i⟩ HS0.out rfl
                      have h2 : (((S ++ [x]).take (j + 1) ++ S.drop j).set j ⟨x.point, s0.node, x.i⟩)[j]? = some ⟨x.point, s0.node, x.i⟩ := List.getElem?_set_self (List.getElem?_eq_some_iff.1 HS0.out).1
                      have e2 := flat_set encSp_len (r := 1) (u := .int .i64 x.node) (by decide) _ j _ x h2 rfl
                      unfold flatS
                      rw [e1, e2, List.set_set, ins_moved S x (by rw [HQ.out]; exact hjq)]
                    have h1 := ((HOWN5.out.stored (j * 2) (.int .i64 x.point)).1.stored (j * 2 + 1) (.int .i64 x.node)).1
                    rw [hst] at h1
                    have hgw : w.heap.size ≤ g := (HOY3.out.2.lt g rfl).1
                    refine ⟨i + 1, S.take j ++ x :: S.drop j, by omega, by go_num, ⟨(HOY3.out.1.trans HKD0.out).trans' ((HKCP.out.setCell (p := ⟨g, j * 2, none⟩) _ (.inl rfl)).setCell (p := ⟨g, j * 2 + 1, none⟩) _ (.inl rfl)) (fun jj e => .inr (by omega)), ?_⟩, Lib.hid ⟨?_, ?_⟩⟩
                    · rw [hlen]; exact h1
                    · exact ins_at HS.out.1 (fun y hy => by rw [← HX.out]; exact drawK_lt HV.out HM.out y (HS.out.2.mem_iff.1 hy)) HTK.out HDP.out
                    · rw [drawK_succ HM.out (by simp only [Int.toNat_natCast]; exact hil), HX.out]
                      exact (ins_perm S x j).trans (HS.out.2.append_right _)
                  case measure => omega
        · obtain rfl : i = 4 * wq := by omega
          have hig : ¬ ((4 * wq : Nat) : Int) < 4 * (wq : Int) := by omega
          go_wp2_with fail
          go_roundg (n - (k + 1))
          case rel => exact ⟨k + 1, S, by have := HKK.out; omega, by go_num, HOW.out, Lib.hid ⟨HS.out.1, by have h := HS.out.2; rw [show 4 * wq = 4 * ((wq : Int)).toNat by rw [Int.toNat_natCast], drawK_next HM.out] at h; exact h⟩⟩
          case measure => have := HKK.out; omega
    · obtain rfl : k = n := by omega
      have HE : Hid (S = circ PN l) := Lib.hid (circ_uniq PN HV.out.asc (by rw [← drawK_all (l := l) (k := k) (by have := HL.out; omega)]; exact HS.out.2) HS.out.1)
      go_wp2_with fail
      go_ret
      exact ⟨_, rfl, by rw [← HE.out]; exact HOW.out⟩
end Go.Proofs.YtplkmbfeeegaiaaGreatDoor

/-
  The reference's order of nodes, clockwise from a point.
-/
namespace Go.Proofs.YtplkmbfeeegaiaaGreatDoor
open Go.RowKit Go.Shelf

/-- Numbers in a slice of their own. -/
def OwnI (w : World) (l : List Int) (v : Value) (W : World) : Prop := Keep (fun _ => False) w W ∧ W.ownsRow w.heap.size 3 1 v l.length (l.map (fun x => Value.int .i64 x))
theorem OwnI.nil {w W : World} (k : Keep (fun _ => False) w W) : OwnI w [] (.slice none 0 0) W := ⟨k, by simpa using World.ownsRow_nil W w.heap.size 3 1⟩
theorem OwnI.keep {w W W' : World} {l : List Int} {v : Value} (h : OwnI w l v W) (k : Keep (fun _ => False) W W') : OwnI w l v W' := ⟨h.1.trans k, ownsRow_keep h.2 k (fun _ _ h => h)⟩
theorem OwnI.snoc {w W : World} {l : List Int} {v : Value} (h : OwnI w l v W) (x : Int) (hl : l.length ≤ 100000) :
    ∃ v' w', (Builtin.append_ #[22, 22] 22 #[v, .slice (some ⟨W.heap.size, 0, none⟩) 1 1]).run Tryz.prog (W.alloc (.cells #[.int .i64 x] 3)) = .ok v' w' ∧ OwnI w (l ++ [x]) v' w' ∧ Keep (fun j => v.ownBlock = some j) W w' ∧ (v'.ownBlock = v.ownBlock ∨ v'.ownBlock = some (W.heap.size + 1)) := by
  obtain ⟨v', w', r1, r2, r3, r4, g, c, r5⟩ := app_one 22 3 1 8 _ Tryz.underlying22 infoInt rfl (by decide) (by decide) W 22 w.heap.size v l.length (l.map (fun x => Value.int .i64 x)) [.int .i64 x] h.2 rfl (by simp [Value.oneCell']) (by omega) h.1.size
  refine ⟨v', w', r1, ⟨h.1.trans' r3 (fun j e => .inr (h.2.lt j e).1), ?_⟩, r3, r4⟩
  rw [List.map_append, List.length_append]
  exact r2
/-- More numbers, out of another slice of its own. -/
theorem OwnI.more {w W : World} {l l' : List Int} {v v2 : Value} (h : OwnI w l v W) (h2 : OwnI w l' v2 W) (hl : l.length + l'.length ≤ 100000) :
    ∃ v' w', (Builtin.append_ #[22, 22] 22 #[v, v2]).run Tryz.prog W = .ok v' w' ∧ OwnI w (l ++ l') v' w' ∧ Keep (fun j => v.ownBlock = some j) W w' := by
  obtain ⟨i0, hi, hz0, hz1, hz2⟩ := info_parts infoInt
  have h2' := h2
  rcases h2.2.2 with ⟨rfl, e0⟩ | ⟨g, c, cur, rfl, _⟩
  · have : l' = [] := List.eq_nil_of_length_eq_zero e0
    subst this
    exact ⟨v, W, run_append_owned_none W w.heap.size 22 22 3 i0 1 Tryz.underlying22 hi v l.length _ h.2, by rw [List.append_nil]; exact h, Keep.refl _ W⟩
  · obtain ⟨v', w', r1, r2, r3, r4, r5⟩ := run_append_own_at (P := Tryz.prog) W w.heap.size 22 22 3 i0 _ 1 8 Tryz.underlying22 hi hz0 hz1 hz2 rfl (by decide) v l.length _ h.2 ⟨g, 0, none⟩ l'.length c (l'.map (fun x => Value.int .i64 x)) (by simp)
      (fun j u hj => h2'.2.cells rfl j u hj)
      (by
        intro u hu
        obtain ⟨x, _, rfl⟩ := List.mem_map.1 hu
        rfl) (by unfold maxLen; omega) (by omega) h.1.size
    refine ⟨v', w', r1, ⟨h.1.trans' (Keep.of_grown r3) (fun j e => .inr (h.2.lt j e).1), ?_⟩, Keep.of_grown r3⟩
    rw [List.map_append, List.length_append]
    exact r2
theorem OwnI.slice {w W : World} {l : List Int} {v : Value} (h : OwnI w l v W) : ∃ a n c, v = .slice a n c ∧ n = l.length := by
  rcases h.2.2 with ⟨h1, h2⟩ | ⟨g, c, cur, h1, _⟩
  · exact ⟨_, _, _, h1, h2.symm⟩
  · exact ⟨_, _, _, h1, rfl⟩

/-- The first i points: those from p on, and those below. -/
def hiN (c : List Mk) (p : Int) (i : Nat) : List Int := ((c.take i).filter (fun x => decide (p ≤ x.point))).map Mk.node
def loN (c : List Mk) (p : Int) (i : Nat) : List Int := ((c.take i).filter (fun x => decide (x.point < p))).map Mk.node
theorem hiN_zero (c : List Mk) (p : Int) : hiN c p 0 = [] := by simp [hiN]
theorem loN_zero (c : List Mk) (p : Int) : loN c p 0 = [] := by simp [loN]
theorem hiN_succ {c : List Mk} {p : Int} {i : Nat} {x : Mk} (h : c[i]? = some x) : hiN c p (i + 1) = hiN c p i ++ (if p ≤ x.point then [x.node] else []) := by
  unfold hiN
  rw [List.take_add_one, h, List.filter_append, List.map_append]
  by_cases e : p ≤ x.point <;> simp [e]
theorem loN_succ {c : List Mk} {p : Int} {i : Nat} {x : Mk} (h : c[i]? = some x) : loN c p (i + 1) = loN c p i ++ (if x.point < p then [x.node] else []) := by
  unfold loN
  rw [List.take_add_one, h, List.filter_append, List.map_append]
  by_cases e : x.point < p <;> simp [e]
theorem hiN_len (c : List Mk) (p : Int) (i : Nat) : (hiN c p i).length ≤ c.length := by
  unfold hiN
  rw [List.length_map]
  exact Nat.le_trans (List.length_filter_le _ _) (by rw [List.length_take]; omega)
theorem loN_len (c : List Mk) (p : Int) (i : Nat) : (loN c p i).length ≤ c.length := by
  unfold loN
  rw [List.length_map]
  exact Nat.le_trans (List.length_filter_le _ _) (by rw [List.length_take]; omega)
theorem ords_hilo (l : List Mb) (p : Int) {i : Nat} (hi : (circ PN l).length ≤ i) : ords PN l p = hiN (circ PN l) p i ++ loN (circ PN l) p i := by
  unfold ords rot hiN loN
  rw [List.take_of_length_le hi, List.map_append]
theorem circ_len {l : List Mb} (hv : VL l) : (circ PN l).length ≤ 1536 := by
  have h1 := draws_len PN l hv.ok
  have h2 := hv.wsum
  have h3 := (sortMk_perm (draws PN l)).length_eq
  unfold circ
  omega

set_option maxRecDepth 100000 in
set_option maxHeartbeats 4000000 in
theorem clockwise_any (v : Value) (l : List Mb) (p : Int) (w : World) (h : Mbs w v l) (hv : VL l) : Calls Tryz.prog 77 #[v, .int .i64 p] w fun e w' => ∃ vo, e = .returned vo ∧ OwnI w (ords PN l p) vo w' := by
  have HSP := Lib.hid (spots_any v l w h hv)
  have HCL := Lib.hid (circ_len hv)
  obtain ⟨va, vn, vc, rfl⟩ : ∃ a n c, v = .slice a n c := by
    obtain ⟨a, c, b, off, h1, _⟩ := h.at_
    exact ⟨_, _, _, h1⟩
  clear h hv
  go_enter Tryz.func77, Tryz.ntmps77
  go_wp2_with fail
  with_reducible refine HSP.out.mono ?_
  rintro e W1 ⟨vs, rfl, hos⟩
  have HO := Lib.hid hos
  clear hos HSP
  obtain ⟨c, hc⟩ : ∃ c, circ PN l = c := ⟨_, rfl⟩
  have HC := Lib.hid hc
  rw [hc] at HO HCL
  clear hc
  obtain ⟨sa, sc, sb, hse, hsa⟩ : ∃ (a : Option Addr) (cc b : Nat), vs = .slice a c.length cc ∧ (0 < c.length → a = some ⟨b, 0, none⟩) := by
    rcases HO.out.form with ⟨h1, h2⟩ | ⟨b, cc, h1⟩
    · exact ⟨none, 0, 0, by rw [h1, h2]; rfl, fun h => by rw [h2] at h; simp at h⟩
    · exact ⟨_, cc, b, h1, fun _ => rfl⟩
  subst hse
  have HSA := Lib.hid hsa
  clear hsa
  obtain ⟨n, hn⟩ : ∃ n, c.length = n := ⟨_, rfl⟩
  have HN := Lib.hid hn
  rw [hn] at HSA HCL ⊢
  have hn2 : n ≤ 1536 := HCL.out
  clear hn
  go_wp2_with fail
  go_loopg [6, 7, 8] n (fun gh v6 v7 v8 wr => ∃ (i : Nat), gh + i = n ∧ v8 = .int .i64 i ∧ OwnI W1 (hiN c p i) v6 wr ∧ OwnI W1 (loN c p i) v7 wr ∧ (∀ b, v6.ownBlock = some b → v7.ownBlock ≠ some b))
  case atStart => exact ⟨0, by omega, rfl, by rw [hiN_zero]; exact OwnI.nil (Keep.refl _ _), by rw [loN_zero]; exact OwnI.nil (Keep.refl _ _), fun b hb => by cases hb⟩
  case round =>
    obtain ⟨i, hi, rfl, h1, h2, hne⟩ := hrel
    have H1 := Lib.hid h1
    have H2 := Lib.hid h2
    have HNE := Lib.hid hne
    clear h1 h2 hne
    by_cases hlt : i < n
    · obtain ⟨x, hx⟩ : ∃ x, c[i]? = some x := ⟨_, List.getElem?_eq_getElem (by rw [HN.out]; exact hlt)⟩
      obtain rfl := HSA.out (by omega)
      have hcx0 : W1.cell? ⟨sb, i * 2, none⟩ = some (.int .i64 x.point) := by
        have h3 := HO.out.2
        rw [HN.out] at h3
        rw [h3.cellAt (i * 2) (by omega)]
        exact flat_get encSp_len c i x 0 hx (by decide)
      have hcx1 : W1.cell? ⟨sb, i * 2 + 1, none⟩ = some (.int .i64 x.node) := by
        have h3 := HO.out.2
        rw [HN.out] at h3
        rw [h3.cellAt (i * 2 + 1) (by omega)]
        exact flat_get encSp_len c i x 1 hx (by decide)
      have c0 := H1.out.1.cell hcx0 (fun h => h)
      have c1 := H1.out.1.cell hcx1 (fun h => h)
      have HHS := Lib.hid (hiN_succ (p := p) hx)
      have HLS := Lib.hid (loN_succ (p := p) hx)
      have HL1 := Lib.hid (hiN_len c p i)
      have HL2 := Lib.hid (loN_len c p i)
      have hkz : (i : Int) < (n : Int) := by omega
      have hk0 : (0 : Int) ≤ (i : Int) := by omega
      clear hx hcx0 hcx1
      obtain ⟨xp, xn, xi⟩ := x
      simp only [] at c0 c1 HHS HLS
      by_cases hp : p ≤ xp
      · have HHS' : Hid (hiN c p (i + 1) = hiN c p i ++ [xn]) := Lib.hid (by rw [HHS.out, if_pos hp])
        have HLS' : Hid (loN c p (i + 1) = loN c p i) := Lib.hid (by rw [HLS.out, if_neg (by omega), List.append_nil])
        obtain ⟨v', W2, hr, how2, hk2, hob⟩ := H1.out.snoc xn (by have := HL1.out; have := HN.out; omega)
        have HR := Lib.hid hr
        have HN1 : Hid (OwnI W1 (hiN c p (i + 1)) v' W2) := Lib.hid (by rw [HHS'.out]; exact how2)
        have HN2 : Hid (OwnI W1 (loN c p (i + 1)) u7 W2) := Lib.hid (by
          rw [HLS'.out]
          exact ⟨how2.1, ownsRow_keep H2.out.2 hk2 (fun b hb e => HNE.out b e hb)⟩)
        have HNE2 : Hid (∀ b, v'.ownBlock = some b → u7.ownBlock ≠ some b) := Lib.hid (fun b hb e => by
          rcases hob with hob | hob
          · exact HNE.out b (hob ▸ hb) e
          · rw [hob] at hb
            cases hb
            have := (H2.out.2.lt _ e).2
            omega)
        clear hr how2 hk2 hob
        go_wp2_with (at_builtin; refine wpList_app rfl (.tmp 24) (.tmp 30) 22 rfl rfl rfl HR.out ?_)
        clear c0 c1
        go_roundg (gk - 1)
        case rel => exact ⟨i + 1, by omega, by go_num, HN1.out, HN2.out, HNE2.out⟩
        case measure => omega
      · have HHS' : Hid (hiN c p (i + 1) = hiN c p i) := Lib.hid (by rw [HHS.out, if_neg hp, List.append_nil])
        have HLS' : Hid (loN c p (i + 1) = loN c p i ++ [xn]) := Lib.hid (by rw [HLS.out, if_pos (by omega)])
        obtain ⟨v', W2, hr, how2, hk2, hob⟩ := H2.out.snoc xn (by have := HL2.out; have := HN.out; omega)
        have HR := Lib.hid hr
        have HN2 : Hid (OwnI W1 (loN c p (i + 1)) v' W2) := Lib.hid (by rw [HLS'.out]; exact how2)
        have HN1 : Hid (OwnI W1 (hiN c p (i + 1)) u6 W2) := Lib.hid (by
          rw [HHS'.out]
          exact ⟨how2.1, ownsRow_keep H1.out.2 hk2 (fun b hb e => HNE.out b hb e)⟩)
        have HNE2 : Hid (∀ b, u6.ownBlock = some b → v'.ownBlock ≠ some b) := Lib.hid (fun b hb e => by
          rcases hob with hob | hob
          · exact HNE.out b hb (hob ▸ e)
          · rw [hob] at e
            cases e
            have := (H1.out.2.lt _ hb).2
            omega)
        clear hr how2 hk2 hob
        go_wp2_with (at_builtin; refine wpList_app rfl (.tmp 32) (.tmp 38) 22 rfl rfl rfl HR.out ?_)
        clear c0 c1
        go_roundg (gk - 1)
        case rel => exact ⟨i + 1, by omega, by go_num, HN1.out, HN2.out, HNE2.out⟩
        case measure => omega
    · obtain rfl : i = n := by omega
      obtain ⟨v', W2, hr, how2, hk2⟩ := H1.out.more H2.out (by have := hiN_len c p i; have := loN_len c p i; have := HN.out; omega)
      have HR := Lib.hid hr
      have HE : Hid (OwnI w (ords PN l p) v' W2) := Lib.hid (by
        rw [ords_hilo l p (i := i) (by rw [HC.out, HN.out]; exact Nat.le_refl _), HC.out]
        exact ⟨HO.out.1.trans how2.1, ownsRow_lo how2.2 HO.out.1.size⟩)
      clear hr how2 hk2
      go_wp2_with (at_builtin; refine wpList_app rfl (.tmp 40) (.tmp 41) 22 rfl rfl rfl HR.out ?_)
      go_ret
      exact ⟨_, rfl, HE.out⟩
end Go.Proofs.YtplkmbfeeegaiaaGreatDoor

/-
  Candidates in a slice of their own; their sort.
-/
namespace Go.Proofs.YtplkmbfeeegaiaaGreatDoor
open Go.RowKit Go.Shelf
open Go.Sort (grow)

def flatC (l : List Cd) : List Value := l.flatMap encCd
theorem flatC_append (a b : List Cd) : flatC (a ++ b) = flatC a ++ flatC b := by unfold flatC; rw [List.flatMap_append]
theorem flatC_one (x : Cd) : flatC [x] = encCd x := by simp [flatC]
theorem encCd_len (x : Cd) : (encCd x).length = 4 := rfl
/-- Candidates in a slice of their own. -/
def OwnC (w : World) (l : List Cd) (v : Value) (W : World) : Prop := Keep (fun _ => False) w W ∧ W.ownsRow w.heap.size 150 4 v l.length (flatC l)
theorem OwnC.nil {w W : World} (k : Keep (fun _ => False) w W) : OwnC w [] (.slice none 0 0) W := ⟨k, by simpa [flatC] using World.ownsRow_nil W w.heap.size 150 4⟩
theorem OwnC.keep {w W W' : World} {l : List Cd} {v : Value} (h : OwnC w l v W) (k : Keep (fun _ => False) W W') : OwnC w l v W' := ⟨h.1.trans k, ownsRow_keep h.2 k (fun _ _ h => h)⟩
theorem OwnC.form {w W : World} {l : List Cd} {v : Value} (h : OwnC w l v W) : v = .slice none 0 0 ∨ ∃ b n c, v = .slice (some ⟨b, 0, none⟩) n c := by
  rcases h.2.2 with ⟨rfl, _⟩ | ⟨g', cap, cur, rfl, _⟩
  · exact .inl rfl
  · exact .inr ⟨_, _, _, rfl⟩
theorem infoCd : (Tryz.prog.info? 150).map (fun i => (i.zero, i.size, i.bytes)) = some (some (.agg #[.int .i64 0, .int .i64 0, .int .i64 0, .int .i64 0]), 4, 32) := by kernel_rfl
theorem OwnC.snoc {w W : World} {l : List Cd} {v : Value} (h : OwnC w l v W) (x : Cd) (hl : l.length ≤ 100000) :
    ∃ v' w', (Builtin.append_ #[147, 147] 147 #[v, .slice (some ⟨W.heap.size, 0, none⟩) 1 1]).run Tryz.prog (W.alloc (.cells #[.int .i64 x.m.node, .int .i64 x.m.region, .int .i64 x.m.weight, .int .i64 x.rank] 150)) = .ok v' w' ∧ OwnC w (l ++ [x]) v' w' ∧ Keep (fun j => v.ownBlock = some j) W w' ∧ (v'.ownBlock = v.ownBlock ∨ v'.ownBlock = some (W.heap.size + 1)) := by
  obtain ⟨v', w', r1, r2, r3, r4, -⟩ := app_one 147 150 4 32 _ Tryz.underlying147 infoCd rfl (by decide) (by decide) W 147 w.heap.size v l.length (flatC l) (encCd x) h.2 rfl (by simp [encCd, Value.oneCell']) (by omega) h.1.size
  refine ⟨v', w', r1, ⟨h.1.trans' r3 (fun j e => .inr (h.2.lt j e).1), ?_⟩, r3, r4⟩
  rw [flatC_append, flatC_one, List.length_append]
  exact r2
theorem holds_cds {W : World} {g : Nat} {d : Array Cd} (h : Go.Sort.HoldsK encCd 4 W g 0 d) (j : Nat) (x : Cd) (hj : d.toList[j]? = some x) : W.cell? ⟨g, 0 + j * 4, none⟩ = some (.int .i64 x.m.node) ∧ W.cell? ⟨g, 0 + j * 4 + 1, none⟩ = some (.int .i64 x.m.region) ∧ W.cell? ⟨g, 0 + j * 4 + 2, none⟩ = some (.int .i64 x.m.weight) ∧ W.cell? ⟨g, 0 + j * 4 + 3, none⟩ = some (.int .i64 x.rank) := by
  have hlt : j < d.size := by have := (List.getElem?_eq_some_iff.1 hj).1; simpa using this
  have hx : d[j]! = x := by
    rw [Array.getElem?_toList, Array.getElem?_eq_getElem hlt] at hj
    simp only [Option.some.injEq] at hj
    rw [getElem!_pos d j hlt]; exact hj
  have key : ∀ r, r < 4 → W.cell? ⟨g, 0 + (j * 4 + r), none⟩ = some ((encCd x)[r]!) := fun r hr => by
    have h1 := (h (j * 4 + r) (by rw [Go.Sort.size_flatK]; omega)).1
    rw [Go.Sort.get_flatK _ _ _ _ (by omega), show (j * 4 + r) / 4 = j by omega, show (j * 4 + r) % 4 = r by omega, hx] at h1
    exact h1
  exact ⟨key 0 (by decide), by have := key 1 (by decide); rwa [← Nat.add_assoc] at this, by have := key 2 (by decide); rwa [← Nat.add_assoc] at this, by have := key 3 (by decide); rwa [← Nat.add_assoc] at this⟩
theorem owns_holdsC {W : World} {lo g n cap : Nat} {l : List Cd} (h : W.ownsRow lo 150 4 (.slice (some ⟨g, 0, none⟩) n cap) l.length (flatC l)) : Go.Sort.HoldsK encCd 4 W g 0 l.toArray := by
  intro j hj
  rw [Go.Sort.size_flatK] at hj
  simp only [List.size_toArray] at hj
  have hq : j / 4 < l.length := by omega
  have hx : l[j / 4]? = some l[j / 4] := List.getElem?_eq_getElem hq
  have h1 : (flatC l)[j / 4 * 4 + j % 4]? = _ := flat_get encCd_len l (j / 4) _ (j % 4) hx (by omega)
  rw [show j / 4 * 4 + j % 4 = j by omega] at h1
  have h2 : (encCd l[j / 4])[j % 4]? = some ((encCd l[j / 4])[j % 4]!) := by
    have : j % 4 < (encCd l[j / 4]).length := by show j % 4 < 4; omega
    rw [List.getElem?_eq_getElem this, getElem!_pos (encCd l[j / 4]) (j % 4) this]
  rw [h2] at h1
  have h3 := h.cells (g := g) rfl _ _ h1
  rw [Addr.add_lit] at h3
  refine ⟨?_, ?_⟩
  · rw [Go.Sort.get_flatK _ _ _ _ (by simpa using hj)]
    have e : (l.toArray)[j / 4]! = l[j / 4] := by rw [getElem!_pos l.toArray (j / 4) (by simpa using hq)]; simp
    rw [e]; exact h3
  · rcases h.2 with ⟨h4, _⟩ | ⟨g', cap', cur, h4, _, hh, _⟩
    · cases h4
    · cases h4
      unfold World.frozen?
      rw [hh]
      rfl
theorem keep_sortC (w : World) (blk off m : Nat) (d : Array Cd) (os : Array Obj) : Keep (fun j => j = blk) w (Go.Proofs.sortWorldK encCd 4 w blk off m d os) := by
  unfold Go.Proofs.sortWorldK
  refine ⟨rfl, rfl, rfl, ?_, fun k hk hn => ?_⟩
  · rw [Go.Sort.size_grow, Go.Sort.size_putRowK]
    exact Nat.le_add_right _ _
  · unfold grow
    show ((Go.Sort.putRowK encCd 4 (Go.Sort.ahead w m) blk off d).heap ++ os)[k]? = _
    rw [Array.getElem?_append_left (by rw [Go.Sort.size_putRowK]; exact hk)]
    unfold Go.Sort.putRowK Go.Sort.putRow Go.Sort.mapBlock
    show ((Go.Sort.ahead w m).heap.modify blk _)[k]? = _
    rw [Array.getElem?_modify, if_neg (fun e => hn e.symm)]
    rfl

/-- The members with their ranks. -/
def cdsOf (rk : Int → Int) (l : List Mb) : List Cd := l.map (fun m => ⟨m, rk m.node⟩)
def SortC (rk : Int → Int) (l : List Mb) (w : World) (v : Value) (e : Ending) (w' : World) : Prop := e = .returned (.tuple #[]) ∧ ∃ s : List Mb, s.Perm l ∧ s.Pairwise (befC rk) ∧ Cds w' v (cdsOf rk s) ∧ Keep (fun j => v.ownBlock = some j) w w'
theorem sort_cands {w0 w : World} {rk : Int → Int} {l : List Mb} {v : Value} (h : OwnC w0 (cdsOf rk l) v w) (hv : VL l) : Calls Tryz.prog 115 #[v, .func (.func 116) #[] #[]] w (SortC rk l w v) := by
  have hlen := hv.len
  have hlp : 0 < l.length := List.length_pos_iff.2 hv.ne
  have hcl : (cdsOf rk l).length = l.length := by unfold cdsOf; rw [List.length_map]
  rcases h.2.2 with ⟨rfl, h0⟩ | ⟨g, cap, cur, rfl, hg, hh, hcap, r⟩
  · omega
  · have hH := owns_holdsC h.2
    have hblk : g < w.heap.size := (Array.getElem?_eq_some_iff.1 hh).1
    have hs := sortCands g 0 cap (cdsOf rk l).toArray w hH hblk (by simp; omega)
    simp only [List.size_toArray] at hs
    refine hs.mono ?_
    rintro e w' ⟨rfl, d', n, os, hperm, hsort, rfl⟩
    have hp : d'.toList.Perm (cdsOf rk l) := by
      have h1 := hperm.2.2
      have h2 := hperm.1
      simp only [List.size_toArray] at h2
      have e1 : d'.extract 0 (cdsOf rk l).length = d' := by rw [← h2]; exact Array.extract_size
      have e2 : ((cdsOf rk l).toArray.extract 0 (cdsOf rk l).length) = (cdsOf rk l).toArray := by simp
      rw [e1, e2] at h1
      simpa using h1
    have hd : ∀ x ∈ d'.toList, x.rank = rk x.m.node ∧ x.m ∈ l := fun x hx => by
      have := hp.mem_iff.1 hx
      unfold cdsOf at this
      obtain ⟨m, hm, rfl⟩ := List.mem_map.1 this
      exact ⟨rfl, hm⟩
    obtain ⟨s, hs0⟩ : ∃ s : List Mb, d'.toList.map Cd.m = s := ⟨_, rfl⟩
    have hs1 : cdsOf rk s = d'.toList := by
      unfold cdsOf
      rw [← hs0, List.map_map]
      have : ∀ x ∈ d'.toList, ((fun m : Mb => (⟨m, rk m.node⟩ : Cd)) ∘ Cd.m) x = x := fun x hx => by
        have := (hd x hx).1
        cases x
        simp only [Function.comp] at *
        rw [this]
      exact (List.map_congr_left this).trans (List.map_id _)
    have hsp : s.Perm l := by
      have h1 := hp.map Cd.m
      rw [hs0] at h1
      refine h1.trans ?_
      unfold cdsOf
      rw [List.map_map]
      have : (Cd.m ∘ fun m : Mb => (⟨m, rk m.node⟩ : Cd)) = id := rfl
      rw [this, List.map_id]
    have hsz : d'.size = l.length := by have := hp.length_eq; simp only [Array.length_toList] at this; omega
    have hnd : (s.map Mb.node).Nodup := (hsp.map Mb.node).nodup_iff.2 (map_nodup hv.asc)
    have hpw : s.Pairwise (befC rk) := by
      have hso : d'.toList.Pairwise (fun x y => ¬ ltCd y x) := by
        rw [List.pairwise_iff_getElem]
        intro i j hi hj hij
        have hi' : i < d'.size := by simpa using hi
        have hj' : j < d'.size := by simpa using hj
        have h1 := hsort i j (Nat.zero_le _) hij (by omega)
        rw [cmpC_lt, decide_eq_false_iff_not, getElem!_pos d' j hj', getElem!_pos d' i hi'] at h1
        rwa [Array.getElem_toList, Array.getElem_toList]
      rw [← hs1] at hso
      unfold cdsOf at hso
      rw [List.pairwise_map] at hso
      rw [List.nodup_iff_pairwise_ne, List.pairwise_map] at hnd
      refine (hso.and hnd).imp ?_
      rintro x y ⟨h1, h2⟩
      unfold ltCd at h1
      unfold befC
      simp only [] at h1
      omega
    refine ⟨rfl, s, hsp, hpw, ⟨by rw [hs1]; simp only [Array.length_toList]; omega, fun x hx => ?_, some ⟨g, 0, none⟩, cap, g, 0, ?_, ?_, fun _ => rfl, fun j x hj => ?_⟩, ?_⟩
    · have := hv.ok x.m (hd x (by rw [← hs1]; exact hx)).2
      unfold okMb at this
      unfold I64
      omega
    · rw [hs1]; simp only [Array.length_toList]; rw [hsz, hcl]
    · rw [hs1, Array.length_toList]; omega
    · have hHd := Go.Proofs.holdsK_sortWorldK_c encCd 4 w g 0 (cdsOf rk l).toArray d' n os hH hblk (by simp; omega)
      rw [hs1] at hj
      exact holds_cds hHd j x hj
    · refine (keep_sortC w g 0 n d' os).mono (fun j e => ?_)
      show some g = some j
      rw [e]
end Go.Proofs.YtplkmbfeeegaiaaGreatDoor

/-
  A further member in its place; other regions and weights; owners that are changed.
-/
namespace Go.Proofs.YtplkmbfeeegaiaaGreatDoor

/-! ### a further member -/
def loM (l : List Mb) (n : Int) : List Mb := l.filter (fun x => decide (x.node < n))
def hiM (l : List Mb) (n : Int) : List Mb := l.filter (fun x => decide (n < x.node))
/-- What is built so far: the further member is there if one behind it is. -/
def withM (l : List Mb) (m : Mb) : List Mb := loM l m.node ++ (if (hiM l m.node).length = 0 then [] else m :: hiM l m.node)
def moreM (l : List Mb) (m : Mb) : List Mb := loM l m.node ++ m :: hiM l m.node
theorem withM_nil (m : Mb) : withM [] m = [] := by simp [withM, loM, hiM]
theorem hiM_nil (n : Int) : (hiM [] n).length = 0 := by simp [hiM]
theorem loM_snoc (l : List Mb) (x : Mb) (n : Int) : loM (l ++ [x]) n = loM l n ++ (if x.node < n then [x] else []) := by
  unfold loM
  rw [List.filter_append]
  by_cases h : x.node < n <;> simp [h]
theorem hiM_snoc (l : List Mb) (x : Mb) (n : Int) : hiM (l ++ [x]) n = hiM l n ++ (if n < x.node then [x] else []) := by
  unfold hiM
  rw [List.filter_append]
  by_cases h : n < x.node <;> simp [h]
theorem withM_lt {l : List Mb} {x m : Mb} (hx : x.node < m.node) (ha : ∀ y ∈ l, y.node < x.node) : (hiM (l ++ [x]) m.node).length = 0 ∧ withM (l ++ [x]) m = withM l m ++ [x] := by
  have h0 : hiM l m.node = [] := by
    unfold hiM
    rw [List.filter_eq_nil_iff]
    intro y hy
    have := ha y hy
    simp; omega
  have h1 : hiM (l ++ [x]) m.node = [] := by rw [hiM_snoc, h0, if_neg (by omega)]; rfl
  refine ⟨by rw [h1]; rfl, ?_⟩
  unfold withM
  rw [h1, h0, loM_snoc, if_pos hx]
  simp
theorem withM_first {l : List Mb} {x m : Mb} (hx : m.node < x.node) (h0 : (hiM l m.node).length = 0) : (hiM (l ++ [x]) m.node).length ≠ 0 ∧ withM (l ++ [x]) m = withM l m ++ [m] ++ [x] := by
  have h0' : hiM l m.node = [] := List.eq_nil_of_length_eq_zero h0
  have h1 : hiM (l ++ [x]) m.node = [x] := by rw [hiM_snoc, h0', if_pos hx]; rfl
  refine ⟨by rw [h1]; simp, ?_⟩
  unfold withM
  rw [h1, h0', loM_snoc, if_neg (by omega)]
  simp
theorem withM_next {l : List Mb} {x m : Mb} (hx : m.node < x.node) (h0 : (hiM l m.node).length ≠ 0) : (hiM (l ++ [x]) m.node).length ≠ 0 ∧ withM (l ++ [x]) m = withM l m ++ [x] := by
  have h1 : hiM (l ++ [x]) m.node = hiM l m.node ++ [x] := by rw [hiM_snoc, if_pos hx]
  have h2 : (hiM (l ++ [x]) m.node).length ≠ 0 := by rw [h1]; simp
  refine ⟨h2, ?_⟩
  unfold withM
  rw [if_neg h2, if_neg h0, h1, loM_snoc, if_neg (by omega)]
  simp
theorem withM_end0 {l : List Mb} {m : Mb} (h0 : (hiM l m.node).length = 0) : withM l m ++ [m] = moreM l m := by
  unfold withM moreM
  rw [if_pos h0, List.eq_nil_of_length_eq_zero h0]
  simp
theorem withM_end1 {l : List Mb} {m : Mb} (h0 : (hiM l m.node).length ≠ 0) : withM l m = moreM l m := by
  unfold withM moreM
  rw [if_neg h0]
theorem withM_len (l : List Mb) (m : Mb) : (withM l m).length ≤ 2 * l.length := by
  have h1 : (loM l m.node).length ≤ l.length := List.length_filter_le _ _
  have h2 : (hiM l m.node).length ≤ l.length := List.length_filter_le _ _
  have h3 : (loM l m.node).length + (hiM l m.node).length ≤ l.length := by
    clear h1 h2
    induction l with
    | nil => simp [loM, hiM]
    | cons a l ih =>
      unfold loM hiM at ih ⊢
      rw [List.filter_cons, List.filter_cons]
      by_cases ha : a.node < m.node
      · have hb : ¬ m.node < a.node := by omega
        simp [ha, hb]; omega
      · by_cases hb : m.node < a.node <;> simp [ha, hb] <;> omega
  unfold withM
  rw [List.length_append]
  split
  · simp; omega
  · simp only [List.length_cons]; omega
theorem split_lo_hi : ∀ {l : List Mb}, l.Pairwise (fun a b => a.node < b.node) → ∀ (n : Int), (∀ x ∈ l, x.node ≠ n) → l = loM l n ++ hiM l n
  | [], _, _, _ => by simp [loM, hiM]
  | a :: l, h, n, hn => by
    rw [List.pairwise_cons] at h
    have hne := hn a (by simp)
    have ih := split_lo_hi h.2 n (fun x hx => hn x (by simp [hx]))
    by_cases ha : a.node < n
    · have e1 : loM (a :: l) n = a :: loM l n := by unfold loM; rw [List.filter_cons_of_pos (by simpa using ha)]
      have e2 : hiM (a :: l) n = hiM l n := by unfold hiM; rw [List.filter_cons_of_neg (by simp; omega)]
      rw [e1, e2, List.cons_append, ← ih]
    · have e1 : loM (a :: l) n = [] := by
        unfold loM
        rw [List.filter_eq_nil_iff]
        intro y hy
        rcases List.mem_cons.1 hy with rfl | hy
        · simpa using ha
        · have := h.1 y hy; simp; omega
      have e2 : hiM (a :: l) n = a :: l := by
        unfold hiM
        rw [List.filter_eq_self]
        intro y hy
        rcases List.mem_cons.1 hy with rfl | hy
        · simp; omega
        · have := h.1 y hy; simp; omega
      rw [e1, e2, List.nil_append]
theorem moreM_ok {l : List Mb} {m : Mb} (h : VL l) (hm : okMb m) : VL (moreM l m) := by
  refine ⟨fun x hx => ?_, ?_, by unfold moreM; simp⟩
  · unfold moreM loM hiM at hx
    rcases List.mem_append.1 hx with hx | hx
    · exact h.ok x (List.mem_filter.1 hx).1
    · rcases List.mem_cons.1 hx with rfl | hx
      · exact hm
      · exact h.ok x (List.mem_filter.1 hx).1
  · unfold moreM loM hiM
    rw [List.pairwise_append, List.pairwise_cons]
    refine ⟨h.asc.sublist List.filter_sublist, ⟨fun x hx => ?_, h.asc.sublist List.filter_sublist⟩, fun x hx y hy => ?_⟩
    · simpa using (List.mem_filter.1 hx).2
    · have h1 : x.node < m.node := by simpa using (List.mem_filter.1 hx).2
      rcases List.mem_cons.1 hy with rfl | hy
      · exact h1
      · have h2 : m.node < y.node := by simpa using (List.mem_filter.1 hy).2
        omega
theorem consistentM (P : Int → Nat → Int) (Q : Nat → Int) {l : List Mb} {m : Mb} (h : VL l) (hm : VL (moreM l m)) (hn : ∀ x ∈ l, x.node ≠ m.node)
    (hf : ∀ x ∈ l, cnt (ownersL P Q l) x.node < limitL l x.node) (hf' : ∀ x ∈ moreM l m, cnt (ownersL P Q (moreM l m)) x.node < limitL (moreM l m) x.node)
    {s : Nat} (hs : s < 64) : ∃ x y, (ownersL P Q l)[s]? = some x ∧ (ownersL P Q (moreM l m))[s]? = some y ∧ (y = x ∨ y = m.node) := by
  have e := split_lo_hi h.asc m.node hn
  unfold moreM at hm hf' ⊢
  revert hm hf' e
  generalize loM l m.node = a
  generalize hiM l m.node = b
  intro hm hf' e
  subst e
  exact consistent P Q h hm hn hf hf' hs
def freeB (l : List Mb) (ow : List Int) : Bool := l.all (fun m => decide (cnt ow m.node < limitL l m.node))
theorem freeB_iff (l : List Mb) (ow : List Int) : freeB l ow = true ↔ ∀ m ∈ l, cnt ow m.node < limitL l m.node := by
  unfold freeB
  rw [List.all_eq_true]
  exact ⟨fun h m hm => by simpa using h m hm, fun h m hm => by simpa using h m hm⟩

/-! ### other regions and weights -/
/-- Behind k members: lo has other regions, the first k of lh have t times the weight. -/
structure RegSt (l lo lh : List Mb) (t : Int) (k : Nat) : Prop where
  lenO : lo.length = l.length
  lenH : lh.length = l.length
  o : ∀ (i : Nat) (m : Mb), l[i]? = some m → ∃ r, lo[i]? = some ⟨m.node, r, m.weight⟩ ∧ 0 ≤ r ∧ r ≤ 3
  h : ∀ (i : Nat) (m : Mb), l[i]? = some m → lh[i]? = some (if i < k then ⟨m.node, m.region, t * m.weight⟩ else m)
  w : ∀ (i : Nat) (m : Mb), i < k → l[i]? = some m → t * m.weight ≤ 16
theorem RegSt.start {l : List Mb} (hv : VL l) (t : Int) : RegSt l l l t 0 :=
  ⟨rfl, rfl, fun i m hm => ⟨m.region, hm, by have := hv.ok m (List.mem_of_getElem? hm); unfold okMb at this; omega⟩, fun i m hm => by rw [if_neg (by omega)]; exact hm, fun i m h => absurd h (by omega)⟩
theorem RegSt.region {l lo lh : List Mb} {t : Int} {k i : Nat} {m : Mb} (h : RegSt l lo lh t k) (hm : l[i]? = some m) {r : Int} (hr : 0 ≤ r ∧ r ≤ 3) : RegSt l (lo.set i ⟨m.node, r, m.weight⟩) lh t k := by
  refine ⟨by rw [List.length_set]; exact h.lenO, h.lenH, fun j x hx => ?_, h.h, h.w⟩
  by_cases e : i = j
  · subst e
    rw [hm] at hx
    cases hx
    have : i < lo.length := by rw [h.lenO]; exact (List.getElem?_eq_some_iff.1 hm).1
    exact ⟨r, by rw [List.getElem?_set_self this], hr⟩
  · rw [List.getElem?_set_ne e]
    exact h.o j x hx
theorem RegSt.heavy {l lo lh : List Mb} {t : Int} {k : Nat} {m : Mb} (h : RegSt l lo lh t k) (hm : l[k]? = some m) (hw : t * m.weight ≤ 16) : RegSt l lo (lh.set k ⟨m.node, m.region, t * m.weight⟩) t (k + 1) := by
  refine ⟨h.lenO, by rw [List.length_set]; exact h.lenH, h.o, fun j x hx => ?_, fun j x hj hx => ?_⟩
  · by_cases e : k = j
    · subst e
      rw [hm] at hx
      cases hx
      have : k < lh.length := by rw [h.lenH]; exact (List.getElem?_eq_some_iff.1 hm).1
      rw [List.getElem?_set_self this, if_pos (by omega)]
    · rw [List.getElem?_set_ne e, h.h j x hx]
      by_cases hj : j < k
      · rw [if_pos hj, if_pos (by omega)]
      · rw [if_neg hj, if_neg (by omega)]
  · by_cases e : j = k
    · subst e
      rw [hm] at hx
      cases hx
      exact hw
    · exact h.w j x (by omega) hx
theorem RegSt.mapO {l lo lh : List Mb} {t : Int} {k : Nat} (h : RegSt l lo lh t k) : l.map (fun m => (m.node, m.weight)) = lo.map (fun m => (m.node, m.weight)) := by
  apply List.ext_getElem?
  intro i
  rw [List.getElem?_map, List.getElem?_map]
  cases hm : l[i]? with
  | none =>
    have : lo[i]? = none := by rw [List.getElem?_eq_none_iff] at hm ⊢; rw [h.lenO]; exact hm
    rw [this]
  | some m =>
    obtain ⟨r, hr, _⟩ := h.o i m hm
    rw [hr]; rfl
theorem pairwise_map_node {l l' : List Mb} (h : l.Pairwise (fun a b => a.node < b.node)) (e : l.map Mb.node = l'.map Mb.node) : l'.Pairwise (fun a b => a.node < b.node) := by
  have h1 : (l.map Mb.node).Pairwise (fun a b => a < b) := by rw [List.pairwise_map]; exact h
  rw [e, List.pairwise_map] at h1
  exact h1
theorem RegSt.okO {l lo lh : List Mb} {t : Int} {k : Nat} (h : RegSt l lo lh t k) (hv : VL l) : VL lo := by
  have hmap := h.mapO
  refine ⟨fun x hx => ?_, pairwise_map_node hv.asc ?_, fun e => ?_⟩
  · obtain ⟨i, hi⟩ := List.mem_iff_getElem?.1 hx
    have hl : i < l.length := by rw [← h.lenO]; exact (List.getElem?_eq_some_iff.1 hi).1
    obtain ⟨r, hr, h0, h3⟩ := h.o i _ (List.getElem?_eq_getElem hl)
    rw [hi] at hr
    cases hr
    have := hv.ok _ (List.getElem_mem hl)
    unfold okMb at this ⊢
    exact ⟨this.1, this.2.1, h0, h3, this.2.2.2.2⟩
  · have := congrArg (List.map Prod.fst) hmap
    simpa [List.map_map, Function.comp_def] using this
  · have h1 := h.lenO
    rw [e] at h1
    exact hv.ne (List.eq_nil_of_length_eq_zero h1.symm)
def scaled (l : List Mb) (t : Int) : List Mb := l.map (fun m => ⟨m.node, m.region, t * m.weight⟩)
theorem RegSt.all {l lo lh : List Mb} {t : Int} {k : Nat} (h : RegSt l lo lh t k) (hk : l.length ≤ k) : lh = scaled l t := by
  apply List.ext_getElem?
  intro i
  unfold scaled
  rw [List.getElem?_map]
  cases hm : l[i]? with
  | none =>
    have : lh[i]? = none := by rw [List.getElem?_eq_none_iff] at hm ⊢; rw [h.lenH]; exact hm
    rw [this]; rfl
  | some m =>
    have hi : i < l.length := (List.getElem?_eq_some_iff.1 hm).1
    rw [h.h i m hm, if_pos (by omega)]; rfl
theorem wsum_scaled (t : Int) : ∀ l, wsum (scaled l t) = t * wsum l
  | [] => by simp [scaled, wsum]
  | m :: l => by
    have := wsum_scaled t l
    unfold scaled at this ⊢
    simp only [List.map_cons, wsum]
    rw [this, Int.mul_add]
theorem scaled_ok {l : List Mb} {t : Int} (hv : VL l) (ht : 1 ≤ t) (hw : ∀ m ∈ l, t * m.weight ≤ 16) : VL (scaled l t) := by
  refine ⟨fun x hx => ?_, pairwise_map_node hv.asc (by unfold scaled; rw [List.map_map]; rfl), fun e => ?_⟩
  · unfold scaled at hx
    obtain ⟨m, hm, rfl⟩ := List.mem_map.1 hx
    have h1 := hv.ok m hm
    have h2 := hw m hm
    unfold okMb at h1 ⊢
    have h3 : 1 * 1 ≤ t * m.weight := Int.mul_le_mul ht (by omega) (by omega) (by omega)
    exact ⟨h1.1, h1.2.1, h1.2.2.1, h1.2.2.2.1, by simp only []; omega, h2⟩
  · unfold scaled at e
    exact hv.ne (List.map_eq_nil_iff.1 e)
theorem limitL_scaled {l : List Mb} {t : Int} (hv : VL l) (hs : VL (scaled l t)) (ht : 1 ≤ t) (n : Int) : limitL (scaled l t) n = limitL l n := by
  by_cases hn : ∃ m ∈ l, m.node = n
  · obtain ⟨m, hm, rfl⟩ := hn
    have h1 : (⟨m.node, m.region, t * m.weight⟩ : Mb) ∈ scaled l t := List.mem_map.2 ⟨m, hm, rfl⟩
    have h2 := limitL_mem hs h1
    simp only [] at h2
    rw [h2, limitL_mem hv hm, wsum_scaled]
    exact limit_scaled ht hv.wsum.1
  · rw [limitL_none (fun m hm e => hn ⟨m, hm, e⟩), limitL_none]
    intro x hx e
    obtain ⟨m, hm, rfl⟩ := List.mem_map.1 hx
    exact hn ⟨m, hm, e⟩

/-! ### owners that are changed -/
theorem cnt_set {ow : List Int} {s : Nat} {was : Int} (h : ow[s]? = some was) (n q : Int) : cnt (ow.set s n) q = cnt ow q - (if q = was then 1 else 0) + (if q = n then 1 else 0) := by
  induction ow generalizing s with
  | nil => simp at h
  | cons a ow ih =>
    cases s with
    | zero =>
      simp only [List.getElem?_cons_zero, Option.some.injEq] at h
      subst h
      rw [List.set_cons_zero]
      have e1 := cnt_append [n] ow q
      have e2 := cnt_append [a] ow q
      have e3 := cnt_snoc [] n q
      have e4 := cnt_snoc [] a q
      simp only [List.singleton_append, List.nil_append] at e1 e2 e3 e4
      have e5 : cnt [] q = 0 := by simp [cnt]
      omega
    | succ s =>
      simp only [List.getElem?_cons_succ] at h
      rw [List.set_cons_succ]
      have e1 := cnt_append [a] (ow.set s n) q
      have e2 := cnt_append [a] ow q
      simp only [List.singleton_append] at e1 e2
      have := ih h
      omega
theorem okRing_set {ep : Int} {l : List Mb} {ow : List Int} {s : Nat} {was n : Int} (h : okRing ep l ow) (hs : ow[s]? = some was) : okRing ep l (ow.set s n) ↔ cnt (ow.set s n) n ≤ limitL l n := by
  unfold okRing at h ⊢
  obtain ⟨h1, h2, h3, h4, h5⟩ := h
  constructor
  · intro h; exact h.2.2.2.2 n
  · intro hn
    refine ⟨h1, h2, h3, by rw [List.length_set]; exact h4, fun q => ?_⟩
    by_cases e : q = n
    · subst e; exact hn
    · have := cnt_set hs n q
      rw [if_neg e] at this
      have := h5 q
      split at * <;> omega
theorem cnt_replicate (k : Nat) (n q : Int) : cnt (List.replicate k n) q = if q = n then (k : Int) else 0 := by
  unfold cnt
  rw [List.count_replicate]
  by_cases e : q = n
  · subst e; simp
  · have : ¬ (n = q) := fun h => e h.symm
    simp [e, this]
theorem okRing_all {ep : Int} {l : List Mb} {n : Int} (h1 : 1 ≤ ep) (h2 : ep ≤ 1000000) (h3 : VL l) : okRing ep l (List.replicate 64 n) ↔ 64 ≤ limitL l n := by
  unfold okRing
  constructor
  · rintro ⟨-, -, -, -, h⟩
    have := h n
    rw [cnt_replicate, if_pos rfl] at this
    exact this
  · intro h
    refine ⟨h1, h2, h3, by simp, fun q => ?_⟩
    rw [cnt_replicate]
    by_cases e : q = n
    · rw [if_pos e, e]; exact h
    · rw [if_neg e]; exact (limitL_nn l q).1
end Go.Proofs.YtplkmbfeeegaiaaGreatDoor

/-
  The next ring: what a change keeps, moves and names.
-/
namespace Go.Proofs.YtplkmbfeeegaiaaGreatDoor

/-- The owners that the first k slots keep; -1: none. -/
def keepR (ow : List Int) (g : Int → Int) : Nat → List Int
  | 0 => []
  | k + 1 => keepR ow g k ++ [if cnt (keepR ow g k) (ow.getD k 0) < g (ow.getD k 0) then ow.getD k 0 else -1]
theorem keepR_len (ow : List Int) (g : Int → Int) : ∀ k, (keepR ow g k).length = k
  | 0 => rfl
  | k + 1 => by simp [keepR, keepR_len ow g k]
theorem keepR_succ (ow : List Int) (g : Int → Int) (k : Nat) : keepR ow g (k + 1) = keepR ow g k ++ [if cnt (keepR ow g k) (ow.getD k 0) < g (ow.getD k 0) then ow.getD k 0 else -1] := rfl
theorem keepR_get {ow : List Int} {g : Int → Int} : ∀ {k s : Nat}, s < k → (keepR ow g k)[s]? = some (if cnt (keepR ow g s) (ow.getD s 0) < g (ow.getD s 0) then ow.getD s 0 else -1)
  | 0, _, h => by omega
  | k + 1, s, h => by
    rw [keepR_succ]
    by_cases e : s < k
    · rw [List.getElem?_append_left (by rw [keepR_len]; exact e)]; exact keepR_get e
    · obtain rfl : s = k := by omega
      rw [List.getElem?_append_right (by rw [keepR_len]; exact Nat.le_refl _), keepR_len, Nat.sub_self]; rfl
/-- How many it keeps. -/
theorem keepR_cnt {ow : List Int} {g : Int → Int} (hg : ∀ n, 0 ≤ g n) {n : Int} (hn : n ≠ -1) : ∀ {k : Nat}, k ≤ ow.length → cnt (keepR ow g k) n = min (g n) (cnt (ow.take k) n)
  | 0, _ => by have := hg n; simp [keepR, cnt]; omega
  | k + 1, h => by
    have ih := keepR_cnt hg hn (show k ≤ ow.length by omega)
    obtain ⟨x, hx⟩ : ∃ x, ow[k]? = some x := ⟨_, List.getElem?_eq_getElem (by omega)⟩
    have e : ow.getD k 0 = x := by rw [List.getD_eq_getElem?_getD, hx]; rfl
    rw [keepR_succ, cnt_snoc, cnt_take_succ hx, e]
    have hn2 : ¬ n = -1 := hn
    by_cases hxn : n = x
    · subst hxn
      rw [if_pos (rfl : n = n)]
      by_cases hlt : cnt (keepR ow g k) n < g n
      · rw [if_pos hlt, if_pos (rfl : n = n)]; omega
      · rw [if_neg hlt, if_neg hn2]; omega
    · rw [if_neg hxn]
      by_cases hlt : cnt (keepR ow g k) x < g x
      · rw [if_pos hlt, if_neg hxn]; omega
      · rw [if_neg hlt, if_neg hn2]; omega
theorem keepR_all {ow : List Int} {g : Int → Int} (h : ∀ n, cnt ow n ≤ g n) : ∀ {k : Nat}, k ≤ ow.length → keepR ow g k = ow.take k
  | 0, _ => rfl
  | k + 1, hk => by
    obtain ⟨x, hx⟩ : ∃ x, ow[k]? = some x := ⟨_, List.getElem?_eq_getElem (by omega)⟩
    have e : ow.getD k 0 = x := by rw [List.getD_eq_getElem?_getD, hx]; rfl
    rw [keepR_succ, keepR_all h (by omega), e, if_pos, List.take_add_one, hx]
    · rfl
    · have h1 := cnt_take_succ hx x
      rw [if_pos rfl] at h1
      have h2 := cnt_take_le ow (k + 1) x
      have h3 := h x
      omega

/-- The slots without an owner. -/
def homeL (R : List Int) : List Nat := (List.range R.length).filter (fun s => decide (R[s]? = some (-1)))
theorem homeL_snoc (R : List Int) (x : Int) : homeL (R ++ [x]) = homeL R ++ if x = -1 then [R.length] else [] := by
  unfold homeL
  rw [List.length_append, List.length_singleton, List.range_succ, List.filter_append]
  congr 1
  · apply List.filter_congr
    intro s hs
    rw [List.getElem?_append_left (List.mem_range.1 hs)]
  · simp only [List.filter_cons, List.filter_nil]
    rw [List.getElem?_append_right (Nat.le_refl _), Nat.sub_self]
    by_cases e : x = -1 <;> simp [e]
theorem mem_homeL {R : List Int} {s : Nat} : s ∈ homeL R ↔ R[s]? = some (-1) := by
  unfold homeL
  rw [List.mem_filter, List.mem_range, decide_eq_true_eq]
  exact ⟨fun h => h.2, fun h => ⟨(List.getElem?_eq_some_iff.1 h).1, h⟩⟩
theorem homeL_len (R : List Int) : (homeL R).length ≤ R.length := by
  unfold homeL
  exact Nat.le_trans (List.length_filter_le _ _) (by simp)
theorem homeL_nodup (R : List Int) : (homeL R).Nodup := List.Nodup.sublist List.filter_sublist List.nodup_range
theorem homeL_asc (R : List Int) : (homeL R).Pairwise (· < ·) := List.Pairwise.sublist List.filter_sublist List.pairwise_lt_range

section
variable (ord : Nat → List Int) (g : Int → Int)
/-- A slot gets the first owner that has room. -/
def placeS (R : List Int) (s : Nat) : List Int := match firstN (fun n => g n - cnt R n) (ord s) with
  | some n => R.set s n
  | none => R
def placeL (hs : List Nat) (R : List Int) : List Int := hs.foldl (placeS ord g) R
theorem placeL_snoc (hs : List Nat) (s : Nat) (R : List Int) : placeL ord g (hs ++ [s]) R = placeS ord g (placeL ord g hs R) s := by unfold placeL; rw [List.foldl_append]; rfl
theorem placeL_take {hs : List Nat} {k s : Nat} (h : hs[k]? = some s) (R : List Int) : placeL ord g (hs.take (k + 1)) R = placeS ord g (placeL ord g (hs.take k) R) s := by
  rw [List.take_add_one, h]; exact placeL_snoc ord g _ _ _
theorem placeS_len (R : List Int) (s : Nat) : (placeS ord g R s).length = R.length := by unfold placeS; split <;> simp
theorem placeL_len (R : List Int) : ∀ (hs : List Nat), (placeL ord g hs R).length = R.length := by
  intro hs
  induction hs generalizing R with
  | nil => rfl
  | cons s hs ih => show (placeL ord g hs (placeS ord g R s)).length = _; rw [ih, placeS_len]
theorem placeS_other (R : List Int) {s q : Nat} (h : q ≠ s) : (placeS ord g R s)[q]? = R[q]? := by
  unfold placeS
  split
  · exact List.getElem?_set_ne (fun e => h e.symm)
  · rfl
theorem placeL_other {q : Nat} : ∀ (hs : List Nat) (R : List Int), q ∉ hs → (placeL ord g hs R)[q]? = R[q]? := by
  intro hs
  induction hs with
  | nil => intro R _; rfl
  | cons s hs ih =>
    intro R h
    simp only [List.mem_cons, not_or] at h
    show (placeL ord g hs (placeS ord g R s))[q]? = _
    rw [ih _ h.2, placeS_other ord g R h.1]
/-- Slot after slot, where none has been named. -/
def placeA (R : List Int) : Nat → List Int
  | 0 => R
  | k + 1 => if (placeA R k)[k]? = some (-1) then placeS ord g (placeA R k) k else placeA R k
theorem placeA_eq (R : List Int) : ∀ k, placeA ord g R k = placeL ord g ((List.range k).filter (fun s => decide (R[s]? = some (-1)))) R
  | 0 => rfl
  | k + 1 => by
    unfold placeA
    rw [placeA_eq R k, List.range_succ, List.filter_append]
    have h : (placeL ord g ((List.range k).filter (fun s => decide (R[s]? = some (-1)))) R)[k]? = R[k]? := placeL_other ord g _ _ (fun h => by
      have := List.mem_range.1 (List.mem_filter.1 h).1
      omega)
    rw [h]
    by_cases e : R[k]? = some (-1)
    · rw [if_pos e]
      simp only [List.filter_cons, e, decide_true, List.filter_nil, if_true]
      exact (placeL_snoc ord g _ _ _).symm
    · rw [if_neg e]
      simp only [List.filter_cons, e, decide_false, List.filter_nil, Bool.false_eq_true, if_false, List.append_nil]
end

/-- Owners of which some are none. -/
structure RowK (g : Int → Int) (ns : List Int) (R : List Int) : Prop where
  len : R.length = 64
  le : ∀ n, n ≠ -1 → cnt R n ≤ g n
  mem : ∀ n ∈ R, n ≠ -1 → n ∈ ns
theorem place_ok {ord : Nat → List Int} {g : Int → Int} {ns : List Int} (hn : ns.Nodup) (hneg : ∀ n ∈ ns, n ≠ -1) (hord : ∀ s n, n ∈ ord s ↔ n ∈ ns) (hsum : 64 < sumF g ns) {R : List Int} (h : RowK g ns R) {s : Nat} (hs : R[s]? = some (-1)) :
    ∃ n, firstN (fun n => g n - cnt R n) (ord s) = some n ∧ n ∈ ns ∧ cnt R n < g n ∧ RowK g ns (R.set s n) := by
  have h2 : sumF (fun n => g n - cnt R n) ns = sumF g ns - sumF (cnt R) ns := sumF_sub _ _ _
  have h3 := sumF_cnt ns hn R
  obtain ⟨n, hn1, hn2⟩ := sumF_pos (fun n => g n - cnt R n) ns (by rw [h2, ]; have := h.len; omega)
  cases hf : firstN (fun n => g n - cnt R n) (ord s) with
  | none =>
    unfold firstN at hf
    rw [List.find?_eq_none] at hf
    have := hf n ((hord s n).2 hn1)
    simp at this
    omega
  | some m =>
    obtain ⟨hm1, hm2⟩ := firstN_some hf
    have hmn := (hord s m).1 hm1
    have hm3 := hneg m hmn
    refine ⟨m, rfl, hmn, by omega, by simp [h.len], fun q hq => ?_, fun q hq hq1 => ?_⟩
    · rw [cnt_set hs]
      have := h.le q hq
      rw [if_neg hq]
      split
      · rename_i e; subst e; omega
      · omega
    · rcases List.mem_or_eq_of_mem_set hq with hq | rfl
      · exact h.mem q hq hq1
      · exact hmn

/-- The owners of the next ring. -/
def changeL (P : Int → Nat → Int) (Q : Nat → Int) (l : List Mb) (ow : List Int) : List Int :=
  placeL (fun s => ords P l (Q s)) (limitL l) (homeL (keepR ow (limitL l) 64)) (keepR ow (limitL l) 64)
section
variable (P : Int → Nat → Int) (Q : Nat → Int)
theorem VL.node {l : List Mb} (h : VL l) : ∀ n ∈ l.map Mb.node, 0 ≤ n ∧ n ≤ 23 := fun n hn => by
  obtain ⟨m, hm, rfl⟩ := List.mem_map.1 hn
  have := h.ok m hm
  unfold okMb at this
  omega
theorem keepR_mem {l : List Mb} {ow : List Int} {k : Nat} : ∀ n ∈ keepR ow (limitL l) k, n ≠ -1 → n ∈ l.map Mb.node := by
  intro n hn h1
  obtain ⟨s, hs⟩ := List.mem_iff_getElem?.1 hn
  have hsk : s < k := by have := (List.getElem?_eq_some_iff.1 hs).1; rwa [keepR_len] at this
  rw [keepR_get hsk] at hs
  simp only [Option.some.injEq] at hs
  split at hs
  · rename_i hlt
    subst hs
    have h0 := cnt_nn (keepR ow (limitL l) s) (ow.getD s 0)
    by_cases e : ∃ m ∈ l, m.node = ow.getD s 0
    · obtain ⟨m, hm, e⟩ := e
      exact List.mem_map.2 ⟨m, hm, e⟩
    · rw [limitL_none (fun m hm e' => e ⟨m, hm, e'⟩)] at hlt
      omega
  · exact absurd hs.symm h1
theorem keep_row {l : List Mb} {ow : List Int} (hl : ow.length = 64) : RowK (limitL l) (l.map Mb.node) (keepR ow (limitL l) 64) :=
  ⟨keepR_len _ _ _, fun n hn => by rw [keepR_cnt (fun n => (limitL_nn l n).1) hn (by omega)]; omega, keepR_mem⟩
/-- Behind each placement there is a row; what has been named stays. -/
theorem place_row {l : List Mb} (h : VL l) {ow : List Int} (hl : ow.length = 64) : ∀ (k : Nat), k ≤ (homeL (keepR ow (limitL l) 64)).length →
    RowK (limitL l) (l.map Mb.node) (placeL (fun s => ords P l (Q s)) (limitL l) ((homeL (keepR ow (limitL l) 64)).take k) (keepR ow (limitL l) 64)) ∧
    (∀ (i : Nat) s, i < k → (homeL (keepR ow (limitL l) 64))[i]? = some s → ∃ n, (placeL (fun s => ords P l (Q s)) (limitL l) ((homeL (keepR ow (limitL l) 64)).take k) (keepR ow (limitL l) 64))[s]? = some n ∧ n ≠ -1 ∧ n ≠ ow.getD s 0) ∧
    ∀ n, n ≠ -1 → cnt (keepR ow (limitL l) 64) n ≤ cnt (placeL (fun s => ords P l (Q s)) (limitL l) ((homeL (keepR ow (limitL l) 64)).take k) (keepR ow (limitL l) 64)) n
  | 0, _ => ⟨keep_row hl, fun i s hi => by omega, fun n _ => Int.le_refl _⟩
  | k + 1, hk => by
    obtain ⟨h1, h2, h3⟩ := place_row h hl k (by omega)
    obtain ⟨s, hs⟩ : ∃ s, (homeL (keepR ow (limitL l) 64))[k]? = some s := ⟨_, List.getElem?_eq_getElem (by omega)⟩
    rw [placeL_take _ _ hs]
    have hneg := mem_homeL.1 (List.mem_of_getElem? hs)
    have hnd := homeL_nodup (keepR ow (limitL l) 64)
    have hnot : s ∉ (homeL (keepR ow (limitL l) 64)).take k := fun hm => by
      obtain ⟨j, hj⟩ := List.mem_iff_getElem?.1 hm
      have hjk : j < k := by have := (List.getElem?_eq_some_iff.1 hj).1; rw [List.length_take] at this; omega
      rw [List.getElem?_take_of_lt hjk] at hj
      obtain ⟨a1, a2⟩ := List.getElem?_eq_some_iff.1 hj
      obtain ⟨b1, b2⟩ := List.getElem?_eq_some_iff.1 hs
      have := (List.getElem_inj hnd).1 (a2.trans b2.symm)
      omega
    have hs1 := placeL_other (fun s => ords P l (Q s)) (limitL l) _ (keepR ow (limitL l) 64) hnot
    rw [hneg] at hs1
    generalize placeL (fun s => ords P l (Q s)) (limitL l) ((homeL (keepR ow (limitL l) 64)).take k) (keepR ow (limitL l) 64) = R at *
    obtain ⟨n, hf, hm, hlt, hrow⟩ := place_ok (ord := fun s => ords P l (Q s)) h.nodup (fun n hn => by have := h.node n hn; omega) (fun s n => by rw [mem_ords P h, List.mem_map]) (by have := limit_sum h; omega) h1 hs1
    have hn0 := h.node n hm
    have e : placeS (fun s => ords P l (Q s)) (limitL l) R s = R.set s n := by unfold placeS; rw [hf]
    rw [e]
    have hsl : s < R.length := (List.getElem?_eq_some_iff.1 hs1).1
    refine ⟨hrow, fun i q hi hq => ?_, fun q hq => ?_⟩
    · by_cases hik : i = k
      · subst hik
        rw [hs] at hq
        cases hq
        refine ⟨n, List.getElem?_set_self hsl, by omega, fun en => ?_⟩
        -- no room for the old owner
        have hs64 : s < 64 := by have := h1.len; omega
        have h5 := keepR_get (ow := ow) (g := limitL l) hs64
        rw [hneg] at h5
        simp only [Option.some.injEq] at h5
        rw [← en] at h5
        split at h5
        · omega
        · rename_i hge
          have h6 : cnt (keepR ow (limitL l) s) n ≤ cnt (keepR ow (limitL l) 64) n := by
            rw [keepR_cnt (fun n => (limitL_nn l n).1) (by omega) (by omega), keepR_cnt (fun n => (limitL_nn l n).1) (by omega) (by omega)]
            have : cnt (ow.take s) n ≤ cnt (ow.take 64) n := by
              have := cnt_take_le (ow.take 64) s n
              rwa [List.take_take, Nat.min_eq_left (by omega)] at this
            omega
          have h7 := h3 n (by omega)
          omega
      · obtain ⟨m, a1, a2, a3⟩ := h2 i q (by omega) hq
        have hne : q ≠ s := fun e => by
          subst e
          obtain ⟨a1, a2⟩ := List.getElem?_eq_some_iff.1 hq
          obtain ⟨b1, b2⟩ := List.getElem?_eq_some_iff.1 hs
          have := (List.getElem_inj hnd).1 (a2.trans b2.symm)
          omega
        exact ⟨m, by rw [List.getElem?_set_ne (fun e => hne e.symm)]; exact a1, a2, a3⟩
    · have := h3 q hq
      rw [cnt_set hs1, if_neg hq]
      split <;> omega

theorem change_len {l : List Mb} (h : VL l) {ow : List Int} (hl : ow.length = 64) : (changeL P Q l ow).length = 64 := by
  have := (place_row P Q h hl (homeL (keepR ow (limitL l) 64)).length (Nat.le_refl _)).1.len
  rwa [List.take_length] at this
/-- A slot keeps its owner, or goes to another one. -/
theorem change_at {l : List Mb} (h : VL l) {ow : List Int} (hl : ow.length = 64) {s : Nat} (hs : s < 64) : ∃ n, (changeL P Q l ow)[s]? = some n ∧ n ≠ -1 ∧
    ((keepR ow (limitL l) 64)[s]? = some (-1) ∧ n ≠ ow.getD s 0 ∨ (keepR ow (limitL l) 64)[s]? = some n ∧ (n = ow.getD s 0)) ∨ ow.getD s 0 = -1 := by
  by_cases hm1 : ow.getD s 0 = -1
  · exact ⟨0, .inr hm1⟩
  obtain ⟨h1, h2, h3⟩ := place_row P Q h hl (homeL (keepR ow (limitL l) 64)).length (Nat.le_refl _)
  rw [List.take_length] at h1 h2
  have hk := keepR_get (ow := ow) (g := limitL l) hs
  by_cases he : (keepR ow (limitL l) 64)[s]? = some (-1)
  · obtain ⟨i, hi⟩ := List.mem_iff_getElem?.1 (mem_homeL.2 he)
    obtain ⟨n, a1, a2, a3⟩ := h2 i s (List.getElem?_eq_some_iff.1 hi).1 hi
    exact ⟨n, .inl ⟨a1, a2, .inl ⟨he, a3⟩⟩⟩
  · have hnot : s ∉ homeL (keepR ow (limitL l) 64) := fun hm => he (mem_homeL.1 hm)
    have hp := placeL_other (fun s => ords P l (Q s)) (limitL l) _ (keepR ow (limitL l) 64) hnot
    rw [hk] at he hp
    split at hk
    · rename_i hlt
      rw [if_pos hlt] at hp
      exact ⟨_, .inl ⟨hp, hm1, .inr ⟨hk, rfl⟩⟩⟩
    · rename_i hge
      rw [if_neg hge] at he
      exact absurd rfl he
theorem change_at' {l : List Mb} (h : VL l) {ow : List Int} (hl : ow.length = 64) (hneg : ∀ n ∈ ow, n ≠ -1) {s : Nat} (hs : s < 64) : ∃ n, (changeL P Q l ow).getD s 0 = n ∧
    (cnt (keepR ow (limitL l) s) (ow.getD s 0) < limitL l (ow.getD s 0) ∧ n = ow.getD s 0 ∨ ¬ cnt (keepR ow (limitL l) s) (ow.getD s 0) < limitL l (ow.getD s 0) ∧ n ≠ ow.getD s 0) := by
  obtain ⟨n, hm⟩ := change_at P Q h hl hs
  obtain ⟨x, hx⟩ : ∃ x, ow[s]? = some x := ⟨_, List.getElem?_eq_getElem (by omega)⟩
  have e : ow.getD s 0 = x := by rw [List.getD_eq_getElem?_getD, hx]; rfl
  have hx1 := hneg x (List.mem_of_getElem? hx)
  have hg := keepR_get (ow := ow) (g := limitL l) hs
  generalize keepR ow (limitL l) 64 = R at *
  rw [e] at hm hg ⊢
  rcases hm with ⟨a1, a2, ⟨b1, b2⟩ | ⟨b1, b2⟩⟩ | hm
  · refine ⟨n, by rw [List.getD_eq_getElem?_getD, a1]; rfl, .inr ⟨fun hlt => ?_, b2⟩⟩
    rw [if_pos hlt, b1] at hg
    simp only [Option.some.injEq] at hg
    exact hx1 hg.symm
  · refine ⟨n, by rw [List.getD_eq_getElem?_getD, a1]; rfl, ?_⟩
    by_cases hlt : cnt (keepR ow (limitL l) s) x < limitL l x
    · exact .inl ⟨hlt, b2⟩
    · rw [if_neg hlt, b1] at hg
      simp only [Option.some.injEq] at hg
      exact absurd hg a2
  · exact absurd hm hx1
theorem change_ok {l : List Mb} (h : VL l) {ow : List Int} (hl : ow.length = 64) (hneg : ∀ n ∈ ow, n ≠ -1) : (∀ n, cnt (changeL P Q l ow) n ≤ limitL l n) ∧ ∀ n ∈ changeL P Q l ow, n ∈ l.map Mb.node := by
  have h1 := (place_row P Q h hl (homeL (keepR ow (limitL l) 64)).length (Nat.le_refl _)).1
  rw [List.take_length] at h1
  have hno : ∀ n ∈ changeL P Q l ow, n ≠ -1 := fun n hn => by
    obtain ⟨s, hs⟩ := List.mem_iff_getElem?.1 hn
    have hs64 : s < 64 := by have := (List.getElem?_eq_some_iff.1 hs).1; rwa [change_len P Q h hl] at this
    obtain ⟨m, hm⟩ := change_at P Q h hl hs64
    obtain ⟨x, hx⟩ : ∃ x, ow[s]? = some x := ⟨_, List.getElem?_eq_getElem (by omega)⟩
    have e : ow.getD s 0 = x := by rw [List.getD_eq_getElem?_getD, hx]; rfl
    rcases hm with ⟨a1, a2, _⟩ | hm
    · rw [hs] at a1; cases a1; exact a2
    · exact absurd (e ▸ hm) (hneg x (List.mem_of_getElem? hx))
  refine ⟨fun n => ?_, fun n hn => h1.mem n hn (hno n hn)⟩
  by_cases e : n = -1
  · subst e
    have h0 : cnt (changeL P Q l ow) (-1) = 0 := by
      unfold cnt
      have : (changeL P Q l ow).count (-1) = 0 := List.count_eq_zero.2 (fun h => hno _ h rfl)
      omega
    rw [h0]
    exact (limitL_nn l _).1
  · exact h1.le n e
/-- Members that have room for all that they own keep it. -/
theorem change_same {l : List Mb} {ow : List Int} (hl : ow.length = 64) (hc : ∀ n, cnt ow n ≤ limitL l n) (hneg : ∀ n ∈ ow, n ≠ -1) : changeL P Q l ow = ow := by
  unfold changeL
  have e := keepR_all hc (show 64 ≤ ow.length by omega)
  rw [List.take_of_length_le (by omega)] at e
  rw [e]
  have : homeL ow = [] := by
    rw [List.eq_nil_iff_forall_not_mem]
    intro s hs
    exact hneg (-1) (List.mem_of_getElem? (mem_homeL.1 hs)) rfl
  rw [this]
  rfl
end

/-! ### moves -/
/-- A move. -/
structure Mv where
  slot : Int
  frm : Int
  to_ : Int
deriving DecidableEq
def movesK (a b : List Int) : Nat → List Mv
  | 0 => []
  | k + 1 => movesK a b k ++ if b.getD k 0 ≠ a.getD k 0 then [⟨k, a.getD k 0, b.getD k 0⟩] else []
theorem movesK_len (a b : List Int) : ∀ k, (movesK a b k).length ≤ k
  | 0 => Nat.le_refl _
  | k + 1 => by
    have := movesK_len a b k
    unfold movesK
    rw [List.length_append]
    split <;> simp <;> omega
theorem mem_movesK {a b : List Int} {m : Mv} : ∀ {k : Nat}, m ∈ movesK a b k ↔ ∃ s, s < k ∧ b.getD s 0 ≠ a.getD s 0 ∧ m = ⟨s, a.getD s 0, b.getD s 0⟩
  | 0 => by simp [movesK]
  | k + 1 => by
    unfold movesK
    rw [List.mem_append, mem_movesK (k := k)]
    constructor
    · rintro (⟨s, h1, h2, h3⟩ | h)
      · exact ⟨s, by omega, h2, h3⟩
      · split at h
        · rename_i hne
          exact ⟨k, by omega, hne, by simpa using h⟩
        · simp at h
    · rintro ⟨s, h1, h2, h3⟩
      by_cases e : s = k
      · subst e
        rw [if_pos h2]
        exact .inr (by simp [h3])
      · exact .inl ⟨s, by omega, h2, h3⟩
theorem movesK_nodup (a b : List Int) : ∀ k, ((movesK a b k).map Mv.slot).Nodup
  | 0 => List.nodup_nil
  | k + 1 => by
    unfold movesK
    rw [List.map_append, List.nodup_append]
    refine ⟨movesK_nodup a b k, by split <;> simp, fun x hx y hy e => ?_⟩
    obtain ⟨m, hm, rfl⟩ := List.mem_map.1 hx
    obtain ⟨s, h1, _, rfl⟩ := mem_movesK.1 hm
    split at hy
    · simp only [List.map_cons, List.map_nil, List.mem_singleton] at hy
      rw [hy] at e
      simp only [] at e
      omega
    · simp at hy
theorem movesK_self (a : List Int) : ∀ k, movesK a a k = []
  | 0 => rfl
  | k + 1 => by unfold movesK; rw [movesK_self a k]; simp

def applyS (o : List Int) (m : Mv) : List Int := if 0 ≤ m.slot ∧ m.slot < o.length ∧ o.getD m.slot.toNat 0 = m.frm then o.set m.slot.toNat m.to_ else o
def applyL (o : List Int) (ms : List Mv) : List Int := ms.foldl applyS o
theorem applyL_append (o : List Int) (a b : List Mv) : applyL o (a ++ b) = applyL (applyL o a) b := by unfold applyL; rw [List.foldl_append]
theorem applyL_take {o : List Int} {ms : List Mv} {k : Nat} {m : Mv} (h : ms[k]? = some m) : applyL o (ms.take (k + 1)) = applyS (applyL o (ms.take k)) m := by
  rw [List.take_add_one, h]
  exact applyL_append o _ [m]
theorem applyS_len (o : List Int) (m : Mv) : (applyS o m).length = o.length := by unfold applyS; split <;> simp
theorem applyL_len (ms : List Mv) : ∀ o, (applyL o ms).length = o.length := by
  induction ms with
  | nil => intro o; rfl
  | cons m ms ih => intro o; show (applyL (applyS o m) ms).length = _; rw [ih, applyS_len]
theorem applyS_other {o : List Int} {m : Mv} {q : Nat} (h : m.slot ≠ q) : (applyS o m)[q]? = o[q]? := by
  unfold applyS
  split
  · exact List.getElem?_set_ne (by omega)
  · rfl
theorem applyL_other {q : Nat} : ∀ (ms : List Mv) (o : List Int), (∀ m ∈ ms, m.slot ≠ q) → (applyL o ms)[q]? = o[q]? := by
  intro ms
  induction ms with
  | nil => intro o _; rfl
  | cons m ms ih =>
    intro o h
    show (applyL (applyS o m) ms)[q]? = _
    rw [ih _ (fun x hx => h x (by simp [hx])), applyS_other (h m (by simp))]
/-- A list of moves of different slots, applied: what it names goes there. -/
theorem applyL_at {q : Nat} {x y : Int} : ∀ (ms : List Mv) (o : List Int), (ms.map Mv.slot).Nodup → (⟨q, x, y⟩ : Mv) ∈ ms → o[q]? = some x → (applyL o ms)[q]? = some y := by
  intro ms
  induction ms with
  | nil => intro o _ h; simp at h
  | cons m ms ih =>
    intro o hn h ho
    simp only [List.map_cons, List.nodup_cons] at hn
    show (applyL (applyS o m) ms)[q]? = _
    rcases List.mem_cons.1 h with e | h
    · subst e
      rw [applyL_other ms _ (fun m hm e => hn.1 (e ▸ List.mem_map.2 ⟨m, hm, rfl⟩))]
      have hq := (List.getElem?_eq_some_iff.1 ho).1
      unfold applyS
      rw [if_pos ⟨by simp only []; omega, by simp only []; omega, by simp only [Int.toNat_natCast]; rw [List.getD_eq_getElem?_getD, ho]; rfl⟩]
      simp only [Int.toNat_natCast]
      exact List.getElem?_set_self hq
    · refine ih _ hn.2 h ?_
      rw [applyS_other (fun e => hn.1 (e ▸ List.mem_map.2 ⟨_, h, rfl⟩))]
      exact ho
/-- In whatever order. -/
theorem apply_moves {a b : List Int} (hab : a.length = b.length) {ms : List Mv} (hp : ms.Perm (movesK a b a.length)) : applyL a ms = b := by
  have hn : (ms.map Mv.slot).Nodup := (hp.map Mv.slot).nodup_iff.2 (movesK_nodup a b _)
  apply List.ext_getElem?
  intro q
  by_cases hq : q < a.length
  · obtain ⟨x, hx⟩ : ∃ x, a[q]? = some x := ⟨_, List.getElem?_eq_getElem hq⟩
    obtain ⟨y, hy⟩ : ∃ y, b[q]? = some y := ⟨_, List.getElem?_eq_getElem (by omega)⟩
    have ex : a.getD q 0 = x := by rw [List.getD_eq_getElem?_getD, hx]; rfl
    have ey : b.getD q 0 = y := by rw [List.getD_eq_getElem?_getD, hy]; rfl
    by_cases e : y = x
    · rw [applyL_other ms a (fun m hm e' => by
        obtain ⟨s, h1, h2, rfl⟩ := mem_movesK.1 (hp.mem_iff.1 hm)
        simp only [] at e'
        obtain rfl : s = q := by omega
        rw [ex, ey] at h2
        exact h2 e), hx, hy, e]
    · rw [hy]
      refine applyL_at ms a hn (hp.mem_iff.2 (mem_movesK.2 ⟨q, hq, by rw [ex, ey]; exact e, by rw [ex, ey]⟩)) hx
  · rw [List.getElem?_eq_none (by rw [applyL_len]; omega), List.getElem?_eq_none (by omega)]
theorem apply_again {a b : List Int} (_hab : a.length = b.length) : applyL b (movesK a b a.length) = b := by
  have key : ∀ ms : List Mv, (∀ m ∈ ms, m ∈ movesK a b a.length) → applyL b ms = b := by
    intro ms
    induction ms with
    | nil => intro _; rfl
    | cons m ms ih =>
      intro h
      show applyL (applyS b m) ms = b
      obtain ⟨s, h1, h2, rfl⟩ := mem_movesK.1 (h m (by simp))
      have e : applyS b ⟨s, a.getD s 0, b.getD s 0⟩ = b := by
        unfold applyS
        rw [if_neg]
        rintro ⟨_, _, h3⟩
        simp only [Int.toNat_natCast] at h3
        exact h2 h3
      rw [e]
      exact ih (fun x hx => h x (by simp [hx]))
  exact key _ (fun _ h => h)

/-! ### how many move -/
def keptC (a b : List Int) (n : Int) : Nat → Int
  | 0 => 0
  | k + 1 => keptC a b n k + if a.getD k 0 = n ∧ b.getD k 0 = n then 1 else 0
theorem keptC_succ (a b : List Int) (n : Int) (k : Nat) : keptC a b n (k + 1) = keptC a b n k + if a.getD k 0 = n ∧ b.getD k 0 = n then 1 else 0 := rfl
theorem movesK_succ (a b : List Int) (k : Nat) : movesK a b (k + 1) = movesK a b k ++ if b.getD k 0 ≠ a.getD k 0 then [⟨k, a.getD k 0, b.getD k 0⟩] else [] := rfl
theorem keptC_bd (a b : List Int) (n : Int) : ∀ k, 0 ≤ keptC a b n k ∧ keptC a b n k ≤ k
  | 0 => by simp [keptC]
  | k + 1 => by
    have := keptC_bd a b n k
    unfold keptC
    split <;> omega
theorem kept_change (P : Int → Nat → Int) (Q : Nat → Int) {l : List Mb} (h : VL l) {ow : List Int} (hl : ow.length = 64) (hneg : ∀ n ∈ ow, n ≠ -1) {n : Int} (hn : n ≠ -1) {k : Nat} (hk : k ≤ 64) : keptC ow (changeL P Q l ow) n k = cnt (keepR ow (limitL l) k) n := by
  have hat := fun s (hs : s < 64) => change_at' P Q h hl hneg hs
  generalize changeL P Q l ow = nw at *
  induction k with
  | zero => rfl
  | succ k ih =>
    have ih := ih (by omega)
    obtain ⟨m, e2, hm⟩ := hat k (by omega)
    rw [keptC_succ, keepR_succ, cnt_snoc, ih, e2]
    generalize ow.getD k 0 = x at *
    congr 1
    rcases hm with ⟨b1, b2⟩ | ⟨b1, b2⟩
    · subst b2
      rw [if_pos b1]
      by_cases en : n = m
      · rw [if_pos ⟨en.symm, en.symm⟩, if_pos en]
      · rw [if_neg (fun h => en h.1.symm), if_neg en]
    · rw [if_neg b1, if_neg hn, if_neg]
      rintro ⟨h1, h2⟩
      exact b2 (h2.trans h1.symm)
/-- The sum over the first k nodes. -/
def sumK (f : Nat → Int) : Nat → Int
  | 0 => 0
  | k + 1 => sumK f k + f k
theorem sumK_sub (f h : Nat → Int) : ∀ k, sumK (fun n => f n - h n) k = sumK f k - sumK h k
  | 0 => by simp [sumK]
  | k + 1 => by simp only [sumK, sumK_sub f h k]; omega
theorem sumK_congr {f h : Nat → Int} : ∀ {k : Nat}, (∀ n, n < k → f n = h n) → sumK f k = sumK h k
  | 0, _ => rfl
  | k + 1, e => by simp only [sumK]; rw [sumK_congr (fun n hn => e n (by omega)), e k (by omega)]
theorem sumK_one (x : Int) : ∀ k : Nat, sumK (fun n => if (n : Int) = x then 1 else 0) k = if 0 ≤ x ∧ x < k then 1 else 0
  | 0 => by
    show (0 : Int) = _
    rw [if_neg (by omega)]
  | k + 1 => by
    simp only [sumK]
    rw [sumK_one x k]
    by_cases e : (k : Int) = x
    · rw [if_pos e, if_neg (by omega), if_pos (by omega)]; rfl
    · rw [if_neg e]
      by_cases h : 0 ≤ x ∧ x < k
      · rw [if_pos h, if_pos (by omega)]; rfl
      · rw [if_neg h, if_neg (by omega)]; rfl
theorem sumK_add (f h : Nat → Int) : ∀ k, sumK (fun n => f n + h n) k = sumK f k + sumK h k
  | 0 => by simp [sumK]
  | k + 1 => by simp only [sumK, sumK_add f h k]; omega
theorem cnt_cons' (a : Int) (l : List Int) (n : Int) : cnt (a :: l) n = cnt l n + if n = a then 1 else 0 := by
  unfold cnt
  rw [List.count_cons]
  by_cases h : n = a
  · subst h; simp
  · have : ¬ a = n := fun e => h e.symm
    simp [h, this]
theorem sumK_zero : ∀ k : Nat, sumK (fun _ => 0) k = 0
  | 0 => rfl
  | k + 1 => by simp only [sumK]; rw [sumK_zero k]; rfl
theorem sumK_cnt (k : Nat) : ∀ (l : List Int), (∀ x ∈ l, x = -1 ∨ 0 ≤ x ∧ x < k) → sumK (fun n => cnt l n) k = l.length - cnt l (-1)
  | [], _ => by
    have : (fun n : Nat => cnt [] (n : Int)) = fun _ => 0 := by funext n; simp [cnt]
    rw [this, sumK_zero]; simp [cnt]
  | a :: l, h => by
    have ih := sumK_cnt k l (fun x hx => h x (by simp [hx]))
    have e : (fun n : Nat => cnt (a :: l) (n : Int)) = fun n : Nat => cnt l n + if (n : Int) = a then 1 else 0 := by funext n; exact cnt_cons' a l n
    rw [e, sumK_add, sumK_one, ih, cnt_cons', List.length_cons]
    rcases h a (by simp) with rfl | ⟨h1, h2⟩
    · rw [if_neg (by omega), if_pos rfl]; omega
    · rw [if_pos ⟨h1, h2⟩, if_neg (by omega)]; omega
theorem moves_cnt (P : Int → Nat → Int) (Q : Nat → Int) {l : List Mb} (h : VL l) {ow : List Int} (hl : ow.length = 64) (hneg : ∀ n ∈ ow, n ≠ -1) {k : Nat} (hk : k ≤ 64) : ((movesK ow (changeL P Q l ow) k).length : Int) = cnt (keepR ow (limitL l) k) (-1) := by
  have hat := fun s (hs : s < 64) => change_at' P Q h hl hneg hs
  generalize changeL P Q l ow = nw at *
  induction k with
  | zero => rfl
  | succ k ih =>
    have ih := ih (by omega)
    obtain ⟨m, e2, hm⟩ := hat k (by omega)
    have hx : ow.getD k 0 ≠ -1 := by
      obtain ⟨x, hx⟩ : ∃ x, ow[k]? = some x := ⟨_, List.getElem?_eq_getElem (by omega)⟩
      have e : ow.getD k 0 = x := by rw [List.getD_eq_getElem?_getD, hx]; rfl
      rw [e]
      exact hneg x (List.mem_of_getElem? hx)
    rw [movesK_succ, keepR_succ, cnt_snoc, List.length_append, Int.natCast_add, ih, e2]
    generalize ow.getD k 0 = x at *
    congr 1
    rcases hm with ⟨b1, b2⟩ | ⟨b1, b2⟩
    · rw [if_pos b1, if_neg (fun h : m ≠ x => h b2), if_neg (fun e : -1 = x => hx e.symm)]; rfl
    · rw [if_neg b1, if_pos rfl, if_pos b2]; rfl
/-- As many move as must. -/
theorem must_sum (P : Int → Nat → Int) (Q : Nat → Int) {l : List Mb} (h : VL l) {ow : List Int} (hl : ow.length = 64) (hb : ∀ n ∈ ow, 0 ≤ n ∧ n < 24) : sumK (fun n => cnt ow n - keptC ow (changeL P Q l ow) n 64) 24 = (movesK ow (changeL P Q l ow) 64).length := by
  have hneg : ∀ n ∈ ow, n ≠ -1 := fun n hn => by have := hb n hn; omega
  rw [sumK_sub, moves_cnt P Q h hl hneg (Nat.le_refl _), sumK_congr (f := fun n => keptC ow (changeL P Q l ow) n 64) (h := fun n : Nat => cnt (keepR ow (limitL l) 64) n) (fun n _ => kept_change P Q h hl hneg (by omega) (Nat.le_refl _))]
  rw [sumK_cnt 24 ow (fun x hx => .inr (hb x hx)), sumK_cnt 24 (keepR ow (limitL l) 64) (fun x hx => by
    by_cases e : x = -1
    · exact .inl e
    · have := h.node x (keepR_mem x hx e)
      exact .inr (by omega)), keepR_len, hl]
  have h0 : cnt ow (-1) = 0 := by
    unfold cnt
    have : ow.count (-1) = 0 := List.count_eq_zero.2 (fun h => hneg _ h rfl)
    omega
  omega
/-! ### the owners while they are given out -/
/-- What lies in memory: where no owner is named yet, the old one. -/
def progL (ow R : List Int) : List Int := (List.range 64).map (fun s => if R.getD s 0 = -1 then ow.getD s 0 else R.getD s 0)
theorem progL_len (ow R : List Int) : (progL ow R).length = 64 := by simp [progL]
theorem progL_get (ow R : List Int) {s : Nat} (hs : s < 64) : (progL ow R)[s]? = some (if R.getD s 0 = -1 then ow.getD s 0 else R.getD s 0) := by
  unfold progL
  rw [List.getElem?_map, List.getElem?_range hs]; rfl
theorem progL_ext {ow R L : List Int} (hL : L.length = 64) (h : ∀ s, s < 64 → L.getD s 0 = if R.getD s 0 = -1 then ow.getD s 0 else R.getD s 0) : progL ow R = L := by
  apply List.ext_getElem?
  intro s
  by_cases hs : s < 64
  · rw [progL_get ow R hs, ← h s hs, List.getD_eq_getElem?_getD, List.getElem?_eq_getElem (by omega)]; rfl
  · rw [List.getElem?_eq_none (by rw [progL_len]; omega), List.getElem?_eq_none (by omega)]
theorem progL_start {ow : List Int} {g : Int → Int} (hl : ow.length = 64) : progL ow (keepR ow g 64) = ow := by
  refine progL_ext hl (fun s hs => ?_)
  have h := keepR_get (ow := ow) (g := g) hs
  have e : (keepR ow g 64).getD s 0 = if cnt (keepR ow g s) (ow.getD s 0) < g (ow.getD s 0) then ow.getD s 0 else -1 := by rw [List.getD_eq_getElem?_getD, h]; rfl
  rw [e]
  generalize ow.getD s 0 = x
  generalize cnt (keepR ow g s) x = y
  by_cases hlt : y < g x
  · rw [if_pos hlt]; split <;> rfl
  · rw [if_neg hlt, if_pos rfl]
theorem progL_set {ow R : List Int} {s : Nat} {n : Int} (hR : R.length = 64) (hs : s < 64) (hn : n ≠ -1) : progL ow (R.set s n) = (progL ow R).set s n := by
  refine progL_ext (by rw [List.length_set, progL_len]) (fun q hq => ?_)
  rw [List.getD_eq_getElem?_getD, List.getD_eq_getElem?_getD]
  by_cases e : s = q
  · subst e
    rw [List.getElem?_set_self (by rw [progL_len]; exact hs), List.getElem?_set_self (by omega)]
    show n = if n = -1 then _ else n
    rw [if_neg hn]
  · rw [List.getElem?_set_ne e, List.getElem?_set_ne e, progL_get ow R hq, ← List.getD_eq_getElem?_getD]; rfl
theorem progL_end {ow R : List Int} (hR : R.length = 64) (hn : ∀ n ∈ R, n ≠ -1) : progL ow R = R := by
  refine progL_ext hR (fun s hs => ?_)
  have h : R[s]? = some (R.getD s 0) := by rw [List.getD_eq_getElem?_getD, List.getElem?_eq_getElem (by omega)]; rfl
  rw [if_neg (hn _ (List.mem_of_getElem? h))]
theorem change_noneg (P : Int → Nat → Int) (Q : Nat → Int) {l : List Mb} (h : VL l) {ow : List Int} (hl : ow.length = 64) (hneg : ∀ n ∈ ow, n ≠ -1) : ∀ n ∈ changeL P Q l ow, n ≠ -1 := fun n hn => by
  have := (change_ok P Q h hl hneg).2 n hn
  have := h.node n this
  omega
/-- A place is found, and nobody ahead of it has room. -/
theorem place_find (P : Int → Nat → Int) (Q : Nat → Int) {l : List Mb} (h : VL l) {ow : List Int} (hl : ow.length = 64) {k s : Nat} (hs : (homeL (keepR ow (limitL l) 64))[k]? = some s) {R : List Int}
    (hR : placeL (fun s => ords P l (Q s)) (limitL l) ((homeL (keepR ow (limitL l) 64)).take k) (keepR ow (limitL l) 64) = R) :
    s < 64 ∧ R.length = 64 ∧ (∀ n, n ≠ -1 → cnt R n ≤ limitL l n) ∧ ∃ n, firstN (fun n => limitL l n - cnt R n) (ords P l (Q s)) = some n ∧ 0 ≤ n ∧ n ≤ 23 ∧ R[s]? = some (-1) ∧ placeL (fun s => ords P l (Q s)) (limitL l) ((homeL (keepR ow (limitL l) 64)).take (k + 1)) (keepR ow (limitL l) 64) = R.set s n := by
  have hk : k < (homeL (keepR ow (limitL l) 64)).length := (List.getElem?_eq_some_iff.1 hs).1
  obtain ⟨h1, -, -⟩ := place_row P Q h hl k (by omega)
  have hneg := mem_homeL.1 (List.mem_of_getElem? hs)
  have hs64 : s < 64 := by have := (List.getElem?_eq_some_iff.1 hneg).1; rwa [keepR_len] at this
  have hnd := homeL_nodup (keepR ow (limitL l) 64)
  have hnot : s ∉ (homeL (keepR ow (limitL l) 64)).take k := fun hm => by
    obtain ⟨j, hj⟩ := List.mem_iff_getElem?.1 hm
    have hjk : j < k := by have := (List.getElem?_eq_some_iff.1 hj).1; rw [List.length_take] at this; omega
    rw [List.getElem?_take_of_lt hjk] at hj
    obtain ⟨a1, a2⟩ := List.getElem?_eq_some_iff.1 hj
    obtain ⟨b1, b2⟩ := List.getElem?_eq_some_iff.1 hs
    have := (List.getElem_inj hnd).1 (a2.trans b2.symm)
    omega
  have hs1 := placeL_other (fun s => ords P l (Q s)) (limitL l) _ (keepR ow (limitL l) 64) hnot
  rw [hneg] at hs1
  rw [placeL_take _ _ hs]
  rw [hR] at h1 hs1 ⊢
  obtain ⟨n, hf, hm, -, -⟩ := place_ok (ord := fun s => ords P l (Q s)) h.nodup (fun n hn => by have := h.node n hn; omega) (fun s n => by rw [mem_ords P h, List.mem_map]) (by have := limit_sum h; omega) h1 hs1
  have hn0 := h.node n hm
  refine ⟨hs64, h1.len, h1.le, n, hf, hn0.1, hn0.2, hs1, ?_⟩
  unfold placeS
  rw [hf]
theorem okRing_nodes {ep : Int} {l : List Mb} {ow : List Int} (h : okRing ep l ow) : ∀ n ∈ ow, 0 ≤ n ∧ n < 24 := fun n hn => by
  have h1 := mem_cnt_pos hn
  have h2 := h.2.2.2.2 n
  by_cases e : ∃ m ∈ l, m.node = n
  · obtain ⟨m, hm, e⟩ := e
    have := h.2.2.1.ok m hm
    unfold okMb at this
    omega
  · rw [limitL_none (fun m hm e' => e ⟨m, hm, e'⟩)] at h2
    omega
/-- The slots without an owner, and the owners behind the first i placements (under names, so that no search unfolds them). -/
structure HomeAt (l : List Mb) (ow : List Int) (hs : List Nat) : Prop where
  eq : homeL (keepR ow (limitL l) 64) = hs
structure PlaceAt (P : Int → Nat → Int) (Q : Nat → Int) (l : List Mb) (ow : List Int) (i : Nat) (R : List Int) : Prop where
  eq : placeL (fun s => ords P l (Q s)) (limitL l) ((homeL (keepR ow (limitL l) 64)).take i) (keepR ow (limitL l) 64) = R
theorem PlaceAt.find {P : Int → Nat → Int} {Q : Nat → Int} {l : List Mb} (h : VL l) {ow : List Int} (hl : ow.length = 64) {hl' : List Nat} (hh : HomeAt l ow hl') {k s : Nat} (hs : hl'[k]? = some s) {R : List Int} (hR : PlaceAt P Q l ow k R) :
    s < 64 ∧ R.length = 64 ∧ (∀ n, n ≠ -1 → cnt R n ≤ limitL l n) ∧ ∃ n, firstN (fun n => limitL l n - cnt R n) (ords P l (Q s)) = some n ∧ 0 ≤ n ∧ n ≤ 23 ∧ R[s]? = some (-1) ∧ PlaceAt P Q l ow (k + 1) (R.set s n) := by
  obtain ⟨h1⟩ := hh
  obtain ⟨h2⟩ := hR
  rw [← h1] at hs
  obtain ⟨a1, a2, a3, n, a4, a5, a6, a7, a8⟩ := place_find P Q h hl hs h2
  exact ⟨a1, a2, a3, n, a4, a5, a6, a7, ⟨a8⟩⟩
theorem PlaceAt.last {P : Int → Nat → Int} {Q : Nat → Int} {l : List Mb} (h : VL l) {ow : List Int} (hl : ow.length = 64) (hneg : ∀ n ∈ ow, n ≠ -1) {hl' : List Nat} (hh : HomeAt l ow hl') {R : List Int} (hR : PlaceAt P Q l ow hl'.length R) : R = changeL P Q l ow ∧ progL ow R = changeL P Q l ow := by
  obtain ⟨h1⟩ := hh
  obtain ⟨h2⟩ := hR
  rw [← h1, List.take_length] at h2
  have e : R = changeL P Q l ow := h2.symm
  refine ⟨e, ?_⟩
  rw [e]
  exact progL_end (change_len P Q h hl) (change_noneg P Q h hl hneg)
theorem PlaceAt.first {P : Int → Nat → Int} {Q : Nat → Int} {l : List Mb} {ow : List Int} : PlaceAt P Q l ow 0 (keepR ow (limitL l) 64) := ⟨rfl⟩
end Go.Proofs.YtplkmbfeeegaiaaGreatDoor

/-
  The plain law of Reshard: rings that are valid, the concrete rings of sane.
-/
namespace Go.Proofs.YtplkmbfeeegaiaaGreatDoor

section
variable (P : Int → Nat → Int) (Q : Nat → Int)
theorem ok_new {l : List Mb} (h : VL l) {ep : Int} (he : 1 ≤ ep ∧ ep ≤ 1000000) : okRing ep l (ownersL P Q l) :=
  ⟨he.1, he.2, h, (owners_ok P Q h).1, (owners_ok P Q h).2.1⟩
theorem ok_neg {ep : Int} {l : List Mb} {ow : List Int} (h : okRing ep l ow) : ∀ n ∈ ow, n ≠ -1 := fun n hn => by
  have := okRing_nodes h n hn
  omega
theorem ok_change {ep : Int} {l l' : List Mb} {ow : List Int} (h : okRing ep l ow) (hv : VL l') (he : ep < 1000000) : okRing (ep + 1) l' (changeL P Q l' ow) :=
  ⟨by have := h.1; omega, by omega, hv, change_len P Q hv h.2.2.2.1, (change_ok P Q hv h.2.2.2.1 (ok_neg h)).1⟩
theorem ok_self {ep : Int} {l : List Mb} {ow : List Int} (h : okRing ep l ow) : changeL P Q l ow = ow :=
  change_same P Q h.2.2.2.1 h.2.2.2.2 (ok_neg h)
end
/-- Slots counted: everything lies with the nodes named. -/
theorem cnt_sum {ns : List Int} (hn : ns.Nodup) : ∀ (ow : List Int), (∀ x ∈ ow, x ∈ ns) → sumF (cnt ow) ns = ow.length
  | [], _ => by
    have : ∀ ns : List Int, sumF (cnt []) ns = 0 := fun ns => by
      induction ns with
      | nil => rfl
      | cons a ns ih => simp only [sumF, ih]; simp [cnt]
    rw [this]; rfl
  | x :: ow, h => by
    have ih := cnt_sum hn ow (fun y hy => h y (List.mem_cons_of_mem _ hy))
    have key : ∀ ns : List Int, ns.Nodup → sumF (cnt (x :: ow)) ns = sumF (cnt ow) ns + if x ∈ ns then 1 else 0 := fun ns => by
      induction ns with
      | nil => intro _; simp [sumF]
      | cons a ns ih2 =>
        intro hn'
        simp only [List.nodup_cons] at hn'
        simp only [sumF, ih2 hn'.2, cnt_cons']
        by_cases e : a = x
        · subst e
          rw [if_pos rfl, if_neg hn'.1, if_pos List.mem_cons_self]
          omega
        · rw [if_neg e]
          by_cases e2 : x ∈ ns
          · rw [if_pos e2, if_pos (List.mem_cons_of_mem _ e2)]; omega
          · rw [if_neg e2, if_neg (by simp only [List.mem_cons, e2, or_false]; exact fun h => e h.symm)]; omega
    rw [key ns hn, ih, if_pos (h x List.mem_cons_self), List.length_cons]
    omega

/-- The rings of sane. -/
def sl1 : List Mb := [⟨0, 0, 1⟩, ⟨1, 0, 1⟩]
def sl3 : List Mb := [⟨0, 0, 1⟩]
def sl6 : List Mb := [⟨0, 0, 1⟩, ⟨1, 0, 1⟩, ⟨2, 0, 2⟩]
def sl7 : List Mb := [⟨1, 0, 1⟩, ⟨7, 0, 1⟩]
theorem sl1_vl : VL sl1 := (validL_iff _).1 (by decide)
theorem sl3_vl : VL sl3 := (validL_iff _).1 (by decide)
theorem sl6_vl : VL sl6 := (validL_iff _).1 (by decide)
theorem sl7_vl : VL sl7 := (validL_iff _).1 (by decide)
theorem sl6_lim : limitL sl6 0 = 20 ∧ limitL sl6 1 = 20 := by constructor <;> decide
theorem sane_leave {ow : List Int} (h : okRing 2 sl3 ow) (hm : ∀ n ∈ ow, n ∈ sl3.map Mb.node) : cnt ow 0 = 64 := by
  have := cnt_sum (ns := [0]) (by simp) ow (fun x hx => by have := hm x hx; simpa [sl3] using this)
  rw [h.2.2.2.1] at this
  simp only [sumF] at this
  omega
theorem sane_join {ow : List Int} (h : okRing 2 sl6 ow) (hm : ∀ n ∈ ow, n ∈ sl6.map Mb.node) : cnt ow 0 ≤ 20 ∧ 24 ≤ cnt ow 2 := by
  have h1 := h.2.2.2.2 0
  have h2 := h.2.2.2.2 1
  rw [sl6_lim.1] at h1
  rw [sl6_lim.2] at h2
  have := cnt_sum (ns := [0, 1, 2]) (by decide) ow (fun x hx => by have := hm x hx; simpa [sl6] using this)
  rw [h.2.2.2.1] at this
  simp only [sumF] at this
  omega
end Go.Proofs.YtplkmbfeeegaiaaGreatDoor

/-
  The holders of a key.
-/
namespace Go.Proofs.YtplkmbfeeegaiaaGreatDoor
open Go.RowKit Go.Shelf

/-- The rank of a node for a key. -/
def rkT (key : ByteArray) (n : Int) : ByteArray := (key ++ ⟨#[32]⟩) ++ dig n.toNat
def rkOf (key : ByteArray) (n : Int) : Int := (pt (rkT key n) : Nat)
/-- The holders. -/
def holdV (ep : Int) (l : List Mb) (ow : List Int) (key : ByteArray) (n : Int) : List Int := if validRB ep l ow = true then (if n < 1 ∨ 3 < n then [ownerOf ow key] else holdC (rkOf key) l (ownerOf ow key) n.toNat) else []
def HoldPost (w : World) (xs : List Int) (e : Ending) (w' : World) : Prop := ∃ v, e = .returned v ∧ Its w' v xs ∧ Keep (fun _ => False) w w'

/-- The regions of the owner among the first k. -/
def regK (l : List Mb) (o : Int) (k : Nat) (r : Int) : Bool := (l.take k).any (fun m => decide (m.node = o) && decide (m.region = r))
theorem regK_zero (l : List Mb) (o : Int) : regK l o 0 = fun _ => false := by funext r; simp [regK]
theorem regK_succ {l : List Mb} {o : Int} {k : Nat} {m : Mb} (h : l[k]? = some m) : regK l o (k + 1) = fun r => regK l o k r || (decide (m.node = o) && decide (m.region = r)) := by
  funext r
  unfold regK
  rw [List.take_add_one, h, Option.toList_some, List.any_append]
  simp
theorem regK_all {l : List Mb} {o : Int} {k : Nat} (h : l.length ≤ k) : regK l o k = usedC l [o] := by
  funext r
  unfold regK usedC
  rw [List.take_of_length_le h]
  congr 1
  funext m
  have : ([o].contains m.node) = decide (m.node = o) := by simp
  rw [this]
theorem usedC_snoc {l : List Mb} {out : List Int} {x : Mb} (ha : l.Pairwise (fun a b => a.node < b.node)) (hx : x ∈ l) : usedC l (out ++ [x.node]) = fun r => usedC l out r || decide (r = x.region) := by
  funext r
  unfold usedC
  apply Bool.eq_iff_iff.2
  simp only [List.any_eq_true, Bool.or_eq_true, Bool.and_eq_true, decide_eq_true_eq, List.contains_iff_mem, List.mem_append, List.mem_singleton]
  constructor
  · rintro ⟨m, hm, hmo | hmo, hr⟩
    · exact .inl ⟨m, hm, hmo, hr⟩
    · right
      have h1 := findN_mem ha hm
      have h2 := findN_mem ha hx
      rw [hmo, h2] at h1
      cases h1
      exact hr.symm
  · rintro (⟨m, hm, hmo, hr⟩ | rfl)
    · exact ⟨m, hm, .inl hmo, hr⟩
    · exact ⟨x, hx, .inr rfl, rfl⟩

theorem ok_mem {ep : Int} {l : List Mb} {ow : List Int} (h : okRing ep l ow) : ∀ n ∈ ow, n ∈ l.map Mb.node := fun n hn => by
  have h1 := mem_cnt_pos hn
  have h2 := h.2.2.2.2 n
  by_cases e : ∃ m ∈ l, m.node = n
  · obtain ⟨m, hm, e⟩ := e
    exact List.mem_map.2 ⟨m, hm, e⟩
  · rw [limitL_none (fun m hm e' => e ⟨m, hm, e'⟩)] at h2
    omega
theorem owner_mem {ep : Int} {l : List Mb} {ow : List Int} (h : okRing ep l ow) (key : ByteArray) : ownerOf ow key ∈ l.map Mb.node := by
  unfold ownerOf
  rw [if_pos h.2.2.2.1]
  have hs := slotOf_lt key
  have hl := h.2.2.2.1
  rw [List.getD_eq_getElem?_getD, List.getElem?_eq_getElem (by omega), Option.getD_some]
  exact ok_mem h _ (List.getElem_mem _)

/-- What the two searches find. -/
theorem find_both {rk : Int → Int} {l s : List Mb} {out : List Int} (ha : l.Pairwise (fun a b => a.node < b.node)) (hp : s.Perm l) (hs : s.Pairwise (befC rk)) (cs : List Bool) (p : Mb → Bool) (h : ∀ m, cs.all (fun b => condB out (usedC l out) b m) = p m) :
    (cdsOf rk s).find? (fun c => cs.all (fun b => condB out (usedC l out) b c.m)) = (selC rk l p).map (fun m => ⟨m, rk m.node⟩) := by
  rw [← selC_sorted ha hp hs p]
  unfold cdsOf
  rw [List.find?_map]
  congr 2
  funext m
  exact h m
theorem cond_two (l : List Mb) (out : List Int) (m : Mb) : [true, false].all (fun b => condB out (usedC l out) b m) = (freeC out m && awayC l out m) := by
  simp [condB, freeC, awayC, hasI]
theorem cond_one (l : List Mb) (out : List Int) (m : Mb) : [true].all (fun b => condB out (usedC l out) b m) = freeC out m := by
  simp [condB, freeC, hasI]
theorem holdV_len (ep : Int) (l : List Mb) (ow : List Int) (key : ByteArray) (n : Int) : (holdV ep l ow key n).length ≤ 24 := by
  unfold holdV
  split
  · rename_i h
    have hok := (validRB_iff ep l ow).1 h
    split
    · simp
    · have h1 := (holdC_ok (rk := rkOf key) hok.2.2.1.asc (owner_mem hok key) n.toNat).len
      have h2 := hok.2.2.1.len
      omega
  · simp
theorem rkT_size {key : ByteArray} {n : Int} (hk : key.size ≤ 1000) (hn : n.toNat < 100) : (rkT key n).size ≤ 1000000 := by
  have h1 := dig_size hn
  unfold rkT
  rw [ByteArray.size_append, ByteArray.size_append]
  have e2 : (⟨#[32]⟩ : ByteArray).size = 1 := rfl
  omega
end Go.Proofs.YtplkmbfeeegaiaaGreatDoor

/-
  cmp.Compare, cmp.Or, pick.
-/
namespace Go.Proofs.YtplkmbfeeegaiaaGreatDoor.Sk
open Go.RowKit

def cmpI (a b : Int) : Int := if a < b then -1 else if b < a then 1 else 0

set_option maxHeartbeats 400000 in
theorem isNaN_int (a : Int) (w : World) : Calls Tryz.prog 111 #[.int .i64 a] w fun e w' => e = .returned (.bool false) ∧ w = w' := by
  have h : (a != a) = false := by simp
  go_enter Tryz.func111, Tryz.ntmps111
  go_wp2
  go_ret
  exact ⟨rfl, rfl⟩
set_option maxHeartbeats 400000 in
theorem isNaN_str (a : ByteArray) (w : World) : Calls Tryz.prog 171 #[.string a] w fun e w' => e = .returned (.bool false) ∧ w = w' := by
  have h : (a.toList == a.toList) = true := by simp
  go_enter Tryz.func171, Tryz.ntmps171
  go_wp2
  go_ret
  exact ⟨rfl, rfl⟩

set_option maxHeartbeats 400000 in
theorem cmp_int (a b : Int) (w : World) : Calls Tryz.prog 74 #[.int .i64 a, .int .i64 b] w fun e w' => e = .returned (.int .i64 (cmpI a b)) ∧ w = w' := by
  rcases Int.lt_trichotomy a b with h1 | h1 | h1
  · have HC : Hid (cmpI a b = -1) := Lib.hid (by unfold cmpI; rw [if_pos h1])
    go_enter Tryz.func74, Tryz.ntmps74
    go_wp2_with (go_at_call 111; refine (isNaN_int _ _).mono ?_; rintro e w' ⟨rfl, rfl⟩)
    go_ret
    exact ⟨by rw [HC.out]; rfl, rfl⟩
  · have HC : Hid (cmpI a b = 0) := Lib.hid (by unfold cmpI; rw [if_neg (by omega), if_neg (by omega)])
    have h2 : ¬ a < b := by omega
    have h3 : ¬ b < a := by omega
    clear h1
    go_enter Tryz.func74, Tryz.ntmps74
    go_wp2_with (go_at_call 111; refine (isNaN_int _ _).mono ?_; rintro e w' ⟨rfl, rfl⟩)
    go_ret
    exact ⟨by rw [HC.out]; rfl, rfl⟩
  · have HC : Hid (cmpI a b = 1) := Lib.hid (by unfold cmpI; rw [if_neg (by omega), if_pos h1])
    go_enter Tryz.func74, Tryz.ntmps74
    go_wp2_with (go_at_call 111; refine (isNaN_int _ _).mono ?_; rintro e w' ⟨rfl, rfl⟩)
    go_ret
    exact ⟨by rw [HC.out]; rfl, rfl⟩

/-- The order of strings, as cmp.Compare tells it. -/
def cmpS (a b : ByteArray) : Int := if Op.bytesLess a.toList b.toList = true then -1 else if (a.toList == b.toList) = true then 0 else 1

set_option maxHeartbeats 400000 in
theorem cmp_str (a b : ByteArray) (w : World) : Calls Tryz.prog 142 #[.string a, .string b] w fun e w' => e = .returned (.int .i64 (cmpS a b)) ∧ w = w' := by
  cases h1 : Op.bytesLess a.toList b.toList with
  | true =>
    have HC : Hid (cmpS a b = -1) := Lib.hid (by unfold cmpS; rw [if_pos h1])
    go_enter Tryz.func142, Tryz.ntmps142
    go_wp2_with (go_at_call 171; refine (isNaN_str _ _).mono ?_; rintro e w' ⟨rfl, rfl⟩)
    go_ret
    exact ⟨by rw [HC.out]; rfl, rfl⟩
  | false =>
    cases h2 : (a.toList == b.toList) with
    | true =>
      have HC : Hid (cmpS a b = 0) := Lib.hid (by unfold cmpS; rw [if_neg (by rw [h1]; decide), if_pos h2])
      go_enter Tryz.func142, Tryz.ntmps142
      go_wp2_with (go_at_call 171; refine (isNaN_str _ _).mono ?_; rintro e w' ⟨rfl, rfl⟩)
      go_ret
      exact ⟨by rw [HC.out]; rfl, rfl⟩
    | false =>
      have HC : Hid (cmpS a b = 1) := Lib.hid (by unfold cmpS; rw [if_neg (by rw [h1]; decide), if_neg (by rw [h2]; decide)])
      go_enter Tryz.func142, Tryz.ntmps142
      go_wp2_with (go_at_call 171; refine (isNaN_str _ _).mono ?_; rintro e w' ⟨rfl, rfl⟩)
      go_ret
      exact ⟨by rw [HC.out]; rfl, rfl⟩

/-- The first one that is not 0. -/
def orI (x y : Int) : Int := if x = 0 then y else x
set_option maxHeartbeats 400000 in
theorem cmp_or (b c : Nat) (x y : Int) (w : World) (hx : w.cell? ⟨b, 0, none⟩ = some (.int .i64 x)) (hy : w.cell? ⟨b, 1, none⟩ = some (.int .i64 y)) :
    Calls Tryz.prog 108 #[.slice (some ⟨b, 0, none⟩) 2 c] w fun e w' => e = .returned (.int .i64 (orI x y)) ∧ w = w' := by
  have HO : Hid (∀ v, (x ≠ 0 → v = x) → (x = 0 → v = y) → orI x y = v) := Lib.hid (fun v h1 h2 => by
    unfold orI
    by_cases h : x = 0
    · rw [if_pos h, h2 h]
    · rw [if_neg h, h1 h])
  go_enter Tryz.func108, Tryz.ntmps108
  go_wp2_with fail
  go_loop [8] (fun i => ∃ k : Nat, k ≤ 2 ∧ i = .int .i64 k ∧ (1 ≤ k → x = 0) ∧ (2 ≤ k → y = 0)) (fun i => 2 - (intOf i).toNat)
  case atStart => exact ⟨0, by omega, rfl, by omega, by omega⟩
  case round =>
    obtain ⟨k, hk, rfl, h1, h2⟩ := hrel
    have H1 := Lib.hid h1
    have H2 := Lib.hid h2
    clear h1 h2
    by_cases hk0 : k = 0
    · subst hk0
      by_cases hx0 : x = 0
      · have hb : (x == 0) = true := by simpa using hx0
        have HX := Lib.hid hx0
        clear hx0
        go_wp2_with fail
        go_round
        case rel => exact ⟨1, by omega, by go_num, fun _ => HX.out, by omega⟩
        case measure => simp [intOf]
      · have hb : (x == 0) = false := by simpa using hx0
        have HX := Lib.hid hx0
        clear hx0
        go_wp2_with fail
        go_ret
        exact ⟨by rw [HO.out x (fun _ => rfl) (fun h => absurd h HX.out)]; rfl, rfl⟩
    · by_cases hk1 : k = 1
      · subst hk1
        by_cases hy0 : y = 0
        · have hb : (y == 0) = true := by simpa using hy0
          have HY := Lib.hid hy0
          clear hy0
          go_wp2_with fail
          go_round
          case rel => exact ⟨2, by omega, by go_num, fun _ => H1.out (by omega), fun _ => HY.out⟩
          case measure => simp [intOf]
        · have hb : (y == 0) = false := by simpa using hy0
          have HY := Lib.hid hy0
          clear hy0
          go_wp2_with fail
          go_ret
          exact ⟨by rw [HO.out y (fun h => absurd (H1.out (by omega)) h) (fun _ => rfl)]; rfl, rfl⟩
      · obtain rfl : k = 2 := by omega
        go_wp2_with fail
        go_ret
        exact ⟨by rw [HO.out 0 (fun h => absurd (H1.out (by omega)) h) (fun _ => (H2.out (by omega)).symm)]; rfl, rfl⟩

def pk (c n : Int) : Int := (if c < 0 then -(c + 1) else c) % n
end Go.Proofs.YtplkmbfeeegaiaaGreatDoor.Sk

/-
  What a sketch is in memory; compare.
-/
namespace Go.Proofs.YtplkmbfeeegaiaaGreatDoor.Sk
open Go.RowKit

/-- A counter: its key and the bounds. -/
structure C where
  key : ByteArray
  lo : Int
  hi : Int

abbrev ptr (b : Nat) : Value := .pointer (some ⟨b, 0, none⟩)
abbrev bnd (lo hi : Int) : Value := .agg #[.int .i64 lo, .int .i64 hi]
def CRel (L : List C) (k v : Value) : Prop := ∃ x ∈ L, k = .string x.key ∧ v = bnd x.lo x.hi

theorem strKeyed : Maps.Keyed Tryz.prog 9 := Maps.string_keyed Tryz.underlying9
theorem keyStr {s : ByteArray} (h : s.size ≤ maxLen) : keyOf Tryz.prog 9 (.string s) = some (.string s.data.toList) := Go.WideMaps.keyOf_string_mk Tryz.underlying9 h

/-- The counter of a key. -/
def atC (L : List C) (key : ByteArray) : Option C := L.find? (fun x => decide (x.key = key))
def loOf (L : List C) (key : ByteArray) : Int := match atC L key with | none => 0 | some x => x.lo
def hiOf (L : List C) (key : ByteArray) : Int := match atC L key with | none => 0 | some x => x.hi

theorem atC_some {L : List C} {key : ByteArray} {x : C} (h : atC L key = some x) : x ∈ L ∧ x.key = key := by
  have h1 := List.find?_some h
  exact ⟨List.mem_of_find?_eq_some h, by simpa using h1⟩
theorem atC_none {L : List C} {key : ByteArray} (h : atC L key = none) : ∀ x ∈ L, x.key ≠ key := fun x hx e => by
  have := List.find?_eq_none.1 h x hx
  simp [e] at this

theorem zero60 (w : World) : (zeroValue 116).run Tryz.prog w = .ok (bnd 0 0) w := by kernel_rfl

/-- A lookup. -/
theorem look_one {L : List C} {w : World} {bm : Nat} (h : MapRel Tryz.prog 9 w bm (CRel L)) {key : ByteArray} (hk : key.size ≤ maxLen) :
    (Instr.lookup 109 (.map (some bm)) (.string key) false).run Tryz.prog w = .ok (bnd (loOf L key) (hiOf L key)) w := by
  unfold loOf hiOf
  rcases h.look strKeyed Tryz.underlying109 (zero60 w) false (keyStr hk) with ⟨h1, h2⟩ | ⟨v, h1, h2⟩
  · rw [h2]
    cases ha : atC L key with
    | none => rfl
    | some x =>
      obtain ⟨hx, hxk⟩ := atC_some ha
      exact absurd ⟨x, hx, by rw [hxk], rfl⟩ (h1 (bnd x.lo x.hi))
  · rw [h2]
    cases ha : atC L key with
    | none =>
      obtain ⟨x, hx, e, _⟩ := h1
      exact absurd (Value.string.inj e).symm (atC_none ha x hx)
    | some x =>
      obtain ⟨hx, hxk⟩ := atC_some ha
      have e : v = bnd x.lo x.hi := h.fn h1 ⟨x, hx, by rw [hxk], rfl⟩
      subst e
      rfl
theorem look_two {L : List C} {w : World} {bm : Nat} (h : MapRel Tryz.prog 9 w bm (CRel L)) {key : ByteArray} (hk : key.size ≤ maxLen) :
    (Instr.lookup 109 (.map (some bm)) (.string key) true).run Tryz.prog w = .ok (.tuple #[bnd (loOf L key) (hiOf L key), .bool (atC L key).isSome]) w := by
  unfold loOf hiOf
  rcases h.look strKeyed Tryz.underlying109 (zero60 w) true (keyStr hk) with ⟨h1, h2⟩ | ⟨v, h1, h2⟩
  · rw [h2]
    cases ha : atC L key with
    | none => rfl
    | some x =>
      obtain ⟨hx, hxk⟩ := atC_some ha
      exact absurd ⟨x, hx, by rw [hxk], rfl⟩ (h1 (bnd x.lo x.hi))
  · rw [h2]
    cases ha : atC L key with
    | none =>
      obtain ⟨x, hx, e, _⟩ := h1
      exact absurd (Value.string.inj e).symm (atC_none ha x hx)
    | some x =>
      obtain ⟨hx, hxk⟩ := atC_some ha
      have e : v = bnd x.lo x.hi := h.fn h1 ⟨x, hx, by rw [hxk], rfl⟩
      subst e
      rfl

/-- How the sketch orders two keys. -/
def cmpK (L : List C) (a b : ByteArray) : Int := orI (cmpI (hiOf L b) (hiOf L a)) (cmpS a b)

theorem cmp_int' (a b : Int) (w : World) : Calls Tryz.prog 74 #[.int .i64 a, .int .i64 b] w fun e w' => e = .returned (.int .i64 (cmpI a b)) ∧ w' = w := (cmp_int a b w).mono fun _ _ ⟨h1, h2⟩ => ⟨h1, h2.symm⟩
theorem cmp_str' (a b : ByteArray) (w : World) : Calls Tryz.prog 142 #[.string a, .string b] w fun e w' => e = .returned (.int .i64 (cmpS a b)) ∧ w' = w := (cmp_str a b w).mono fun _ _ ⟨h1, h2⟩ => ⟨h1, h2.symm⟩

theorem ints_cell (W : World) (x y : Int) : (W.alloc (.cells #[.int .i64 x, .int .i64 y] 3)).cell? ⟨W.heap.size, 0, none⟩ = some (.int .i64 x) ∧ (W.alloc (.cells #[.int .i64 x, .int .i64 y] 3)).cell? ⟨W.heap.size, 1, none⟩ = some (.int .i64 y) := by
  have hh : (W.alloc (.cells #[.int .i64 x, .int .i64 y] 3)).heap[W.heap.size]? = some (.cells #[.int .i64 x, .int .i64 y] 3) := World.alloc_heap_new _ _
  constructor
  · unfold World.cell?; simp only [hh]; rfl
  · unfold World.cell?; simp only [hh]; rfl

theorem field_hi (lo hi : Int) (w : World) : (Instr.field 116 (bnd lo hi) 1).run Tryz.prog w = .ok (.int .i64 hi) w := by kernel_rfl
theorem field_lo (lo hi : Int) (w : World) : (Instr.field 116 (bnd lo hi) 0).run Tryz.prog w = .ok (.int .i64 lo) w := by kernel_rfl

set_option maxRecDepth 100000 in
set_option maxHeartbeats 1000000 in
theorem compare_any (s bm : Nat) (L : List C) (a b : ByteArray) (w : World) (h2 : w.cell? ⟨s, 2, none⟩ = some (.map (some bm))) (hm : MapRel Tryz.prog 9 w bm (CRel L)) (ha : a.size ≤ maxLen) (hb : b.size ≤ maxLen) :
    Calls Tryz.prog 124 #[ptr s, .string a, .string b] w fun e w' => e = .returned (.int .i64 (cmpK L a b)) ∧ w' = (w.alloc (.cells #[.int .i64 (cmpI (hiOf L b) (hiOf L a)), .int .i64 (cmpS a b)] 3)).drewN 1 := by
  have la := look_one (w := w.drew) (hm.of_heap rfl) ha
  have lb := look_one (w := w.drew) (hm.of_heap rfl) hb
  have HM := Lib.hid hm
  have fa := field_hi (loOf L a) (hiOf L a) w.drew
  have fb := field_hi (loOf L b) (hiOf L b) w.drew
  have h2' : w.drew.cell? ⟨s, 2, none⟩ = some (.map (some bm)) := h2
  clear hm ha hb h2
  go_enter Tryz.func124, Tryz.ntmps124
  go_wp2_with fail
  refine wp_region_still_tail 18 (by kernel_rfl) (by kernel_rfl) ?_
  simp only [List.take_succ_cons, List.take_zero, List.drop_succ_cons, List.drop_zero]
  change wpStill _ _ w.drew _ _ _
  iterate 14 still_step
  still_call (cmp_int' _ _ _)
  iterate 2 still_step
  still_call (cmp_str' _ _ _)
  refine wpStill_nil ?_
  obtain ⟨hc0, hc1⟩ := ints_cell w.drew (cmpI (hiOf L b) (hiOf L a)) (cmpS a b)
  go_wp2_with (go_at_call 108; refine (cmp_or _ 2 _ _ _ hc0 hc1).mono ?_; rintro e w' ⟨rfl, rfl⟩)
  go_ret
  exact ⟨rfl, rfl⟩
end Go.Proofs.YtplkmbfeeegaiaaGreatDoor.Sk

/-
  The order of keys.
-/
namespace Go.Proofs.YtplkmbfeeegaiaaGreatDoor.Sk
open Go.RowKit

theorem toList_inj {s t : ByteArray} (e : s.toList = t.toList) : s = t := by
  rw [ByteArray.toList_eq, ByteArray.toList_eq] at e
  cases s; cases t
  simp at e
  rw [e]

theorem less_iff (a b : List UInt8) : Op.bytesLess a b = true ↔ a < b := by rw [bytesLess_eq]; simp
theorem lt_total (a b : List UInt8) : a < b ∨ a = b ∨ b < a := by
  by_cases h : a < b
  · exact .inl h
  · by_cases h2 : b < a
    · exact .inr (.inr h2)
    · exact .inr (.inl (List.le_antisymm (List.not_lt.1 h2) (List.not_lt.1 h)))
theorem lt_irr (a : List UInt8) : ¬ a < a := List.lt_irrefl a
theorem lt_tr {a b c : List UInt8} (h1 : a < b) (h2 : b < c) : a < c := List.lt_trans h1 h2

/-- a comes before b. -/
def Bef (L : List C) (a b : ByteArray) : Prop := hiOf L b < hiOf L a ∨ (hiOf L b = hiOf L a ∧ a.toList < b.toList)

theorem cmpS_cases (a b : ByteArray) : (cmpS a b = -1 ∧ a.toList < b.toList) ∨ (cmpS a b = 0 ∧ a = b) ∨ (cmpS a b = 1 ∧ b.toList < a.toList) := by
  unfold cmpS
  by_cases h1 : Op.bytesLess a.toList b.toList = true
  · rw [if_pos h1]; exact .inl ⟨rfl, (less_iff _ _).1 h1⟩
  · rw [if_neg h1]
    have h1' : ¬ a.toList < b.toList := fun h => h1 ((less_iff _ _).2 h)
    by_cases h2 : (a.toList == b.toList) = true
    · rw [if_pos h2]; exact .inr (.inl ⟨rfl, toList_inj (by simpa using h2)⟩)
    · rw [if_neg h2]
      have h2' : a.toList ≠ b.toList := by simpa using h2
      rcases lt_total a.toList b.toList with h | h | h
      · exact absurd h h1'
      · exact absurd h h2'
      · exact .inr (.inr ⟨rfl, h⟩)
theorem cmpI_cases (a b : Int) : (cmpI a b = -1 ∧ a < b) ∨ (cmpI a b = 0 ∧ a = b) ∨ (cmpI a b = 1 ∧ b < a) := by
  unfold cmpI
  split
  · exact .inl ⟨rfl, by assumption⟩
  · split
    · exact .inr (.inr ⟨rfl, by assumption⟩)
    · exact .inr (.inl ⟨rfl, by omega⟩)
theorem cmpK_cases (L : List C) (a b : ByteArray) : (cmpK L a b = -1 ∧ Bef L a b) ∨ (cmpK L a b = 0 ∧ a = b) ∨ (cmpK L a b = 1 ∧ Bef L b a) := by
  unfold cmpK orI Bef
  rcases cmpI_cases (hiOf L b) (hiOf L a) with ⟨e, h⟩ | ⟨e, h⟩ | ⟨e, h⟩
  · rw [e]; exact .inl ⟨rfl, .inl h⟩
  · rw [e, if_pos rfl]
    rcases cmpS_cases a b with ⟨e2, h2⟩ | ⟨e2, h2⟩ | ⟨e2, h2⟩
    · rw [e2]; exact .inl ⟨rfl, .inr ⟨h, h2⟩⟩
    · rw [e2]; exact .inr (.inl ⟨rfl, h2⟩)
    · rw [e2]; exact .inr (.inr ⟨rfl, .inr ⟨h.symm, h2⟩⟩)
  · rw [e]; exact .inr (.inr ⟨rfl, .inl h⟩)
theorem Bef.trans {L : List C} {a b c : ByteArray} (h1 : Bef L a b) (h2 : Bef L b c) : Bef L a c := by
  unfold Bef at *
  rcases h1 with h1 | ⟨h1, g1⟩
  · rcases h2 with h2 | ⟨h2, g2⟩
    · left; omega
    · left; omega
  · rcases h2 with h2 | ⟨h2, g2⟩
    · left; omega
    · right; exact ⟨by omega, lt_tr g1 g2⟩
theorem Bef.irrefl {L : List C} {a : ByteArray} (h : Bef L a a) : False := by
  unfold Bef at h
  rcases h with h | ⟨_, h⟩
  · omega
  · exact lt_irr _ h
theorem cmpK_neg {L : List C} {a b : ByteArray} : cmpK L a b < 0 ↔ Bef L a b := by
  rcases cmpK_cases L a b with ⟨e, h⟩ | ⟨e, h⟩ | ⟨e, h⟩
  · rw [e]; exact ⟨fun _ => h, fun _ => by decide⟩
  · rw [e]; exact ⟨fun h => by omega, fun h' => by rw [h] at h'; exact absurd h' (fun h => h.irrefl)⟩
  · rw [e]; exact ⟨fun h => by omega, fun h' => absurd (h.trans h') (fun h => h.irrefl)⟩
theorem cmpK_pos {L : List C} {a b : ByteArray} : 0 < cmpK L a b ↔ Bef L b a := by
  rcases cmpK_cases L a b with ⟨e, h⟩ | ⟨e, h⟩ | ⟨e, h⟩
  · rw [e]; exact ⟨fun h => by omega, fun h' => absurd (h.trans h') (fun h => h.irrefl)⟩
  · rw [e]; exact ⟨fun h => by omega, fun h' => by rw [h] at h'; exact absurd h' (fun h => h.irrefl)⟩
  · rw [e]; exact ⟨fun _ => h, fun _ => by decide⟩
theorem cmpK_zero {L : List C} {a b : ByteArray} : cmpK L a b = 0 ↔ a = b := by
  rcases cmpK_cases L a b with ⟨e, h⟩ | ⟨e, h⟩ | ⟨e, h⟩
  · rw [e]; exact ⟨fun h => by omega, fun h' => by rw [h'] at h; exact absurd h (fun h => h.irrefl)⟩
  · exact ⟨fun _ => h, fun _ => e⟩
  · rw [e]; exact ⟨fun h => by omega, fun h' => by rw [h'] at h; exact absurd h (fun h => h.irrefl)⟩
end Go.Proofs.YtplkmbfeeegaiaaGreatDoor.Sk
