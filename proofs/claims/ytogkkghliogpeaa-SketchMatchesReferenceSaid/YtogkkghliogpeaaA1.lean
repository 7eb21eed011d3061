/-
  cmp.Compare, cmp.Or, pick.
-/
import Derived.Test.YtogkkghliogpeaaProg
import Derived.Test.YtogkkghliogpeaaG2
import Derived.WalkKit
import Derived.WalkMore
import Derived.WalkSpells
import Derived.WalkLawsBesides
import Derived.LoopTactic
import Derived.Lib.Hide
namespace Go.Proofs.Ytogkkghliogpeaa
open Go.RowKit

def cmpI (a b : Int) : Int := if a < b then -1 else if b < a then 1 else 0

set_option maxHeartbeats 400000 in
theorem isNaN_int (a : Int) (w : World) : Calls Try.prog 53 #[.int .i64 a] w fun e w' => e = .returned (.bool false) ∧ w = w' := by
  have h : (a != a) = false := by simp
  go_enter Try.func53, Try.ntmps53
  go_wp2
  go_ret
  exact ⟨rfl, rfl⟩
set_option maxHeartbeats 400000 in
theorem isNaN_str (a : ByteArray) (w : World) : Calls Try.prog 54 #[.string a] w fun e w' => e = .returned (.bool false) ∧ w = w' := by
  have h : (a.toList == a.toList) = true := by simp
  go_enter Try.func54, Try.ntmps54
  go_wp2
  go_ret
  exact ⟨rfl, rfl⟩

set_option maxHeartbeats 400000 in
theorem cmp_int (a b : Int) (w : World) : Calls Try.prog 48 #[.int .i64 a, .int .i64 b] w fun e w' => e = .returned (.int .i64 (cmpI a b)) ∧ w = w' := by
  rcases Int.lt_trichotomy a b with h1 | h1 | h1
  · have HC : Hid (cmpI a b = -1) := Lib.hid (by unfold cmpI; rw [if_pos h1])
    go_enter Try.func48, Try.ntmps48
    go_wp2_with (go_at_call 53; refine (isNaN_int _ _).mono ?_; rintro e w' ⟨rfl, rfl⟩)
    go_ret
    exact ⟨by rw [HC.out]; rfl, rfl⟩
  · have HC : Hid (cmpI a b = 0) := Lib.hid (by unfold cmpI; rw [if_neg (by omega), if_neg (by omega)])
    have h2 : ¬ a < b := by omega
    have h3 : ¬ b < a := by omega
    clear h1
    go_enter Try.func48, Try.ntmps48
    go_wp2_with (go_at_call 53; refine (isNaN_int _ _).mono ?_; rintro e w' ⟨rfl, rfl⟩)
    go_ret
    exact ⟨by rw [HC.out]; rfl, rfl⟩
  · have HC : Hid (cmpI a b = 1) := Lib.hid (by unfold cmpI; rw [if_neg (by omega), if_pos h1])
    go_enter Try.func48, Try.ntmps48
    go_wp2_with (go_at_call 53; refine (isNaN_int _ _).mono ?_; rintro e w' ⟨rfl, rfl⟩)
    go_ret
    exact ⟨by rw [HC.out]; rfl, rfl⟩

/-- The order of strings, as cmp.Compare tells it. -/
def cmpS (a b : ByteArray) : Int := if Op.bytesLess a.toList b.toList = true then -1 else if (a.toList == b.toList) = true then 0 else 1

set_option maxHeartbeats 400000 in
theorem cmp_str (a b : ByteArray) (w : World) : Calls Try.prog 49 #[.string a, .string b] w fun e w' => e = .returned (.int .i64 (cmpS a b)) ∧ w = w' := by
  cases h1 : Op.bytesLess a.toList b.toList with
  | true =>
    have HC : Hid (cmpS a b = -1) := Lib.hid (by unfold cmpS; rw [if_pos h1])
    go_enter Try.func49, Try.ntmps49
    go_wp2_with (go_at_call 54; refine (isNaN_str _ _).mono ?_; rintro e w' ⟨rfl, rfl⟩)
    go_ret
    exact ⟨by rw [HC.out]; rfl, rfl⟩
  | false =>
    cases h2 : (a.toList == b.toList) with
    | true =>
      have HC : Hid (cmpS a b = 0) := Lib.hid (by unfold cmpS; rw [if_neg (by rw [h1]; decide), if_pos h2])
      go_enter Try.func49, Try.ntmps49
      go_wp2_with (go_at_call 54; refine (isNaN_str _ _).mono ?_; rintro e w' ⟨rfl, rfl⟩)
      go_ret
      exact ⟨by rw [HC.out]; rfl, rfl⟩
    | false =>
      have HC : Hid (cmpS a b = 1) := Lib.hid (by unfold cmpS; rw [if_neg (by rw [h1]; decide), if_neg (by rw [h2]; decide)])
      go_enter Try.func49, Try.ntmps49
      go_wp2_with (go_at_call 54; refine (isNaN_str _ _).mono ?_; rintro e w' ⟨rfl, rfl⟩)
      go_ret
      exact ⟨by rw [HC.out]; rfl, rfl⟩

/-- The first one that is not 0. -/
def orI (x y : Int) : Int := if x = 0 then y else x
set_option maxHeartbeats 400000 in
theorem cmp_or (b c : Nat) (x y : Int) (w : World) (hx : w.cell? ⟨b, 0, none⟩ = some (.int .i64 x)) (hy : w.cell? ⟨b, 1, none⟩ = some (.int .i64 y)) :
    Calls Try.prog 47 #[.slice (some ⟨b, 0, none⟩) 2 c] w fun e w' => e = .returned (.int .i64 (orI x y)) ∧ w = w' := by
  have HO : Hid (∀ v, (x ≠ 0 → v = x) → (x = 0 → v = y) → orI x y = v) := Lib.hid (fun v h1 h2 => by
    unfold orI
    by_cases h : x = 0
    · rw [if_pos h, h2 h]
    · rw [if_neg h, h1 h])
  go_enter Try.func47, Try.ntmps47
  go_wp2_with fail
  go_loop [8] (fun i => ∃ k : Nat, k ≤ 2 ∧ i = .int .i64 k ∧ (1 ≤ k → x = 0) ∧ (2 ≤ k → y = 0)) (fun i => 2 - (intOf i).toNat)
  case atStart => exact ⟨0, by omega, rfl, by omega, by omega⟩
  case round =>
    obtain ⟨k, hk, rfl, h1, h2⟩ := hrel
    have H1 := Lib.hid h1
    have H2 := Lib.hid h2
    clear h1 h2
    by_cases hk0 : k = 0
    · subst hk0
      by_cases hx0 : x = 0
      · have hb : (x == 0) = true := by simpa using hx0
        have HX := Lib.hid hx0
        clear hx0
        go_wp2_with fail
        go_round
        case rel => exact ⟨1, by omega, by go_num, fun _ => HX.out, by omega⟩
        case measure => simp [intOf]
      · have hb : (x == 0) = false := by simpa using hx0
        have HX := Lib.hid hx0
        clear hx0
        go_wp2_with fail
        go_ret
        exact ⟨by rw [HO.out x (fun _ => rfl) (fun h => absurd h HX.out)]; rfl, rfl⟩
    · by_cases hk1 : k = 1
      · subst hk1
        by_cases hy0 : y = 0
        · have hb : (y == 0) = true := by simpa using hy0
          have HY := Lib.hid hy0
          clear hy0
          go_wp2_with fail
          go_round
          case rel => exact ⟨2, by omega, by go_num, fun _ => H1.out (by omega), fun _ => HY.out⟩
          case measure => simp [intOf]
        · have hb : (y == 0) = false := by simpa using hy0
          have HY := Lib.hid hy0
          clear hy0
          go_wp2_with fail
          go_ret
          exact ⟨by rw [HO.out y (fun h => absurd (H1.out (by omega)) h) (fun _ => rfl)]; rfl, rfl⟩
      · obtain rfl : k = 2 := by omega
        go_wp2_with fail
        go_ret
        exact ⟨by rw [HO.out 0 (fun h => absurd (H1.out (by omega)) h) (fun _ => (H2.out (by omega)).symm)]; rfl, rfl⟩

def pk (c n : Int) : Int := (if c < 0 then -(c + 1) else c) % n
end Go.Proofs.Ytogkkghliogpeaa
