/-
  SketchRefuses: the walk.
-/
import Derived.Test.YtogkkghliogpeaaF2
namespace Go.Proofs.Ytogkkghliogpeaa
open Go.RowKit Go.Shelf

theorem Keep.toBelow {w w' : World} (k : Keep (fun _ => False) w w') : Below w.heap.size w w' := ⟨k.os, k.tape, k.output, k.size, fun i hi => k.block i hi (fun h => h)⟩
theorem add_one (key : ByteArray) (n : Int) : addC 1 [] key n = [⟨key, n, n⟩] := rfl
theorem get_one (key : ByteArray) (n : Int) : getV [⟨key, n, n⟩] key = .tuple #[ctrV key n 0, .bool true] := by
  unfold getV atC
  simp
theorem get_none (key : ByteArray) : getV [] key = .tuple #[ctrV ⟨#[]⟩ 0 0, .bool false] := rfl

set_option maxRecDepth 100000 in
set_option maxHeartbeats 4000000 in
theorem refuses_gv (k : Nat) (k1 : 1 ≤ k) (k2 : k ≤ 64) (n : Int) (n1 : 1 ≤ n) (n2 : n ≤ 1000000000) (key : ByteArray) (hkey : key.size ≤ maxLen) (w : World) :
    Calls Try.prog 9 #[.int .i64 k, .int .i64 n, .string key] w fun e w' => e = .returned (.bool true) ∧ Keep (fun _ => False) w w' := by
  have hn1 : ∀ w, Calls Try.prog 12 #[.int .i64 1] w (NewPost 1 w) := fun w => new_ok 1 (by decide) (by decide) w
  have HN1 := Lib.hid hn1
  clear hn1
  have gd1 : decide (1 ≤ (k : Int)) = true := by simp; omega
  have gd2 : decide ((k : Int) ≤ 64) = true := by simp; omega
  have vd1 : decide (1 ≤ n) = true := by simp; omega
  have vd2 : decide (n ≤ 1000000000) = true := by simp; omega
  go_enter Try.func9, Try.ntmps9
  go_wp2_with fail
  with_reducible refine (sane_any _).mono ?_
  rintro e W0 ⟨rfl, k0⟩
  have HK0 := Lib.hid k0
  clear k0
  go_wp2_with fail
  with_reducible refine (new_ok k k1 k2 _).mono ?_
  rintro e W1 ⟨s, bm, rfl, hs, kk, hl1, hl2⟩
  have HK1 := Lib.hid (HK0.out.trans kk)
  clear hs kk hl1 hl2
  go_wp2_with fail
  with_reducible refine (halve_nil _).mono ?_
  rintro e W2 ⟨rfl, rfl⟩
  go_wp2_with fail
  with_reducible refine (get_nil key _).mono ?_
  rintro e W3 ⟨rfl, kk⟩
  have HK3 := Lib.hid (HK1.out.trans kk)
  clear kk
  go_wp2_with fail
  have HK4 := Lib.hid (HK3.out.alloc (.cells #[.string ⟨#[]⟩, .int .i64 0, .int .i64 0] 37))
  generalize W3.alloc (.cells #[.string ⟨#[]⟩, .int .i64 0, .int .i64 0] 37) = W4 at *
  with_reducible refine (HN1.out _).mono ?_
  rintro e W5 ⟨o, bo, rfl, ho, kk, hl1, hl2⟩
  have HO := Lib.hid ho
  have HK5 := Lib.hid (HK4.out.trans kk)
  have HLE := Lib.hid (And.intro (Nat.le_trans HK4.out.size hl1) (Nat.le_trans HK4.out.size hl2))
  clear ho kk hl1 hl2
  go_wp2_with fail
  with_reducible refine (add_ok HO.out key hkey n (by omega) (by omega) (by simp [sumH]; omega)).mono ?_
  rintro e W6 ⟨rfl, ho, kk⟩
  rw [add_one] at ho
  have HO6 := Lib.hid ho
  have HK6 := Lib.hid (HK5.out.trans' kk (fun i e => .inr (by have := HLE.out; omega)))
  clear ho kk
  go_wp2_with fail
  with_reducible refine (get_sk HO6.out key hkey).mono ?_
  rw [get_one]
  rintro e W7 ⟨rfl, kk⟩
  have HO7 := Lib.hid ((HO6.out.keep kk (fun h => h) (fun h => h)).keep ((Keep.refl (fun _ => False) W7).alloc (.cells #[.string key, .int .i64 n, .int .i64 0] 37)) (fun h => h) (fun h => h))
  have HK7 := Lib.hid ((HK6.out.trans kk).alloc (.cells #[.string key, .int .i64 n, .int .i64 0] 37))
  obtain ⟨e0, e1, e2, _⟩ := three_cell W7 (.string key) (.int .i64 n) (.int .i64 0) 37
  have HE := Lib.hid (And.intro e0 (And.intro e1 e2))
  clear kk e0 e1 e2
  go_wp2_with fail
  generalize W7.alloc (.cells #[.string key, .int .i64 n, .int .i64 0] 37) = W8 at *
  with_reducible refine (add_nil key 1 _).mono ?_
  rintro e W9 ⟨rfl, rfl⟩
  go_wp2_with fail
  with_reducible refine (total_nil _).mono ?_
  rintro e W9 ⟨rfl, rfl⟩
  go_wp2_with fail
  with_reducible refine (top_nil 3 _).mono ?_
  rintro e W9 ⟨rfl, rfl⟩
  go_wp2_with fail
  with_reducible refine (merge_nil1 _ _).mono ?_
  rintro e W10 ⟨rfl, ka⟩
  have HKA := Lib.hid ka
  clear ka
  go_wp2_with fail
  with_reducible refine (merge_nil2 _ _).mono ?_
  rintro e W11 ⟨rfl, kb⟩
  have HKB2 := Lib.hid (HKA.out.trans kb)
  have HO11 := Lib.hid (HO7.out.keep HKB2.out (fun h => h) (fun h => h))
  have e0 := HKB2.out.cell HE.out.1 (fun h => h)
  have e1 := HKB2.out.cell HE.out.2.1 (fun h => h)
  have e2 := HKB2.out.cell HE.out.2.2 (fun h => h)
  have hgd : Try.prog.eqGuardType Try.prog.depth 37 = false := by kernel_rfl
  clear kb
  go_wp2_with fail
  go_ret
  exact ⟨rfl, HK7.out.trans HKB2.out⟩

set_option maxRecDepth 100000 in
set_option maxHeartbeats 4000000 in
theorem refuses_gi (k : Nat) (k1 : 1 ≤ k) (k2 : k ≤ 64) (n : Int) (hn : n < 1 ∨ 1000000000 < n) (key : ByteArray) (hkey : key.size ≤ maxLen) (w : World) :
    Calls Try.prog 9 #[.int .i64 k, .int .i64 n, .string key] w fun e w' => e = .returned (.bool true) ∧ Keep (fun _ => False) w w' := by
  have hn1 : ∀ w, Calls Try.prog 12 #[.int .i64 1] w (NewPost 1 w) := fun w => new_ok 1 (by decide) (by decide) w
  have HN1 := Lib.hid hn1
  clear hn1
  have gd1 : decide (1 ≤ (k : Int)) = true := by simp; omega
  have gd2 : decide ((k : Int) ≤ 64) = true := by simp; omega
  have HNB := Lib.hid hn
  have vd : decide (1 ≤ n) = false ∨ (decide (1 ≤ n) = true ∧ decide (n ≤ 1000000000) = false) := by
    by_cases h : 1 ≤ n
    · right; simp; omega
    · left; simp; omega
  clear hn
  rcases vd with vd1 | ⟨vd1, vd2⟩
  all_goals
    go_enter Try.func9, Try.ntmps9
    go_wp2_with fail
    with_reducible refine (sane_any _).mono ?_
    rintro e W0 ⟨rfl, k0⟩
    have HK0 := Lib.hid k0
    clear k0
    go_wp2_with fail
    with_reducible refine (new_ok k k1 k2 _).mono ?_
    rintro e W1 ⟨s, bm, rfl, hs, kk, hl1, hl2⟩
    have HK1 := Lib.hid (HK0.out.trans kk)
    clear hs kk hl1 hl2
    go_wp2_with fail
    with_reducible refine (halve_nil _).mono ?_
    rintro e W2 ⟨rfl, rfl⟩
    go_wp2_with fail
    with_reducible refine (get_nil key _).mono ?_
    rintro e W3 ⟨rfl, kk⟩
    have HK3 := Lib.hid (HK1.out.trans kk)
    clear kk
    go_wp2_with fail
    have HK4 := Lib.hid (HK3.out.alloc (.cells #[.string ⟨#[]⟩, .int .i64 0, .int .i64 0] 37))
    generalize W3.alloc (.cells #[.string ⟨#[]⟩, .int .i64 0, .int .i64 0] 37) = W4 at *
    with_reducible refine (HN1.out _).mono ?_
    rintro e W5 ⟨o, bo, rfl, ho, kk, hl1, hl2⟩
    have HO := Lib.hid ho
    have HK5 := Lib.hid (HK4.out.trans kk)
    have HLE := Lib.hid (And.intro (Nat.le_trans HK4.out.size hl1) (Nat.le_trans HK4.out.size hl2))
    clear ho kk hl1 hl2
    go_wp2_with fail
    with_reducible refine (add_bad HO.out key n (by have := HNB.out; omega)).mono ?_
    rintro e W6 ⟨rfl, rfl⟩
    go_wp2_with fail
    with_reducible refine (get_sk HO.out key hkey).mono ?_
    rw [get_none]
    rintro e W7 ⟨rfl, kk⟩
    have HO7 := Lib.hid ((HO.out.keep kk (fun h => h) (fun h => h)).keep ((Keep.refl (fun _ => False) W7).alloc (.cells #[.string ⟨#[]⟩, .int .i64 0, .int .i64 0] 37)) (fun h => h) (fun h => h))
    have HK7 := Lib.hid ((HK5.out.trans kk).alloc (.cells #[.string ⟨#[]⟩, .int .i64 0, .int .i64 0] 37))
    clear kk
    go_wp2_with fail
    generalize W7.alloc (.cells #[.string ⟨#[]⟩, .int .i64 0, .int .i64 0] 37) = W8 at *
    with_reducible refine (add_nil key 1 _).mono ?_
    rintro e W9 ⟨rfl, rfl⟩
    go_wp2_with fail
    with_reducible refine (total_nil _).mono ?_
    rintro e W9 ⟨rfl, rfl⟩
    go_wp2_with fail
    with_reducible refine (top_nil 3 _).mono ?_
    rintro e W9 ⟨rfl, rfl⟩
    go_wp2_with fail
    with_reducible refine (merge_nil1 _ _).mono ?_
    rintro e W10 ⟨rfl, ka⟩
    have HKA := Lib.hid ka
    clear ka
    go_wp2_with fail
    with_reducible refine (merge_nil2 _ _).mono ?_
    rintro e W11 ⟨rfl, kb⟩
    have HKB2 := Lib.hid (HKA.out.trans kb)
    have HO11 := Lib.hid (HO7.out.keep HKB2.out (fun h => h) (fun h => h))
    have HTOT : Hid (Calls Try.prog 16 #[ptr o] W11 fun e w' => e = .returned (.int .i64 0) ∧ W11 = w') := Lib.hid (total_sk HO11.out)
    clear kb
    go_wp2_with fail
    with_reducible refine HTOT.out.mono ?_
    rintro e W12 ⟨rfl, rfl⟩
    go_wp2_with fail
    go_ret
    exact ⟨rfl, HK7.out.trans HKB2.out⟩

set_option maxRecDepth 100000 in
set_option maxHeartbeats 4000000 in
theorem refuses_bv (k : Int) (hk : k < 1 ∨ 64 < k) (n : Int) (n1 : 1 ≤ n) (n2 : n ≤ 1000000000) (key : ByteArray) (hkey : key.size ≤ maxLen) (w : World) :
    Calls Try.prog 9 #[.int .i64 k, .int .i64 n, .string key] w fun e w' => e = .returned (.bool true) ∧ Keep (fun _ => False) w w' := by
  have hn1 : ∀ w, Calls Try.prog 12 #[.int .i64 1] w (NewPost 1 w) := fun w => new_ok 1 (by decide) (by decide) w
  have HN1 := Lib.hid hn1
  clear hn1
  have HKB := Lib.hid hk
  have vd1 : decide (1 ≤ n) = true := by simp; omega
  have vd2 : decide (n ≤ 1000000000) = true := by simp; omega
  have gd : decide (1 ≤ k) = false ∨ (decide (1 ≤ k) = true ∧ decide (k ≤ 64) = false) := by
    by_cases h : 1 ≤ k
    · right; simp; omega
    · left; simp; omega
  clear hk
  rcases gd with gd1 | ⟨gd1, gd2⟩
  all_goals
    go_enter Try.func9, Try.ntmps9
    go_wp2_with fail
    with_reducible refine (sane_any _).mono ?_
    rintro e W0 ⟨rfl, k0⟩
    have HK0 := Lib.hid k0
    clear k0
    go_wp2_with fail
    with_reducible refine (new_bad k HKB.out _).mono ?_
    rintro e W1 ⟨rfl, rfl⟩
    have HK1 := HK0
    go_wp2_with fail
    with_reducible refine (halve_nil _).mono ?_
    rintro e W2 ⟨rfl, rfl⟩
    go_wp2_with fail
    with_reducible refine (get_nil key _).mono ?_
    rintro e W3 ⟨rfl, kk⟩
    have HK3 := Lib.hid (HK1.out.trans kk)
    clear kk
    go_wp2_with fail
    have HK4 := Lib.hid (HK3.out.alloc (.cells #[.string ⟨#[]⟩, .int .i64 0, .int .i64 0] 37))
    generalize W3.alloc (.cells #[.string ⟨#[]⟩, .int .i64 0, .int .i64 0] 37) = W4 at *
    with_reducible refine (HN1.out _).mono ?_
    rintro e W5 ⟨o, bo, rfl, ho, kk, hl1, hl2⟩
    have HO := Lib.hid ho
    have HK5 := Lib.hid (HK4.out.trans kk)
    have HLE := Lib.hid (And.intro (Nat.le_trans HK4.out.size hl1) (Nat.le_trans HK4.out.size hl2))
    clear ho kk hl1 hl2
    go_wp2_with fail
    with_reducible refine (add_ok HO.out key hkey n (by omega) (by omega) (by simp [sumH]; omega)).mono ?_
    rintro e W6 ⟨rfl, ho, kk⟩
    rw [add_one] at ho
    have HO6 := Lib.hid ho
    have HK6 := Lib.hid (HK5.out.trans' kk (fun i e => .inr (by have := HLE.out; omega)))
    clear ho kk
    go_wp2_with fail
    with_reducible refine (get_sk HO6.out key hkey).mono ?_
    rw [get_one]
    rintro e W7 ⟨rfl, kk⟩
    have HO7 := Lib.hid ((HO6.out.keep kk (fun h => h) (fun h => h)).keep ((Keep.refl (fun _ => False) W7).alloc (.cells #[.string key, .int .i64 n, .int .i64 0] 37)) (fun h => h) (fun h => h))
    have HK7 := Lib.hid ((HK6.out.trans kk).alloc (.cells #[.string key, .int .i64 n, .int .i64 0] 37))
    obtain ⟨e0, e1, e2, _⟩ := three_cell W7 (.string key) (.int .i64 n) (.int .i64 0) 37
    have HE := Lib.hid (And.intro e0 (And.intro e1 e2))
    clear kk e0 e1 e2
    go_wp2_with fail
    generalize W7.alloc (.cells #[.string key, .int .i64 n, .int .i64 0] 37) = W8 at *
    with_reducible refine (add_nil key 1 _).mono ?_
    rintro e W9 ⟨rfl, rfl⟩
    go_wp2_with fail
    with_reducible refine (total_nil _).mono ?_
    rintro e W9 ⟨rfl, rfl⟩
    go_wp2_with fail
    with_reducible refine (top_nil 3 _).mono ?_
    rintro e W9 ⟨rfl, rfl⟩
    go_wp2_with fail
    with_reducible refine (merge_nil1 _ _).mono ?_
    rintro e W10 ⟨rfl, ka⟩
    have HKA := Lib.hid ka
    clear ka
    go_wp2_with fail
    with_reducible refine (merge_nil2 _ _).mono ?_
    rintro e W11 ⟨rfl, kb⟩
    have HKB2 := Lib.hid (HKA.out.trans kb)
    have HO11 := Lib.hid (HO7.out.keep HKB2.out (fun h => h) (fun h => h))
    have e0 := HKB2.out.cell HE.out.1 (fun h => h)
    have e1 := HKB2.out.cell HE.out.2.1 (fun h => h)
    have e2 := HKB2.out.cell HE.out.2.2 (fun h => h)
    have hgd : Try.prog.eqGuardType Try.prog.depth 37 = false := by kernel_rfl
    clear kb
    go_wp2_with fail
    go_ret
    exact ⟨rfl, HK7.out.trans HKB2.out⟩

set_option maxRecDepth 100000 in
set_option maxHeartbeats 4000000 in
theorem refuses_bi (k : Int) (hk : k < 1 ∨ 64 < k) (n : Int) (hn : n < 1 ∨ 1000000000 < n) (key : ByteArray) (hkey : key.size ≤ maxLen) (w : World) :
    Calls Try.prog 9 #[.int .i64 k, .int .i64 n, .string key] w fun e w' => e = .returned (.bool true) ∧ Keep (fun _ => False) w w' := by
  have hn1 : ∀ w, Calls Try.prog 12 #[.int .i64 1] w (NewPost 1 w) := fun w => new_ok 1 (by decide) (by decide) w
  have HN1 := Lib.hid hn1
  clear hn1
  have HKB := Lib.hid hk
  have HNB := Lib.hid hn
  have gd : decide (1 ≤ k) = false ∨ (decide (1 ≤ k) = true ∧ decide (k ≤ 64) = false) := by
    by_cases h : 1 ≤ k
    · right; simp; omega
    · left; simp; omega
  have vd : decide (1 ≤ n) = false ∨ (decide (1 ≤ n) = true ∧ decide (n ≤ 1000000000) = false) := by
    by_cases h : 1 ≤ n
    · right; simp; omega
    · left; simp; omega
  clear hk
  rcases gd with gd1 | ⟨gd1, gd2⟩
  all_goals clear hn
  all_goals rcases vd with vd1 | ⟨vd1, vd2⟩
  all_goals
    go_enter Try.func9, Try.ntmps9
    go_wp2_with fail
    with_reducible refine (sane_any _).mono ?_
    rintro e W0 ⟨rfl, k0⟩
    have HK0 := Lib.hid k0
    clear k0
    go_wp2_with fail
    with_reducible refine (new_bad k HKB.out _).mono ?_
    rintro e W1 ⟨rfl, rfl⟩
    have HK1 := HK0
    go_wp2_with fail
    with_reducible refine (halve_nil _).mono ?_
    rintro e W2 ⟨rfl, rfl⟩
    go_wp2_with fail
    with_reducible refine (get_nil key _).mono ?_
    rintro e W3 ⟨rfl, kk⟩
    have HK3 := Lib.hid (HK1.out.trans kk)
    clear kk
    go_wp2_with fail
    have HK4 := Lib.hid (HK3.out.alloc (.cells #[.string ⟨#[]⟩, .int .i64 0, .int .i64 0] 37))
    generalize W3.alloc (.cells #[.string ⟨#[]⟩, .int .i64 0, .int .i64 0] 37) = W4 at *
    with_reducible refine (HN1.out _).mono ?_
    rintro e W5 ⟨o, bo, rfl, ho, kk, hl1, hl2⟩
    have HO := Lib.hid ho
    have HK5 := Lib.hid (HK4.out.trans kk)
    have HLE := Lib.hid (And.intro (Nat.le_trans HK4.out.size hl1) (Nat.le_trans HK4.out.size hl2))
    clear ho kk hl1 hl2
    go_wp2_with fail
    with_reducible refine (add_bad HO.out key n (by have := HNB.out; omega)).mono ?_
    rintro e W6 ⟨rfl, rfl⟩
    go_wp2_with fail
    with_reducible refine (get_sk HO.out key hkey).mono ?_
    rw [get_none]
    rintro e W7 ⟨rfl, kk⟩
    have HO7 := Lib.hid ((HO.out.keep kk (fun h => h) (fun h => h)).keep ((Keep.refl (fun _ => False) W7).alloc (.cells #[.string ⟨#[]⟩, .int .i64 0, .int .i64 0] 37)) (fun h => h) (fun h => h))
    have HK7 := Lib.hid ((HK5.out.trans kk).alloc (.cells #[.string ⟨#[]⟩, .int .i64 0, .int .i64 0] 37))
    clear kk
    go_wp2_with fail
    generalize W7.alloc (.cells #[.string ⟨#[]⟩, .int .i64 0, .int .i64 0] 37) = W8 at *
    with_reducible refine (add_nil key 1 _).mono ?_
    rintro e W9 ⟨rfl, rfl⟩
    go_wp2_with fail
    with_reducible refine (total_nil _).mono ?_
    rintro e W9 ⟨rfl, rfl⟩
    go_wp2_with fail
    with_reducible refine (top_nil 3 _).mono ?_
    rintro e W9 ⟨rfl, rfl⟩
    go_wp2_with fail
    with_reducible refine (merge_nil1 _ _).mono ?_
    rintro e W10 ⟨rfl, ka⟩
    have HKA := Lib.hid ka
    clear ka
    go_wp2_with fail
    with_reducible refine (merge_nil2 _ _).mono ?_
    rintro e W11 ⟨rfl, kb⟩
    have HKB2 := Lib.hid (HKA.out.trans kb)
    have HO11 := Lib.hid (HO7.out.keep HKB2.out (fun h => h) (fun h => h))
    have HTOT : Hid (Calls Try.prog 16 #[ptr o] W11 fun e w' => e = .returned (.int .i64 0) ∧ W11 = w') := Lib.hid (total_sk HO11.out)
    clear kb
    go_wp2_with fail
    with_reducible refine HTOT.out.mono ?_
    rintro e W12 ⟨rfl, rfl⟩
    go_wp2_with fail
    go_ret
    exact ⟨rfl, HK7.out.trans HKB2.out⟩

theorem sketchRefuses_walk (k n : Int) (key : ByteArray) (w : World) (hk : -9223372036854775808 ≤ k ∧ k ≤ 9223372036854775807) (hn : -9223372036854775808 ≤ n ∧ n ≤ 9223372036854775807) (hkey : key.size ≤ maxLen) :
    Calls Try.prog 9 #[.int .i64 k, .int .i64 n, .string key] w fun e w' => e = .returned (.bool true) ∧ Below w.heap.size w w' := by
  have key2 : Calls Try.prog 9 #[.int .i64 k, .int .i64 n, .string key] w fun e w' => e = .returned (.bool true) ∧ Keep (fun _ => False) w w' := by
    by_cases hg : 1 ≤ k ∧ k ≤ 64
    · obtain ⟨q, rfl⟩ : ∃ q : Nat, k = q := ⟨k.toNat, by omega⟩
      by_cases hv : 1 ≤ n ∧ n ≤ 1000000000
      · exact refuses_gv q (by omega) (by omega) n hv.1 hv.2 key hkey w
      · exact refuses_gi q (by omega) (by omega) n (by omega) key hkey w
    · by_cases hv : 1 ≤ n ∧ n ≤ 1000000000
      · exact refuses_bv k (by omega) n hv.1 hv.2 key hkey w
      · exact refuses_bi k (by omega) n (by omega) key hkey w
  exact key2.mono fun _ _ ⟨h1, h2⟩ => ⟨h1, h2.toBelow⟩
end Go.Proofs.Ytogkkghliogpeaa
