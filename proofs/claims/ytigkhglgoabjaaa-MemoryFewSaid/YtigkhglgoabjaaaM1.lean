/-
  MemoryRefuses: the walk.
-/
import Derived.Test.YtigkhglgoabjaaaK2
import Derived.LoopTactic
import Derived.Below
namespace Go.Proofs.Ytigkhglgoabjaaa
open Go.RowKit Go.Shelf

def IsRow (k : IntKind) (w : World) (a : Option Addr) (len cap : Nat) (zs : List Int) : Prop :=
  (a = none ∧ len = 0 ∧ cap = 0 ∧ zs = []) ∨
  ∃ x, a = some x ∧ len ≤ cap ∧ cap ≤ maxLen ∧ zs.length = cap ∧ (∀ i, i < zs.length → w.cell? (x.add i) = some (.int k (zs.getD i 0))) ∧ ∀ n ∈ zs, (Lit.int k n).wf = true

theorem Keep.low {w w' : World} (k : Keep (fun _ => False) w w') : Below w.heap.size w w' := ⟨k.os, k.tape, k.output, k.size, fun i hi => k.block i hi (fun h => h)⟩

/-- What the law computes of the shares. -/
def scanS (g : Bool) (left : Int) : List Int → Bool × Int
  | [] => (g, left)
  | x :: r => scanS (g && decide (0 ≤ x) && decide (x ≤ left)) (left - min (max x 0) 1000000) r

theorem scanS_snoc (x : Int) : ∀ (xs : List Int) (g : Bool) (l : Int), scanS g l (xs ++ [x]) = ((scanS g l xs).1 && decide (0 ≤ x) && decide (x ≤ (scanS g l xs).2), (scanS g l xs).2 - min (max x 0) 1000000)
  | [], _, _ => rfl
  | a :: r, g, l => by rw [List.cons_append, scanS, scanS_snoc x r]; rfl
theorem scanS_false : ∀ (xs : List Int) (l : Int), (scanS false l xs).1 = false
  | [], _ => rfl
  | a :: r, l => by rw [scanS]; exact scanS_false r _
theorem scanS_true : ∀ (xs : List Int) (l : Int), l ≤ 1000000 → (scanS true l xs).1 = sharesOk l xs
  | [], _, _ => rfl
  | a :: r, l, h => by
    rw [scanS, sharesOk]
    by_cases h0 : 0 ≤ a
    · by_cases h1 : a ≤ l
      · rw [show min (max a 0) 1000000 = a by omega, decide_eq_true h0, decide_eq_true h1]
        exact scanS_true r _ (by omega)
      · rw [decide_eq_false h1, Bool.and_false, Bool.and_false]
        exact scanS_false r _
    · rw [decide_eq_false h0, Bool.and_false, Bool.false_and]
      exact scanS_false r _
theorem scanS_bound : ∀ (xs : List Int) (g : Bool) (l : Int), l - 1000000 * xs.length ≤ (scanS g l xs).2 ∧ (scanS g l xs).2 ≤ l
  | [], _, _ => by simp [scanS]
  | a :: r, g, l => by
    have := scanS_bound r (g && decide (0 ≤ a) && decide (a ≤ l)) (l - min (max a 0) 1000000)
    rw [scanS]
    simp only [List.length_cons]
    omega

/-- The scan after k shares. -/
def RB (cap : Int) (xs : List Int) (k : Nat) (g : Bool) (l : Int) : Prop := scanS true cap (xs.take k) = (g, l)
theorem RB.step {cap : Int} {xs : List Int} {k : Nat} {g : Bool} {l x : Int} (h : RB cap xs k g l) (hx : xs[k]? = some x) : RB cap xs (k + 1) (g && decide (0 ≤ x) && decide (x ≤ l)) (l - min (max x 0) 1000000) := by
  unfold RB at *
  rw [take_succ_get hx, scanS_snoc, h]
theorem RB.bound {cap : Int} {xs : List Int} {k : Nat} {g : Bool} {l : Int} (h : RB cap xs k g l) (hk : k ≤ 10) : cap - 10000000 ≤ l ∧ l ≤ cap := by
  have := scanS_bound (xs.take k) true cap
  rw [h] at this
  have h2 : (xs.take k).length ≤ k := List.length_take_le _ _
  simp only at this
  omega
theorem RB.last {cap : Int} {xs : List Int} {k : Nat} {g : Bool} {l : Int} (h : RB cap xs k g l) (hk : xs.length = k) (hc : cap ≤ 1000000) : g = sharesOk cap xs := by
  unfold RB at h
  rw [List.take_of_length_le (by omega)] at h
  rw [← scanS_true xs cap hc, h]

abbrev low64 (n : Int) : Prop := -9223372036854775808 ≤ n ∧ n ≤ 9223372036854775807

set_option maxRecDepth 100000 in
set_option maxHeartbeats 1000000 in
theorem refuses_long (cap : Int) (b off n c : Nat) (xs : List Int) (t z : Int) (w : World) (hn : xs.length = n) (hcn : n ≤ c) (hc : c ≤ 9223372036854775807) (hx : IntsAt w b off xs) (_h1 : 1 ≤ n) (h10 : 10 < n) :
    Calls Try.prog 8 #[.int .i64 cap, .slice (some ⟨b, off, none⟩) n c, .int .i64 t, .int .i64 z] w fun e w' => e = .returned (.bool true) ∧ Below w.heap.size w w' := by
  have HX := Lib.hid hx; clear hx
  have HN := Lib.hid hn; clear hn
  have HP := Lib.hid (show 8 < 10 by decide)
  go_enter Try.func8, Try.ntmps8
  go_wp2_with fail
  with_reducible refine (sane_any _).mono ?_
  rintro e W1 ⟨rfl, k⟩
  have K1 := Lib.hid k
  clear k
  have hcell : ∀ k, k < n → W1.cell? ⟨b, off + k, none⟩ = some (.int .i64 (xs.getD k 0)) := fun k hk => by
    have e : xs[k]? = some (xs.getD k 0) := by rw [List.getD_eq_getElem?_getD, List.getElem?_eq_getElem (by have := HN.out; omega)]; rfl
    exact (HX.out.keep K1.out (fun h => h)) k _ e
  have HC := Lib.hid hcell
  clear hcell
  go_wp2_with fail
  with_reducible refine (new_cap cap _ _ _ _ _ rfl (by have := HP.out; omega)).mono ?_
  rintro e w' ⟨rfl, rfl⟩
  go_wp2_with fail
  all_goals first
    | (exfalso; have := HP.out; omega)
    | skip
  all_goals
    go_loop [12, 13, 14] (fun g l i => ∃ (k : Nat) (x : Int), k ≤ 10 ∧ g = .bool false ∧ l = .int .i64 x ∧ i = .int .i64 k) (fun _ _ i => 10 - (intOf i).toNat)
    case atStart => exact ⟨0, _, by omega, rfl, rfl, rfl⟩
    case round =>
      obtain ⟨k, x, hk, rfl, rfl, rfl⟩ := hrel
      by_cases hlt : k < 10
      · have hcell := HC.out k (by omega)
        generalize xs.getD k 0 = y at hcell
        go_wp2_with fail
        all_goals
          go_round
          case rel => exact ⟨k + 1, _, by omega, rfl, rfl, by go_num⟩
          case measure => simp [intOf]; omega
      · go_wp2_with fail
        with_reducible refine (put_nil 0 (ky 97) 1 _).mono ?_
        rintro e W2 ⟨rfl, k⟩
        have K2 := Lib.hid (K1.out.trans k)
        clear k
        go_wp2_with fail
        with_reducible refine (touch_nil (ky 97) _).mono ?_
        rintro e w' ⟨rfl, rfl⟩
        go_wp2_with fail
        with_reducible refine (remove_nil (ky 97) _).mono ?_
        rintro e w' ⟨rfl, rfl⟩
        go_wp2_with fail
        with_reducible refine (has_nil (ky 97) _).mono ?_
        rintro e w' ⟨rfl, rfl⟩
        go_wp2_with fail
        with_reducible refine (tenant_nil (ky 97) _).mono ?_
        rintro e w' ⟨rfl, rfl⟩
        go_wp2_with fail
        with_reducible refine (used_nil 0 _).mono ?_
        rintro e w' ⟨rfl, rfl⟩
        go_wp2_with fail
        with_reducible refine (free_nil _).mono ?_
        rintro e w' ⟨rfl, rfl⟩
        go_wp2_with fail
        with_reducible refine (keys_nil 0 _).mono ?_
        rintro e W3 ⟨rfl, k⟩
        have K3 := Lib.hid (K2.out.trans k)
        clear k
        go_wp2_with fail
        go_ret
        exact ⟨rfl, K3.out.low⟩

set_option maxRecDepth 100000 in
set_option maxHeartbeats 1000000 in
theorem refuses_bad (cap : Int) (b off n c : Nat) (xs : List Int) (t z : Int) (w : World) (hn : xs.length = n) (hcn : n ≤ c) (_hc : c ≤ 9223372036854775807) (hx : IntsAt w b off xs) (h1 : 1 ≤ n) (h10 : n ≤ 10) (h : cap < 1 ∨ 1000000 < cap ∨ 8 < n) :
    Calls Try.prog 8 #[.int .i64 cap, .slice (some ⟨b, off, none⟩) n c, .int .i64 t, .int .i64 z] w fun e w' => e = .returned (.bool true) ∧ Below w.heap.size w w' := by
  have HX := Lib.hid hx; clear hx
  have HN := Lib.hid hn; clear hn
  have HP := Lib.hid h; clear h
  go_enter Try.func8, Try.ntmps8
  go_wp2_with fail
  with_reducible refine (sane_any _).mono ?_
  rintro e W1 ⟨rfl, k⟩
  have K1 := Lib.hid k
  clear k
  have hcell : ∀ k, k < n → W1.cell? ⟨b, off + k, none⟩ = some (.int .i64 (xs.getD k 0)) := fun k hk => by
    have e : xs[k]? = some (xs.getD k 0) := by rw [List.getD_eq_getElem?_getD, List.getElem?_eq_getElem (by have := HN.out; omega)]; rfl
    exact (HX.out.keep K1.out (fun h => h)) k _ e
  have HC := Lib.hid hcell
  clear hcell
  by_cases h8 : 8 < n
  · have hd8 : decide ((n : Int) ≤ 8) = false := by simp; omega
    go_wp2_with fail
    with_reducible refine (new_cap cap _ _ _ _ _ rfl (by have := HP.out; omega)).mono ?_
    rintro e w' ⟨rfl, rfl⟩
    go_wp2_with fail
    all_goals first
      | (exfalso; have := HP.out; omega)
      | skip
    all_goals
      go_loop [12, 13, 14] (fun g l i => ∃ (k : Nat) (x : Int), k ≤ n ∧ g = .bool false ∧ l = .int .i64 x ∧ i = .int .i64 k) (fun _ _ i => n - (intOf i).toNat)
      case atStart => exact ⟨0, _, by omega, rfl, rfl, rfl⟩
      case round =>
        obtain ⟨k, x, hk, rfl, rfl, rfl⟩ := hrel
        by_cases hlt : k < n
        · have hcell := HC.out k (by omega)
          generalize xs.getD k 0 = y at hcell
          go_wp2_with fail
          all_goals
            go_round
            case rel => exact ⟨k + 1, _, by omega, rfl, rfl, by go_num⟩
            case measure => simp [intOf]; omega
        · go_wp2_with fail
          with_reducible refine (put_nil 0 (ky 97) 1 _).mono ?_
          rintro e W2 ⟨rfl, k⟩
          have K2 := Lib.hid (K1.out.trans k)
          clear k
          go_wp2_with fail
          with_reducible refine (touch_nil (ky 97) _).mono ?_
          rintro e w' ⟨rfl, rfl⟩
          go_wp2_with fail
          with_reducible refine (remove_nil (ky 97) _).mono ?_
          rintro e w' ⟨rfl, rfl⟩
          go_wp2_with fail
          with_reducible refine (has_nil (ky 97) _).mono ?_
          rintro e w' ⟨rfl, rfl⟩
          go_wp2_with fail
          with_reducible refine (tenant_nil (ky 97) _).mono ?_
          rintro e w' ⟨rfl, rfl⟩
          go_wp2_with fail
          with_reducible refine (used_nil 0 _).mono ?_
          rintro e w' ⟨rfl, rfl⟩
          go_wp2_with fail
          with_reducible refine (free_nil _).mono ?_
          rintro e w' ⟨rfl, rfl⟩
          go_wp2_with fail
          with_reducible refine (keys_nil 0 _).mono ?_
          rintro e W3 ⟨rfl, k⟩
          have K3 := Lib.hid (K2.out.trans k)
          clear k
          go_wp2_with fail
          go_ret
          exact ⟨rfl, K3.out.low⟩
  · have hd8 : decide ((n : Int) ≤ 8) = true := by simp; omega
    go_wp2_with fail
    with_reducible refine (new_cap cap _ _ _ _ _ rfl (by have := HP.out; omega)).mono ?_
    rintro e w' ⟨rfl, rfl⟩
    go_wp2_with fail
    all_goals first
      | (exfalso; have := HP.out; omega)
      | skip
    all_goals
      go_loop [12, 13, 14] (fun g l i => ∃ (k : Nat) (x : Int), k ≤ n ∧ g = .bool false ∧ l = .int .i64 x ∧ i = .int .i64 k) (fun _ _ i => n - (intOf i).toNat)
      case atStart => exact ⟨0, _, by omega, rfl, rfl, rfl⟩
      case round =>
        obtain ⟨k, x, hk, rfl, rfl, rfl⟩ := hrel
        by_cases hlt : k < n
        · have hcell := HC.out k (by omega)
          generalize xs.getD k 0 = y at hcell
          go_wp2_with fail
          all_goals
            go_round
            case rel => exact ⟨k + 1, _, by omega, rfl, rfl, by go_num⟩
            case measure => simp [intOf]; omega
        · go_wp2_with fail
          with_reducible refine (put_nil 0 (ky 97) 1 _).mono ?_
          rintro e W2 ⟨rfl, k⟩
          have K2 := Lib.hid (K1.out.trans k)
          clear k
          go_wp2_with fail
          with_reducible refine (touch_nil (ky 97) _).mono ?_
          rintro e w' ⟨rfl, rfl⟩
          go_wp2_with fail
          with_reducible refine (remove_nil (ky 97) _).mono ?_
          rintro e w' ⟨rfl, rfl⟩
          go_wp2_with fail
          with_reducible refine (has_nil (ky 97) _).mono ?_
          rintro e w' ⟨rfl, rfl⟩
          go_wp2_with fail
          with_reducible refine (tenant_nil (ky 97) _).mono ?_
          rintro e w' ⟨rfl, rfl⟩
          go_wp2_with fail
          with_reducible refine (used_nil 0 _).mono ?_
          rintro e w' ⟨rfl, rfl⟩
          go_wp2_with fail
          with_reducible refine (free_nil _).mono ?_
          rintro e w' ⟨rfl, rfl⟩
          go_wp2_with fail
          with_reducible refine (keys_nil 0 _).mono ?_
          rintro e W3 ⟨rfl, k⟩
          have K3 := Lib.hid (K2.out.trans k)
          clear k
          go_wp2_with fail
          go_ret
          exact ⟨rfl, K3.out.low⟩

set_option maxRecDepth 100000 in
set_option maxHeartbeats 1000000 in
theorem refuses_none (cap : Int) (a : Option Addr) (c : Nat) (t z : Int) (w : World) (ha : a = none → c = 0) :
    Calls Try.prog 8 #[.int .i64 cap, .slice a 0 c, .int .i64 t, .int .i64 z] w fun e w' => e = .returned (.bool true) ∧ Below w.heap.size w w' := by
  have HA := Lib.hid ha; clear ha
  go_enter Try.func8, Try.ntmps8
  go_wp2_with fail
  with_reducible refine (sane_any _).mono ?_
  rintro e W1 ⟨rfl, k⟩
  have K1 := Lib.hid k
  clear k
  go_wp2_with fail
  with_reducible refine (new_cap cap _ _ _ _ _ rfl (by omega)).mono ?_
  rintro e w' ⟨rfl, rfl⟩
  go_wp2_with fail
  all_goals
    go_loop [12, 13, 14] (fun g l i => g = .bool false ∧ l = .int .i64 cap ∧ i = .int .i64 0) (fun _ _ i => 0)
    case atStart => exact ⟨rfl, rfl, rfl⟩
    case round =>
      obtain ⟨rfl, rfl, rfl⟩ := hrel
      go_wp2_with fail
      with_reducible refine (put_nil 0 (ky 97) 1 _).mono ?_
      rintro e W2 ⟨rfl, k⟩
      have K2 := Lib.hid (K1.out.trans k)
      clear k
      go_wp2_with fail
      with_reducible refine (touch_nil (ky 97) _).mono ?_
      rintro e w' ⟨rfl, rfl⟩
      go_wp2_with fail
      with_reducible refine (remove_nil (ky 97) _).mono ?_
      rintro e w' ⟨rfl, rfl⟩
      go_wp2_with fail
      with_reducible refine (has_nil (ky 97) _).mono ?_
      rintro e w' ⟨rfl, rfl⟩
      go_wp2_with fail
      with_reducible refine (tenant_nil (ky 97) _).mono ?_
      rintro e w' ⟨rfl, rfl⟩
      go_wp2_with fail
      with_reducible refine (used_nil 0 _).mono ?_
      rintro e w' ⟨rfl, rfl⟩
      go_wp2_with fail
      with_reducible refine (free_nil _).mono ?_
      rintro e w' ⟨rfl, rfl⟩
      go_wp2_with fail
      with_reducible refine (keys_nil 0 _).mono ?_
      rintro e W3 ⟨rfl, k⟩
      have K3 := Lib.hid (K2.out.trans k)
      clear k
      go_wp2_with fail
      go_ret
      exact ⟨rfl, K3.out.low⟩

end Go.Proofs.Ytigkhglgoabjaaa
