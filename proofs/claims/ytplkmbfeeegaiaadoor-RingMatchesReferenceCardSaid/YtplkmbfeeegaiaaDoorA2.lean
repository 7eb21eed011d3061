/-
  cmp.Compare, cmp.Or; members in memory; Valid.
-/
import Derived.Test.YtplkmbfeeegaiaaDoorA1
import Derived.Test.YtplkmbfeeegaiaaDoorP2
namespace Go.Proofs.YtplkmbfeeegaiaaDoor
open Go.RowKit Go.Shelf

def cmpI (a b : Int) : Int := if a < b then -1 else if b < a then 1 else 0
set_option maxHeartbeats 400000 in
theorem isNaN_int (a : Int) (w : World) : Calls Tryd.prog 86 #[.int .i64 a] w fun e w' => e = .returned (.bool false) ∧ w = w' := by
  have h : (a != a) = false := by simp
  go_enter Tryd.func86, Tryd.ntmps86
  go_wp2
  go_ret
  exact ⟨rfl, rfl⟩
set_option maxHeartbeats 400000 in
theorem cmp_int (a b : Int) (w : World) : Calls Tryd.prog 69 #[.int .i64 a, .int .i64 b] w fun e w' => e = .returned (.int .i64 (cmpI a b)) ∧ w = w' := by
  rcases Int.lt_trichotomy a b with h1 | h1 | h1
  · have HC : Hid (cmpI a b = -1) := Lib.hid (by unfold cmpI; rw [if_pos h1])
    go_enter Tryd.func69, Tryd.ntmps69
    go_wp2_with (go_at_call 86; refine (isNaN_int _ _).mono ?_; rintro e w' ⟨rfl, rfl⟩)
    go_ret
    exact ⟨by rw [HC.out]; rfl, rfl⟩
  · have HC : Hid (cmpI a b = 0) := Lib.hid (by unfold cmpI; rw [if_neg (by omega), if_neg (by omega)])
    have h2 : ¬ a < b := by omega
    have h3 : ¬ b < a := by omega
    clear h1
    go_enter Tryd.func69, Tryd.ntmps69
    go_wp2_with (go_at_call 86; refine (isNaN_int _ _).mono ?_; rintro e w' ⟨rfl, rfl⟩)
    go_ret
    exact ⟨by rw [HC.out]; rfl, rfl⟩
  · have HC : Hid (cmpI a b = 1) := Lib.hid (by unfold cmpI; rw [if_neg (by omega), if_pos h1])
    go_enter Tryd.func69, Tryd.ntmps69
    go_wp2_with (go_at_call 86; refine (isNaN_int _ _).mono ?_; rintro e w' ⟨rfl, rfl⟩)
    go_ret
    exact ⟨by rw [HC.out]; rfl, rfl⟩

/-- The first one that is not 0. -/
def orL : List Int → Int
  | [] => 0
  | x :: l => if x = 0 then orL l else x
theorem orL_drop {xs : List Int} {k : Nat} (h : ∀ y ∈ xs.take k, y = 0) : orL xs = orL (xs.drop k) := by
  induction xs generalizing k with
  | nil => simp [orL]
  | cons x xs ih =>
    cases k with
    | zero => rfl
    | succ k =>
      rw [List.take_succ_cons] at h
      have h0 := h x (by simp)
      rw [List.drop_succ_cons, ← ih (fun y hy => h y (by simp [hy]))]
      simp [orL, h0]
def I64 (x : Int) : Prop := -9223372036854775808 ≤ x ∧ x ≤ 9223372036854775807
/-- Numbers in a slice. -/
structure Its (W : World) (v : Value) (xs : List Int) : Prop where
  n : xs.length ≤ 1000000000000000
  bd : ∀ x ∈ xs, I64 x
  at_ : ∃ a c b off, v = .slice a xs.length c ∧ xs.length ≤ c ∧ (0 < xs.length → a = some ⟨b, off, none⟩) ∧ ∀ j x, xs[j]? = some x → W.cell? ⟨b, off + j, none⟩ = some (.int .i64 x)
theorem Its.keep {W W' : World} {A : Nat → Prop} {v : Value} {xs : List Int} (h : Its W v xs) (k : Keep A W W') (hA : ∀ b, v.ownBlock = some b → ¬ A b) : Its W' v xs := by
  obtain ⟨a, c, b, off, rfl, hc, ha, h1⟩ := h.at_
  refine ⟨h.n, h.bd, a, c, b, off, rfl, hc, ha, fun j x hj => ?_⟩
  have hp : 0 < xs.length := by have := (List.getElem?_eq_some_iff.1 hj).1; omega
  refine k.cell (h1 j x hj) (hA b ?_)
  rw [ha hp]; rfl
theorem Its.kept {W W' : World} {v : Value} {xs : List Int} (h : Its W v xs) (k : Keep (fun _ => False) W W') : Its W' v xs := h.keep k (fun _ _ h => h)
theorem Its.nil (W : World) : Its W (.slice none 0 0) [] := ⟨by simp, by simp, none, 0, 0, 0, rfl, by simp, fun h => by simp at h, fun j x hj => by simp at hj⟩

set_option maxRecDepth 100000 in
set_option maxHeartbeats 400000 in
theorem cmp_or (v : Value) (xs : List Int) (w : World) (h : Its w v xs) : Calls Tryd.prog 84 #[v] w fun e w' => e = .returned (.int .i64 (orL xs)) ∧ w = w' := by
  obtain ⟨hn, -, a, c, b, off, rfl, hc, ha, hcell⟩ := h
  have HC := Lib.hid hcell
  have HA := Lib.hid ha
  clear hcell ha
  obtain ⟨n, hn'⟩ : ∃ n, xs.length = n := ⟨_, rfl⟩
  have HL := Lib.hid hn'
  rw [hn'] at hn hc ⊢
  clear hn'
  go_enter Tryd.func84, Tryd.ntmps84
  go_wp2_with fail
  go_loopg [8] n (fun gh v wr => ∃ k : Nat, gh + k = n ∧ v = .int .i64 k ∧ (∀ y ∈ xs.take k, y = 0) ∧ w = wr)
  case atStart => exact ⟨0, by omega, rfl, by simp, rfl⟩
  case round =>
    obtain ⟨k, hk, rfl, hz, rfl⟩ := hrel
    have HZ := Lib.hid hz
    clear hz
    by_cases hlt : k < n
    · obtain ⟨x, hx⟩ : ∃ x, xs[k]? = some x := ⟨_, List.getElem?_eq_getElem (by have := HL.out; omega)⟩
      obtain rfl := HA.out (by have := HL.out; omega)
      have c1 := HC.out k x hx
      have hkz : (k : Int) < (n : Int) := by omega
      have hk0 : (0 : Int) ≤ (k : Int) := by omega
      have HX := Lib.hid hx
      clear hx
      by_cases hx0 : x = 0
      · have hb : (x == 0) = true := by simpa using hx0
        have HX0 := Lib.hid hx0
        clear hx0
        go_wp2_with fail
        go_roundg (gk - 1)
        case rel => exact ⟨k + 1, by omega, by go_num, fun y hy => by
          rw [List.take_add_one, HX.out] at hy
          rcases List.mem_append.1 hy with hy | hy
          · exact HZ.out y hy
          · simp at hy; rw [hy]; exact HX0.out, rfl⟩
        case measure => omega
      · have hb : (x == 0) = false := by simpa using hx0
        have HO : Hid (orL xs = x) := Lib.hid (by
          rw [orL_drop HZ.out, List.drop_eq_getElem_cons (by have := HL.out; omega)]
          have := HX.out
          rw [List.getElem?_eq_getElem (by have := HL.out; omega)] at this
          simp only [Option.some.injEq] at this
          rw [this]
          simp [orL, hx0])
        clear hx0
        go_wp2_with fail
        go_ret
        exact ⟨by rw [HO.out]; rfl, rfl⟩
    · have HO : Hid (orL xs = 0) := Lib.hid (by
        rw [orL_drop HZ.out, List.drop_eq_nil_of_le (by have := HL.out; omega)]; rfl)
      go_wp2_with fail
      go_ret
      exact ⟨by rw [HO.out]; rfl, rfl⟩

/-! ### members -/
/-- Members in a slice. -/
structure Mbs (W : World) (v : Value) (l : List Mb) : Prop where
  n : l.length ≤ 1000000000000000
  bd : ∀ m ∈ l, I64 m.node ∧ I64 m.region ∧ I64 m.weight
  at_ : ∃ a c b off, v = .slice a l.length c ∧ l.length ≤ c ∧ (0 < l.length → a = some ⟨b, off, none⟩) ∧ ∀ j m, l[j]? = some m → W.cell? ⟨b, off + j * 3, none⟩ = some (.int .i64 m.node) ∧ W.cell? ⟨b, off + j * 3 + 1, none⟩ = some (.int .i64 m.region) ∧ W.cell? ⟨b, off + j * 3 + 2, none⟩ = some (.int .i64 m.weight)
theorem Mbs.keep {W W' : World} {A : Nat → Prop} {v : Value} {l : List Mb} (h : Mbs W v l) (k : Keep A W W') (hA : ∀ b, v.ownBlock = some b → ¬ A b) : Mbs W' v l := by
  obtain ⟨a, c, b, off, rfl, hc, ha, h1⟩ := h.at_
  refine ⟨h.n, h.bd, a, c, b, off, rfl, hc, ha, fun j x hj => ?_⟩
  have hp : 0 < l.length := by have := (List.getElem?_eq_some_iff.1 hj).1; omega
  have hb := hA b (by rw [ha hp]; rfl)
  exact ⟨k.cell (h1 j x hj).1 hb, k.cell (h1 j x hj).2.1 hb, k.cell (h1 j x hj).2.2 hb⟩
theorem Mbs.kept {W W' : World} {v : Value} {l : List Mb} (h : Mbs W v l) (k : Keep (fun _ => False) W W') : Mbs W' v l := h.keep k (fun _ _ h => h)

theorem within_b (n lo hi : Int) (b : Bool) (h : decide (lo ≤ n ∧ n ≤ hi) = b) (w : World) : Calls Tryd.prog 53 #[.int .i64 n, .int .i64 lo, .int .i64 hi] w fun e w' => e = .returned (.bool b) ∧ w = w' := by
  subst h; exact within_any n lo hi w

theorem validFrom_cons (last : Int) (m : Mb) (l : List Mb) : validFrom last (m :: l) = (decide (last + 1 ≤ m.node ∧ m.node ≤ 23) && (decide (0 ≤ m.region ∧ m.region ≤ 3) && (decide (1 ≤ m.weight ∧ m.weight ≤ 16) && validFrom m.node l))) := by
  simp only [validFrom]
  rw [← Bool.and_assoc, ← Bool.and_assoc]
  congr 1
  rw [Bool.eq_iff_iff]
  simp only [Bool.and_eq_true, decide_eq_true_eq]
  omega

set_option maxRecDepth 100000 in
set_option maxHeartbeats 1000000 in
theorem valid_any (v : Value) (l : List Mb) (w : World) (h : Mbs w v l) : Calls Tryd.prog 19 #[v] w fun e w' => e = .returned (.bool (validL l)) ∧ Keep (fun _ => False) w w' := by
  obtain ⟨hn, -, a, c, b, off, rfl, hc, ha, hcell⟩ := h
  have HC := Lib.hid hcell
  have HA := Lib.hid ha
  clear hcell ha
  obtain ⟨n, hn'⟩ : ∃ n, l.length = n := ⟨_, rfl⟩
  have HL := Lib.hid hn'
  rw [hn'] at hn hc ⊢
  clear hn'
  go_enter Tryd.func19, Tryd.ntmps19
  go_wp2_with fail
  go_loopg [3, 8] n (fun gh v3 v wr => ∃ (k : Nat) (last : Int), gh + k = n ∧ v = .int .i64 k ∧ v3 = .int .i64 last ∧ -1 ≤ last ∧ last ≤ 23 ∧ validL l = validFrom last (l.drop k) ∧ Keep (fun _ => False) w wr)
  case atStart => exact ⟨0, -1, by omega, rfl, rfl, by omega, by omega, rfl, Keep.refl _ _⟩
  case round =>
    obtain ⟨k, last, hk, rfl, rfl, hl1, hl2, hv, hkeep⟩ := hrel
    have HV := Lib.hid hv
    have HK := Lib.hid hkeep
    clear hv hkeep
    by_cases hlt : k < n
    · obtain ⟨m, hm⟩ : ∃ m, l[k]? = some m := ⟨_, List.getElem?_eq_getElem (by have := HL.out; omega)⟩
      obtain rfl := HA.out (by have := HL.out; omega)
      have HD : Hid (l.drop k = m :: l.drop (k + 1)) := Lib.hid (by
        rw [List.drop_eq_getElem_cons (by have := HL.out; omega)]
        rw [List.getElem?_eq_getElem (by have := HL.out; omega)] at hm
        simp only [Option.some.injEq] at hm
        rw [hm])
      have c0 := HK.out.cell (HC.out k m hm).1 (fun h => h)
      have c1 := HK.out.cell (HC.out k m hm).2.1 (fun h => h)
      have c2 := HK.out.cell (HC.out k m hm).2.2 (fun h => h)
      have HVC : Hid (validL l = (decide (last + 1 ≤ m.node ∧ m.node ≤ 23) && (decide (0 ≤ m.region ∧ m.region ≤ 3) && (decide (1 ≤ m.weight ∧ m.weight ≤ 16) && validFrom m.node (l.drop (k + 1)))))) := Lib.hid (by rw [HV.out, HD.out, validFrom_cons])
      have hkz : (k : Int) < (n : Int) := by omega
      have hk0 : (0 : Int) ≤ (k : Int) := by omega
      clear hm
      obtain ⟨mn, mr, mw⟩ := m
      simp only [] at c0 c1 c2
      have HK2 : Hid (Keep (fun _ => False) w (wr.alloc (.cells #[.int .i64 mn, .int .i64 mr, .int .i64 mw] 25))) := Lib.hid (HK.out.alloc _)
      go_wp2_with fail
      clear c0 c1 c2
      by_cases h1 : last + 1 ≤ mn ∧ mn ≤ 23
      · have H1 := Lib.hid (decide_eq_true h1)
        with_reducible refine (within_b mn (last + 1) 23 true H1.out _).mono ?_
        rintro e w' ⟨rfl, rfl⟩
        by_cases h2 : 0 ≤ mr ∧ mr ≤ 3
        · have H2 := Lib.hid (decide_eq_true h2)
          go_wp2_with fail
          with_reducible refine (within_b mr 0 3 true H2.out _).mono ?_
          rintro e w' ⟨rfl, rfl⟩
          by_cases h3 : 1 ≤ mw ∧ mw ≤ 16
          · have H3 := Lib.hid (decide_eq_true h3)
            go_wp2_with fail
            with_reducible refine (within_b mw 1 16 true H3.out _).mono ?_
            rintro e w' ⟨rfl, rfl⟩
            go_wp2_with fail
            generalize wr.alloc (.cells #[.int .i64 mn, .int .i64 mr, .int .i64 mw] 25) = W2 at *
            go_roundg (gk - 1)
            case rel => exact ⟨k + 1, mn, by omega, by go_num, rfl, by omega, by omega, by rw [HVC.out, H1.out, H2.out, H3.out]; rfl, HK2.out⟩
            case measure => omega
          · have H3 := Lib.hid (decide_eq_false h3)
            clear h3
            go_wp2_with fail
            with_reducible refine (within_b mw 1 16 false H3.out _).mono ?_
            rintro e w' ⟨rfl, rfl⟩
            go_wp2_with fail
            go_ret
            exact ⟨by rw [HVC.out, H1.out, H2.out, H3.out]; rfl, HK2.out⟩
        · have H2 := Lib.hid (decide_eq_false h2)
          clear h2
          go_wp2_with fail
          with_reducible refine (within_b mr 0 3 false H2.out _).mono ?_
          rintro e w' ⟨rfl, rfl⟩
          go_wp2_with fail
          go_ret
          exact ⟨by rw [HVC.out, H1.out, H2.out]; rfl, HK2.out⟩
      · have H1 := Lib.hid (decide_eq_false h1)
        clear h1
        with_reducible refine (within_b mn (last + 1) 23 false H1.out _).mono ?_
        rintro e w' ⟨rfl, rfl⟩
        go_wp2_with fail
        go_ret
        exact ⟨by rw [HVC.out, H1.out]; rfl, HK2.out⟩
    · have HVD : Hid (validL l = decide (0 ≤ last)) := Lib.hid (by rw [HV.out, List.drop_eq_nil_of_le (by have := HL.out; omega)]; rfl)
      by_cases h0 : 0 ≤ last
      · go_wp2_with fail
        go_ret
        exact ⟨by rw [HVD.out, decide_eq_true h0]; rfl, HK.out⟩
      · go_wp2_with fail
        go_ret
        exact ⟨by rw [HVD.out, decide_eq_false (by omega)]; rfl, HK.out⟩
end Go.Proofs.YtplkmbfeeegaiaaDoor
