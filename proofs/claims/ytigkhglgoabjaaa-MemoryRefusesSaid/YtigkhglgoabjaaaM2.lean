/-
  MemoryRefuses: the walk where the capacity and the number of shares are as they should be.
-/
import Derived.Test.YtigkhglgoabjaaaM1
namespace Go.Proofs.Ytigkhglgoabjaaa
open Go.RowKit Go.Shelf

theorem put_empty_no (cap : Int) (xs : List Int) (t : Int) (key : ByteArray) (z : Int) (h0 : 0 ≤ t) (h1 : t < xs.length) (h2 : 1 ≤ z) (h : cap < z) : putI cap xs [] t key z = (false, [], []) := by
  rw [putI, if_pos ⟨h0, h1, h2⟩, putM]
  have e : evM xs cap t.toNat z (([] : List E).length + 1) (woE [] key) = (false, [], []) := by
    show (if cap - 0 < z then _ else _) = _
    rw [if_pos (by omega)]; rfl
  rw [e]; rfl
theorem put_empty_yes (cap : Int) (xs : List Int) (t : Int) (key : ByteArray) (z : Int) (h0 : 0 ≤ t) (h1 : t < xs.length) (h2 : 1 ≤ z) (h : z ≤ cap) : putI cap xs [] t key z = (true, [], [⟨key, t.toNat, z⟩]) := by
  rw [putI, if_pos ⟨h0, h1, h2⟩, putM]
  have e : evM xs cap t.toNat z (([] : List E).length + 1) (woE [] key) = (true, [], []) := by
    show (if cap - 0 < z then _ else _) = _
    rw [if_neg (by omega)]; rfl
  rw [e]; rfl

set_option maxRecDepth 100000 in
set_option maxHeartbeats 1000000 in
theorem refuses_shares (cap : Int) (b off n c : Nat) (xs : List Int) (t z : Int) (w : World) (hn : xs.length = n) (hcn : n ≤ c) (hc : c ≤ 9223372036854775807) (hx : IntsAt w b off xs) (h1 : 1 ≤ n) (h8 : n ≤ 8) (hc1 : 1 ≤ cap) (hc2 : cap ≤ 1000000) (hw : ∀ k, k < n → -9223372036854775808 ≤ xs.getD k 0 ∧ xs.getD k 0 ≤ 9223372036854775807) (hs : sharesOk cap xs = false) :
    Calls Try.prog 8 #[.int .i64 cap, .slice (some ⟨b, off, none⟩) n c, .int .i64 t, .int .i64 z] w fun e w' => e = .returned (.bool true) ∧ Below w.heap.size w w' := by
  have HX := Lib.hid hx; clear hx
  have HN := Lib.hid hn; clear hn
  have HS := Lib.hid hs; clear hs
  have HW := Lib.hid hw; clear hw
  have hd8 : decide ((n : Int) ≤ 8) = true := by simp; omega
  go_enter Try.func8, Try.ntmps8
  go_wp2_with fail
  with_reducible refine (sane_any _).mono ?_
  rintro e W1 ⟨rfl, k⟩
  have K1 := Lib.hid k
  clear k
  have hcell : ∀ k, k < n → W1.cell? ⟨b, off + k, none⟩ = some (.int .i64 (xs.getD k 0)) := fun k hk => by
    have e : xs[k]? = some (xs.getD k 0) := by rw [List.getD_eq_getElem?_getD, List.getElem?_eq_getElem (by have := HN.out; omega)]; rfl
    exact (HX.out.keep K1.out (fun h => h)) k _ e
  have HC := Lib.hid hcell
  clear hcell
  go_wp2_with fail
  with_reducible refine (new_no cap _ _ _ _ _ _ HN.out hc1 hc2 h1 h8 (HX.out.keep K1.out (fun h => h)) HS.out).mono ?_
  rintro e w' ⟨rfl, rfl⟩
  go_wp2_with fail
  go_loop [12, 13, 14] (fun gv l i => ∃ (k : Nat) (g : Bool) (x : Int), k ≤ n ∧ gv = .bool g ∧ l = .int .i64 x ∧ i = .int .i64 k ∧ RB cap xs k g x) (fun _ _ i => n - (intOf i).toNat)
  case atStart => exact ⟨0, true, cap, by omega, rfl, rfl, rfl, rfl⟩
  case round =>
    obtain ⟨k, g, x, hk, rfl, rfl, rfl, hr⟩ := hrel
    have hb := hr.bound (by omega)
    have HR := Lib.hid hr
    clear hr
    by_cases hlt : k < n
    · have hcell := HC.out k (by omega)
      have hget : xs[k]? = some (xs.getD k 0) := by rw [List.getD_eq_getElem?_getD, List.getElem?_eq_getElem (by have := HN.out; omega)]; rfl
      have HS := Lib.hid (HR.out.step hget)
      clear hget HR
      have hw := HW.out k hlt
      generalize xs.getD k 0 = y at hcell HS hw
      have S1 : ∀ v u : Int, ∀ b : Bool, (g && decide (0 ≤ y) && decide (y ≤ x)) = b → x - min (max y 0) 1000000 = u → RB cap xs (k + 1) b u := fun v u b h1 h2 => by rw [← h1, ← h2]; exact HS.out
      have HT := Lib.hid S1
      clear S1 HS
      cases g with
      | false =>
        go_wp2_with fail
        all_goals
          go_round
          case rel => exact ⟨k + 1, false, _, by omega, rfl, rfl, by go_num, HT.out 0 _ _ rfl (by omega)⟩
          case measure => simp [intOf]; omega
      | true =>
        by_cases hy : 0 ≤ y
        · have hd1 : decide (0 ≤ y) = true := by simpa using hy
          by_cases hyx : y ≤ x
          · have hd2 : decide (y ≤ x) = true := by simpa using hyx
            go_wp2_with fail
            all_goals
              go_round
              case rel => exact ⟨k + 1, true, _, by omega, rfl, rfl, by go_num, HT.out 0 _ _ (by simp [hy, hyx]) (by omega)⟩
              case measure => simp [intOf]; omega
          · have hd2 : decide (y ≤ x) = false := by simpa using hyx
            go_wp2_with fail
            all_goals
              go_round
              case rel => exact ⟨k + 1, false, _, by omega, rfl, rfl, by go_num, HT.out 0 _ _ (by simp [hyx]) (by omega)⟩
              case measure => simp [intOf]; omega
        · have hd1 : decide (0 ≤ y) = false := by simpa using hy
          go_wp2_with fail
          all_goals
            go_round
            case rel => exact ⟨k + 1, false, _, by omega, rfl, rfl, by go_num, HT.out 0 _ _ (by simp [hy]) (by omega)⟩
            case measure => simp [intOf]; omega
    · have hg : g = sharesOk cap xs := HR.out.last (by have := HN.out; omega) (by omega)
      rw [HS.out] at hg
      subst hg
      go_wp2_with fail
      with_reducible refine (put_nil 0 (ky 97) 1 _).mono ?_
      rintro e W2 ⟨rfl, k⟩
      have K2 := Lib.hid (K1.out.trans k)
      clear k
      go_wp2_with fail
      with_reducible refine (touch_nil (ky 97) _).mono ?_
      rintro e w' ⟨rfl, rfl⟩
      go_wp2_with fail
      with_reducible refine (remove_nil (ky 97) _).mono ?_
      rintro e w' ⟨rfl, rfl⟩
      go_wp2_with fail
      with_reducible refine (has_nil (ky 97) _).mono ?_
      rintro e w' ⟨rfl, rfl⟩
      go_wp2_with fail
      with_reducible refine (tenant_nil (ky 97) _).mono ?_
      rintro e w' ⟨rfl, rfl⟩
      go_wp2_with fail
      with_reducible refine (used_nil 0 _).mono ?_
      rintro e w' ⟨rfl, rfl⟩
      go_wp2_with fail
      with_reducible refine (free_nil _).mono ?_
      rintro e w' ⟨rfl, rfl⟩
      go_wp2_with fail
      with_reducible refine (keys_nil 0 _).mono ?_
      rintro e W3 ⟨rfl, k⟩
      have K3 := Lib.hid (K2.out.trans k)
      clear k
      go_wp2_with fail
      go_ret
      exact ⟨rfl, K3.out.low⟩

set_option maxRecDepth 100000 in
set_option maxHeartbeats 1000000 in
theorem refuses_ok0 (cap : Int) (b off n c : Nat) (xs : List Int) (t z : Int) (w : World) (hn : xs.length = n) (hcn : n ≤ c) (hc : c ≤ 9223372036854775807) (hx : IntsAt w b off xs) (h1 : 1 ≤ n) (h8 : n ≤ 8) (hc1 : 1 ≤ cap) (hc2 : cap ≤ 1000000) (hw : ∀ k, k < n → -9223372036854775808 ≤ xs.getD k 0 ∧ xs.getD k 0 ≤ 9223372036854775807) (ht : -9223372036854775808 ≤ t ∧ t ≤ 9223372036854775807) (hz : -9223372036854775808 ≤ z ∧ z ≤ 9223372036854775807) (hs : sharesOk cap xs = true) (h : t < 0) :
    Calls Try.prog 8 #[.int .i64 cap, .slice (some ⟨b, off, none⟩) n c, .int .i64 t, .int .i64 z] w fun e w' => e = .returned (.bool true) ∧ Below w.heap.size w w' := by
  have HE : Hid (putI cap xs [] t (ky 97) z = (false, [], [])) := Lib.hid (by rw [putI, if_neg (by omega)])
  have HU : Hid (usedI xs [] t = 0) := Lib.hid (by simp [usedI, usedOf, hn]; try omega)
  have hdt0 : decide (0 ≤ t) = false := by simp; omega
  have HX := Lib.hid hx; clear hx
  have HN := Lib.hid hn; clear hn
  have HS := Lib.hid hs; clear hs
  have HW := Lib.hid hw; clear hw
  have hd8 : decide ((n : Int) ≤ 8) = true := by simp; omega
  go_enter Try.func8, Try.ntmps8
  go_wp2_with fail
  with_reducible refine (sane_any _).mono ?_
  rintro e W1 ⟨rfl, k⟩
  have K1 := Lib.hid k
  clear k
  have hcell : ∀ k, k < n → W1.cell? ⟨b, off + k, none⟩ = some (.int .i64 (xs.getD k 0)) := fun k hk => by
    have e : xs[k]? = some (xs.getD k 0) := by rw [List.getD_eq_getElem?_getD, List.getElem?_eq_getElem (by have := HN.out; omega)]; rfl
    exact (HX.out.keep K1.out (fun h => h)) k _ e
  have HC := Lib.hid hcell
  clear hcell
  go_wp2_with fail
  with_reducible refine (new_ok cap _ _ _ _ _ _ HN.out hc1 hc2 h1 h8 (HX.out.keep K1.out (fun h => h)) HS.out).mono ?_
  rintro e W2 ⟨P, rfl, hP, e1, e2, e3, k1, hf⟩
  have HC2 := Lib.hid (fun k (hk : k < n) => k1.cell (HC.out k hk) (fun h => h))
  clear HC
  have HC := HC2
  clear HC2
  have HPP := Lib.hid (SP.new K1.out hP e1 e2 e3 k1 hf)
  clear hP k1 hf e1 e2 e3
  generalize P.p = p at *
  clear P
  go_wp2_with fail
  go_loop [12, 13, 14] (fun gv l i => ∃ (k : Nat) (g : Bool) (x : Int), k ≤ n ∧ gv = .bool g ∧ l = .int .i64 x ∧ i = .int .i64 k ∧ RB cap xs k g x) (fun _ _ i => n - (intOf i).toNat)
  case atStart => exact ⟨0, true, cap, by omega, rfl, rfl, rfl, rfl⟩
  case round =>
    obtain ⟨k, g, x, hk, rfl, rfl, rfl, hr⟩ := hrel
    have hb := hr.bound (by omega)
    have HR := Lib.hid hr
    clear hr
    by_cases hlt : k < n
    · have hcell := HC.out k (by omega)
      have hget : xs[k]? = some (xs.getD k 0) := by rw [List.getD_eq_getElem?_getD, List.getElem?_eq_getElem (by have := HN.out; omega)]; rfl
      have HS := Lib.hid (HR.out.step hget)
      clear hget HR
      have hw := HW.out k hlt
      generalize xs.getD k 0 = y at hcell HS hw
      have S1 : ∀ v u : Int, ∀ b : Bool, (g && decide (0 ≤ y) && decide (y ≤ x)) = b → x - min (max y 0) 1000000 = u → RB cap xs (k + 1) b u := fun v u b h1 h2 => by rw [← h1, ← h2]; exact HS.out
      have HT := Lib.hid S1
      clear S1 HS
      cases g with
      | false =>
        go_wp2_with fail
        all_goals
          go_round
          case rel => exact ⟨k + 1, false, _, by omega, rfl, rfl, by go_num, HT.out 0 _ _ rfl (by omega)⟩
          case measure => simp [intOf]; omega
      | true =>
        by_cases hy : 0 ≤ y
        · have hd1 : decide (0 ≤ y) = true := by simpa using hy
          by_cases hyx : y ≤ x
          · have hd2 : decide (y ≤ x) = true := by simpa using hyx
            go_wp2_with fail
            all_goals
              go_round
              case rel => exact ⟨k + 1, true, _, by omega, rfl, rfl, by go_num, HT.out 0 _ _ (by simp [hy, hyx]) (by omega)⟩
              case measure => simp [intOf]; omega
          · have hd2 : decide (y ≤ x) = false := by simpa using hyx
            go_wp2_with fail
            all_goals
              go_round
              case rel => exact ⟨k + 1, false, _, by omega, rfl, rfl, by go_num, HT.out 0 _ _ (by simp [hyx]) (by omega)⟩
              case measure => simp [intOf]; omega
        · have hd1 : decide (0 ≤ y) = false := by simpa using hy
          go_wp2_with fail
          all_goals
            go_round
            case rel => exact ⟨k + 1, false, _, by omega, rfl, rfl, by go_num, HT.out 0 _ _ (by simp [hy]) (by omega)⟩
            case measure => simp [intOf]; omega
    · have hg : g = sharesOk cap xs := HR.out.last (by have := HN.out; omega) (by omega)
      rw [HS.out] at hg
      subst hg
      go_wp2_with fail
      with_reducible refine (put_nil 0 (ky 97) 1 _).mono ?_
      rintro e W2 ⟨rfl, k⟩
      have K2 := Lib.hid ((Keep.refl (fun _ => False) _).trans k)
      clear k
      go_wp2_with fail
      with_reducible refine (touch_nil (ky 97) _).mono ?_
      rintro e w' ⟨rfl, rfl⟩
      go_wp2_with fail
      with_reducible refine (remove_nil (ky 97) _).mono ?_
      rintro e w' ⟨rfl, rfl⟩
      go_wp2_with fail
      with_reducible refine (has_nil (ky 97) _).mono ?_
      rintro e w' ⟨rfl, rfl⟩
      go_wp2_with fail
      with_reducible refine (tenant_nil (ky 97) _).mono ?_
      rintro e w' ⟨rfl, rfl⟩
      go_wp2_with fail
      with_reducible refine (used_nil 0 _).mono ?_
      rintro e w' ⟨rfl, rfl⟩
      go_wp2_with fail
      with_reducible refine (free_nil _).mono ?_
      rintro e w' ⟨rfl, rfl⟩
      go_wp2_with fail
      with_reducible refine (keys_nil 0 _).mono ?_
      rintro e W3 ⟨rfl, k⟩
      have K3 := Lib.hid (K2.out.trans k)
      clear k
      go_wp2_with fail
      with_reducible refine (put_sp' t (ky 97) z _ (HPP.out.keep K3.out) (ky_small _) (by omega) false [] [] [] 0 HE.out rfl rfl).mono ?_
      rintro e W5 ⟨a5, c5, rfl, h⟩
      have H5 := Lib.hid h
      clear h
      go_wp2_with fail
      with_reducible refine (used_sp t _ H5.out).mono ?_
      rintro e w' ⟨rfl, rfl⟩
      rw [HU.out]
      go_wp2_with fail
      go_ret
      exact ⟨rfl, H5.out.k.low⟩

set_option maxRecDepth 100000 in
set_option maxHeartbeats 1000000 in
theorem refuses_ok1 (cap : Int) (b off n c : Nat) (xs : List Int) (t z : Int) (w : World) (hn : xs.length = n) (hcn : n ≤ c) (hc : c ≤ 9223372036854775807) (hx : IntsAt w b off xs) (h1 : 1 ≤ n) (h8 : n ≤ 8) (hc1 : 1 ≤ cap) (hc2 : cap ≤ 1000000) (hw : ∀ k, k < n → -9223372036854775808 ≤ xs.getD k 0 ∧ xs.getD k 0 ≤ 9223372036854775807) (ht : -9223372036854775808 ≤ t ∧ t ≤ 9223372036854775807) (hz : -9223372036854775808 ≤ z ∧ z ≤ 9223372036854775807) (hs : sharesOk cap xs = true) (h0 : 0 ≤ t) (h : (n : Int) ≤ t) :
    Calls Try.prog 8 #[.int .i64 cap, .slice (some ⟨b, off, none⟩) n c, .int .i64 t, .int .i64 z] w fun e w' => e = .returned (.bool true) ∧ Below w.heap.size w w' := by
  have HE : Hid (putI cap xs [] t (ky 97) z = (false, [], [])) := Lib.hid (by rw [putI, if_neg (by omega)])
  have HU : Hid (usedI xs [] t = 0) := Lib.hid (by simp [usedI, usedOf, hn]; try omega)
  have hdt0 : decide (0 ≤ t) = true := by simp; omega
  have hdt1 : decide (t < (n : Int)) = false := by simp; omega
  have HX := Lib.hid hx; clear hx
  have HN := Lib.hid hn; clear hn
  have HS := Lib.hid hs; clear hs
  have HW := Lib.hid hw; clear hw
  have hd8 : decide ((n : Int) ≤ 8) = true := by simp; omega
  go_enter Try.func8, Try.ntmps8
  go_wp2_with fail
  with_reducible refine (sane_any _).mono ?_
  rintro e W1 ⟨rfl, k⟩
  have K1 := Lib.hid k
  clear k
  have hcell : ∀ k, k < n → W1.cell? ⟨b, off + k, none⟩ = some (.int .i64 (xs.getD k 0)) := fun k hk => by
    have e : xs[k]? = some (xs.getD k 0) := by rw [List.getD_eq_getElem?_getD, List.getElem?_eq_getElem (by have := HN.out; omega)]; rfl
    exact (HX.out.keep K1.out (fun h => h)) k _ e
  have HC := Lib.hid hcell
  clear hcell
  go_wp2_with fail
  with_reducible refine (new_ok cap _ _ _ _ _ _ HN.out hc1 hc2 h1 h8 (HX.out.keep K1.out (fun h => h)) HS.out).mono ?_
  rintro e W2 ⟨P, rfl, hP, e1, e2, e3, k1, hf⟩
  have HC2 := Lib.hid (fun k (hk : k < n) => k1.cell (HC.out k hk) (fun h => h))
  clear HC
  have HC := HC2
  clear HC2
  have HPP := Lib.hid (SP.new K1.out hP e1 e2 e3 k1 hf)
  clear hP k1 hf e1 e2 e3
  generalize P.p = p at *
  clear P
  go_wp2_with fail
  go_loop [12, 13, 14] (fun gv l i => ∃ (k : Nat) (g : Bool) (x : Int), k ≤ n ∧ gv = .bool g ∧ l = .int .i64 x ∧ i = .int .i64 k ∧ RB cap xs k g x) (fun _ _ i => n - (intOf i).toNat)
  case atStart => exact ⟨0, true, cap, by omega, rfl, rfl, rfl, rfl⟩
  case round =>
    obtain ⟨k, g, x, hk, rfl, rfl, rfl, hr⟩ := hrel
    have hb := hr.bound (by omega)
    have HR := Lib.hid hr
    clear hr
    by_cases hlt : k < n
    · have hcell := HC.out k (by omega)
      have hget : xs[k]? = some (xs.getD k 0) := by rw [List.getD_eq_getElem?_getD, List.getElem?_eq_getElem (by have := HN.out; omega)]; rfl
      have HS := Lib.hid (HR.out.step hget)
      clear hget HR
      have hw := HW.out k hlt
      generalize xs.getD k 0 = y at hcell HS hw
      have S1 : ∀ v u : Int, ∀ b : Bool, (g && decide (0 ≤ y) && decide (y ≤ x)) = b → x - min (max y 0) 1000000 = u → RB cap xs (k + 1) b u := fun v u b h1 h2 => by rw [← h1, ← h2]; exact HS.out
      have HT := Lib.hid S1
      clear S1 HS
      cases g with
      | false =>
        go_wp2_with fail
        all_goals
          go_round
          case rel => exact ⟨k + 1, false, _, by omega, rfl, rfl, by go_num, HT.out 0 _ _ rfl (by omega)⟩
          case measure => simp [intOf]; omega
      | true =>
        by_cases hy : 0 ≤ y
        · have hd1 : decide (0 ≤ y) = true := by simpa using hy
          by_cases hyx : y ≤ x
          · have hd2 : decide (y ≤ x) = true := by simpa using hyx
            go_wp2_with fail
            all_goals
              go_round
              case rel => exact ⟨k + 1, true, _, by omega, rfl, rfl, by go_num, HT.out 0 _ _ (by simp [hy, hyx]) (by omega)⟩
              case measure => simp [intOf]; omega
          · have hd2 : decide (y ≤ x) = false := by simpa using hyx
            go_wp2_with fail
            all_goals
              go_round
              case rel => exact ⟨k + 1, false, _, by omega, rfl, rfl, by go_num, HT.out 0 _ _ (by simp [hyx]) (by omega)⟩
              case measure => simp [intOf]; omega
        · have hd1 : decide (0 ≤ y) = false := by simpa using hy
          go_wp2_with fail
          all_goals
            go_round
            case rel => exact ⟨k + 1, false, _, by omega, rfl, rfl, by go_num, HT.out 0 _ _ (by simp [hy]) (by omega)⟩
            case measure => simp [intOf]; omega
    · have hg : g = sharesOk cap xs := HR.out.last (by have := HN.out; omega) (by omega)
      rw [HS.out] at hg
      subst hg
      go_wp2_with fail
      with_reducible refine (put_nil 0 (ky 97) 1 _).mono ?_
      rintro e W2 ⟨rfl, k⟩
      have K2 := Lib.hid ((Keep.refl (fun _ => False) _).trans k)
      clear k
      go_wp2_with fail
      with_reducible refine (touch_nil (ky 97) _).mono ?_
      rintro e w' ⟨rfl, rfl⟩
      go_wp2_with fail
      with_reducible refine (remove_nil (ky 97) _).mono ?_
      rintro e w' ⟨rfl, rfl⟩
      go_wp2_with fail
      with_reducible refine (has_nil (ky 97) _).mono ?_
      rintro e w' ⟨rfl, rfl⟩
      go_wp2_with fail
      with_reducible refine (tenant_nil (ky 97) _).mono ?_
      rintro e w' ⟨rfl, rfl⟩
      go_wp2_with fail
      with_reducible refine (used_nil 0 _).mono ?_
      rintro e w' ⟨rfl, rfl⟩
      go_wp2_with fail
      with_reducible refine (free_nil _).mono ?_
      rintro e w' ⟨rfl, rfl⟩
      go_wp2_with fail
      with_reducible refine (keys_nil 0 _).mono ?_
      rintro e W3 ⟨rfl, k⟩
      have K3 := Lib.hid (K2.out.trans k)
      clear k
      go_wp2_with fail
      with_reducible refine (put_sp' t (ky 97) z _ (HPP.out.keep K3.out) (ky_small _) (by omega) false [] [] [] 0 HE.out rfl rfl).mono ?_
      rintro e W5 ⟨a5, c5, rfl, h⟩
      have H5 := Lib.hid h
      clear h
      go_wp2_with fail
      with_reducible refine (used_sp t _ H5.out).mono ?_
      rintro e w' ⟨rfl, rfl⟩
      rw [HU.out]
      go_wp2_with fail
      go_ret
      exact ⟨rfl, H5.out.k.low⟩

set_option maxRecDepth 100000 in
set_option maxHeartbeats 1000000 in
theorem refuses_ok2 (cap : Int) (b off n c : Nat) (xs : List Int) (t z : Int) (w : World) (hn : xs.length = n) (hcn : n ≤ c) (hc : c ≤ 9223372036854775807) (hx : IntsAt w b off xs) (h1 : 1 ≤ n) (h8 : n ≤ 8) (hc1 : 1 ≤ cap) (hc2 : cap ≤ 1000000) (hw : ∀ k, k < n → -9223372036854775808 ≤ xs.getD k 0 ∧ xs.getD k 0 ≤ 9223372036854775807) (ht : -9223372036854775808 ≤ t ∧ t ≤ 9223372036854775807) (hz : -9223372036854775808 ≤ z ∧ z ≤ 9223372036854775807) (hs : sharesOk cap xs = true) (h0 : 0 ≤ t) (h2 : t < n) (h : z < 1) :
    Calls Try.prog 8 #[.int .i64 cap, .slice (some ⟨b, off, none⟩) n c, .int .i64 t, .int .i64 z] w fun e w' => e = .returned (.bool true) ∧ Below w.heap.size w w' := by
  have HE : Hid (putI cap xs [] t (ky 97) z = (false, [], [])) := Lib.hid (by rw [putI, if_neg (by omega)])
  have HU : Hid (usedI xs [] t = 0) := Lib.hid (by simp [usedI, usedOf, hn]; try omega)
  have hdt0 : decide (0 ≤ t) = true := by simp; omega
  have hdt1 : decide (t < (n : Int)) = true := by simp; omega
  have hdt2 : decide (1 ≤ z) = false := by simp; omega
  have HX := Lib.hid hx; clear hx
  have HN := Lib.hid hn; clear hn
  have HS := Lib.hid hs; clear hs
  have HW := Lib.hid hw; clear hw
  have hd8 : decide ((n : Int) ≤ 8) = true := by simp; omega
  go_enter Try.func8, Try.ntmps8
  go_wp2_with fail
  with_reducible refine (sane_any _).mono ?_
  rintro e W1 ⟨rfl, k⟩
  have K1 := Lib.hid k
  clear k
  have hcell : ∀ k, k < n → W1.cell? ⟨b, off + k, none⟩ = some (.int .i64 (xs.getD k 0)) := fun k hk => by
    have e : xs[k]? = some (xs.getD k 0) := by rw [List.getD_eq_getElem?_getD, List.getElem?_eq_getElem (by have := HN.out; omega)]; rfl
    exact (HX.out.keep K1.out (fun h => h)) k _ e
  have HC := Lib.hid hcell
  clear hcell
  go_wp2_with fail
  with_reducible refine (new_ok cap _ _ _ _ _ _ HN.out hc1 hc2 h1 h8 (HX.out.keep K1.out (fun h => h)) HS.out).mono ?_
  rintro e W2 ⟨P, rfl, hP, e1, e2, e3, k1, hf⟩
  have HC2 := Lib.hid (fun k (hk : k < n) => k1.cell (HC.out k hk) (fun h => h))
  clear HC
  have HC := HC2
  clear HC2
  have HPP := Lib.hid (SP.new K1.out hP e1 e2 e3 k1 hf)
  clear hP k1 hf e1 e2 e3
  generalize P.p = p at *
  clear P
  go_wp2_with fail
  go_loop [12, 13, 14] (fun gv l i => ∃ (k : Nat) (g : Bool) (x : Int), k ≤ n ∧ gv = .bool g ∧ l = .int .i64 x ∧ i = .int .i64 k ∧ RB cap xs k g x) (fun _ _ i => n - (intOf i).toNat)
  case atStart => exact ⟨0, true, cap, by omega, rfl, rfl, rfl, rfl⟩
  case round =>
    obtain ⟨k, g, x, hk, rfl, rfl, rfl, hr⟩ := hrel
    have hb := hr.bound (by omega)
    have HR := Lib.hid hr
    clear hr
    by_cases hlt : k < n
    · have hcell := HC.out k (by omega)
      have hget : xs[k]? = some (xs.getD k 0) := by rw [List.getD_eq_getElem?_getD, List.getElem?_eq_getElem (by have := HN.out; omega)]; rfl
      have HS := Lib.hid (HR.out.step hget)
      clear hget HR
      have hw := HW.out k hlt
      generalize xs.getD k 0 = y at hcell HS hw
      have S1 : ∀ v u : Int, ∀ b : Bool, (g && decide (0 ≤ y) && decide (y ≤ x)) = b → x - min (max y 0) 1000000 = u → RB cap xs (k + 1) b u := fun v u b h1 h2 => by rw [← h1, ← h2]; exact HS.out
      have HT := Lib.hid S1
      clear S1 HS
      cases g with
      | false =>
        go_wp2_with fail
        all_goals
          go_round
          case rel => exact ⟨k + 1, false, _, by omega, rfl, rfl, by go_num, HT.out 0 _ _ rfl (by omega)⟩
          case measure => simp [intOf]; omega
      | true =>
        by_cases hy : 0 ≤ y
        · have hd1 : decide (0 ≤ y) = true := by simpa using hy
          by_cases hyx : y ≤ x
          · have hd2 : decide (y ≤ x) = true := by simpa using hyx
            go_wp2_with fail
            all_goals
              go_round
              case rel => exact ⟨k + 1, true, _, by omega, rfl, rfl, by go_num, HT.out 0 _ _ (by simp [hy, hyx]) (by omega)⟩
              case measure => simp [intOf]; omega
          · have hd2 : decide (y ≤ x) = false := by simpa using hyx
            go_wp2_with fail
            all_goals
              go_round
              case rel => exact ⟨k + 1, false, _, by omega, rfl, rfl, by go_num, HT.out 0 _ _ (by simp [hyx]) (by omega)⟩
              case measure => simp [intOf]; omega
        · have hd1 : decide (0 ≤ y) = false := by simpa using hy
          go_wp2_with fail
          all_goals
            go_round
            case rel => exact ⟨k + 1, false, _, by omega, rfl, rfl, by go_num, HT.out 0 _ _ (by simp [hy]) (by omega)⟩
            case measure => simp [intOf]; omega
    · have hg : g = sharesOk cap xs := HR.out.last (by have := HN.out; omega) (by omega)
      rw [HS.out] at hg
      subst hg
      go_wp2_with fail
      with_reducible refine (put_nil 0 (ky 97) 1 _).mono ?_
      rintro e W2 ⟨rfl, k⟩
      have K2 := Lib.hid ((Keep.refl (fun _ => False) _).trans k)
      clear k
      go_wp2_with fail
      with_reducible refine (touch_nil (ky 97) _).mono ?_
      rintro e w' ⟨rfl, rfl⟩
      go_wp2_with fail
      with_reducible refine (remove_nil (ky 97) _).mono ?_
      rintro e w' ⟨rfl, rfl⟩
      go_wp2_with fail
      with_reducible refine (has_nil (ky 97) _).mono ?_
      rintro e w' ⟨rfl, rfl⟩
      go_wp2_with fail
      with_reducible refine (tenant_nil (ky 97) _).mono ?_
      rintro e w' ⟨rfl, rfl⟩
      go_wp2_with fail
      with_reducible refine (used_nil 0 _).mono ?_
      rintro e w' ⟨rfl, rfl⟩
      go_wp2_with fail
      with_reducible refine (free_nil _).mono ?_
      rintro e w' ⟨rfl, rfl⟩
      go_wp2_with fail
      with_reducible refine (keys_nil 0 _).mono ?_
      rintro e W3 ⟨rfl, k⟩
      have K3 := Lib.hid (K2.out.trans k)
      clear k
      go_wp2_with fail
      with_reducible refine (put_sp' t (ky 97) z _ (HPP.out.keep K3.out) (ky_small _) (by omega) false [] [] [] 0 HE.out rfl rfl).mono ?_
      rintro e W5 ⟨a5, c5, rfl, h⟩
      have H5 := Lib.hid h
      clear h
      go_wp2_with fail
      with_reducible refine (used_sp t _ H5.out).mono ?_
      rintro e w' ⟨rfl, rfl⟩
      rw [HU.out]
      go_wp2_with fail
      go_ret
      exact ⟨rfl, H5.out.k.low⟩

set_option maxRecDepth 100000 in
set_option maxHeartbeats 1000000 in
theorem refuses_ok3 (cap : Int) (b off n c : Nat) (xs : List Int) (t z : Int) (w : World) (hn : xs.length = n) (hcn : n ≤ c) (hc : c ≤ 9223372036854775807) (hx : IntsAt w b off xs) (h1 : 1 ≤ n) (h8 : n ≤ 8) (hc1 : 1 ≤ cap) (hc2 : cap ≤ 1000000) (hw : ∀ k, k < n → -9223372036854775808 ≤ xs.getD k 0 ∧ xs.getD k 0 ≤ 9223372036854775807) (ht : -9223372036854775808 ≤ t ∧ t ≤ 9223372036854775807) (hz : -9223372036854775808 ≤ z ∧ z ≤ 9223372036854775807) (hs : sharesOk cap xs = true) (h0 : 0 ≤ t) (h2 : t < n) (h3 : 1 ≤ z) (h : cap < z) :
    Calls Try.prog 8 #[.int .i64 cap, .slice (some ⟨b, off, none⟩) n c, .int .i64 t, .int .i64 z] w fun e w' => e = .returned (.bool true) ∧ Below w.heap.size w w' := by
  have HE : Hid (putI cap xs [] t (ky 97) z = (false, [], [])) := Lib.hid (put_empty_no cap xs t (ky 97) z h0 (by omega) h3 h)
  have HU : Hid (usedI xs [] t = 0) := Lib.hid (by simp [usedI, usedOf, hn]; try omega)
  have hdt0 : decide (0 ≤ t) = true := by simp; omega
  have hdt1 : decide (t < (n : Int)) = true := by simp; omega
  have hdt2 : decide (1 ≤ z) = true := by simp; omega
  have hdt3 : decide (z ≤ cap) = false := by simp; omega
  have HX := Lib.hid hx; clear hx
  have HN := Lib.hid hn; clear hn
  have HS := Lib.hid hs; clear hs
  have HW := Lib.hid hw; clear hw
  have hd8 : decide ((n : Int) ≤ 8) = true := by simp; omega
  go_enter Try.func8, Try.ntmps8
  go_wp2_with fail
  with_reducible refine (sane_any _).mono ?_
  rintro e W1 ⟨rfl, k⟩
  have K1 := Lib.hid k
  clear k
  have hcell : ∀ k, k < n → W1.cell? ⟨b, off + k, none⟩ = some (.int .i64 (xs.getD k 0)) := fun k hk => by
    have e : xs[k]? = some (xs.getD k 0) := by rw [List.getD_eq_getElem?_getD, List.getElem?_eq_getElem (by have := HN.out; omega)]; rfl
    exact (HX.out.keep K1.out (fun h => h)) k _ e
  have HC := Lib.hid hcell
  clear hcell
  go_wp2_with fail
  with_reducible refine (new_ok cap _ _ _ _ _ _ HN.out hc1 hc2 h1 h8 (HX.out.keep K1.out (fun h => h)) HS.out).mono ?_
  rintro e W2 ⟨P, rfl, hP, e1, e2, e3, k1, hf⟩
  have HC2 := Lib.hid (fun k (hk : k < n) => k1.cell (HC.out k hk) (fun h => h))
  clear HC
  have HC := HC2
  clear HC2
  have HPP := Lib.hid (SP.new K1.out hP e1 e2 e3 k1 hf)
  clear hP k1 hf e1 e2 e3
  generalize P.p = p at *
  clear P
  go_wp2_with fail
  go_loop [12, 13, 14] (fun gv l i => ∃ (k : Nat) (g : Bool) (x : Int), k ≤ n ∧ gv = .bool g ∧ l = .int .i64 x ∧ i = .int .i64 k ∧ RB cap xs k g x) (fun _ _ i => n - (intOf i).toNat)
  case atStart => exact ⟨0, true, cap, by omega, rfl, rfl, rfl, rfl⟩
  case round =>
    obtain ⟨k, g, x, hk, rfl, rfl, rfl, hr⟩ := hrel
    have hb := hr.bound (by omega)
    have HR := Lib.hid hr
    clear hr
    by_cases hlt : k < n
    · have hcell := HC.out k (by omega)
      have hget : xs[k]? = some (xs.getD k 0) := by rw [List.getD_eq_getElem?_getD, List.getElem?_eq_getElem (by have := HN.out; omega)]; rfl
      have HS := Lib.hid (HR.out.step hget)
      clear hget HR
      have hw := HW.out k hlt
      generalize xs.getD k 0 = y at hcell HS hw
      have S1 : ∀ v u : Int, ∀ b : Bool, (g && decide (0 ≤ y) && decide (y ≤ x)) = b → x - min (max y 0) 1000000 = u → RB cap xs (k + 1) b u := fun v u b h1 h2 => by rw [← h1, ← h2]; exact HS.out
      have HT := Lib.hid S1
      clear S1 HS
      cases g with
      | false =>
        go_wp2_with fail
        all_goals
          go_round
          case rel => exact ⟨k + 1, false, _, by omega, rfl, rfl, by go_num, HT.out 0 _ _ rfl (by omega)⟩
          case measure => simp [intOf]; omega
      | true =>
        by_cases hy : 0 ≤ y
        · have hd1 : decide (0 ≤ y) = true := by simpa using hy
          by_cases hyx : y ≤ x
          · have hd2 : decide (y ≤ x) = true := by simpa using hyx
            go_wp2_with fail
            all_goals
              go_round
              case rel => exact ⟨k + 1, true, _, by omega, rfl, rfl, by go_num, HT.out 0 _ _ (by simp [hy, hyx]) (by omega)⟩
              case measure => simp [intOf]; omega
          · have hd2 : decide (y ≤ x) = false := by simpa using hyx
            go_wp2_with fail
            all_goals
              go_round
              case rel => exact ⟨k + 1, false, _, by omega, rfl, rfl, by go_num, HT.out 0 _ _ (by simp [hyx]) (by omega)⟩
              case measure => simp [intOf]; omega
        · have hd1 : decide (0 ≤ y) = false := by simpa using hy
          go_wp2_with fail
          all_goals
            go_round
            case rel => exact ⟨k + 1, false, _, by omega, rfl, rfl, by go_num, HT.out 0 _ _ (by simp [hy]) (by omega)⟩
            case measure => simp [intOf]; omega
    · have hg : g = sharesOk cap xs := HR.out.last (by have := HN.out; omega) (by omega)
      rw [HS.out] at hg
      subst hg
      go_wp2_with fail
      with_reducible refine (put_nil 0 (ky 97) 1 _).mono ?_
      rintro e W2 ⟨rfl, k⟩
      have K2 := Lib.hid ((Keep.refl (fun _ => False) _).trans k)
      clear k
      go_wp2_with fail
      with_reducible refine (touch_nil (ky 97) _).mono ?_
      rintro e w' ⟨rfl, rfl⟩
      go_wp2_with fail
      with_reducible refine (remove_nil (ky 97) _).mono ?_
      rintro e w' ⟨rfl, rfl⟩
      go_wp2_with fail
      with_reducible refine (has_nil (ky 97) _).mono ?_
      rintro e w' ⟨rfl, rfl⟩
      go_wp2_with fail
      with_reducible refine (tenant_nil (ky 97) _).mono ?_
      rintro e w' ⟨rfl, rfl⟩
      go_wp2_with fail
      with_reducible refine (used_nil 0 _).mono ?_
      rintro e w' ⟨rfl, rfl⟩
      go_wp2_with fail
      with_reducible refine (free_nil _).mono ?_
      rintro e w' ⟨rfl, rfl⟩
      go_wp2_with fail
      with_reducible refine (keys_nil 0 _).mono ?_
      rintro e W3 ⟨rfl, k⟩
      have K3 := Lib.hid (K2.out.trans k)
      clear k
      go_wp2_with fail
      with_reducible refine (put_sp' t (ky 97) z _ (HPP.out.keep K3.out) (ky_small _) (by omega) false [] [] [] 0 HE.out rfl rfl).mono ?_
      rintro e W5 ⟨a5, c5, rfl, h⟩
      have H5 := Lib.hid h
      clear h
      go_wp2_with fail
      with_reducible refine (used_sp t _ H5.out).mono ?_
      rintro e w' ⟨rfl, rfl⟩
      rw [HU.out]
      go_wp2_with fail
      go_ret
      exact ⟨rfl, H5.out.k.low⟩

set_option maxRecDepth 100000 in
set_option maxHeartbeats 1000000 in
theorem refuses_ok4 (cap : Int) (b off n c : Nat) (xs : List Int) (t z : Int) (w : World) (hn : xs.length = n) (hcn : n ≤ c) (hc : c ≤ 9223372036854775807) (hx : IntsAt w b off xs) (h1 : 1 ≤ n) (h8 : n ≤ 8) (hc1 : 1 ≤ cap) (hc2 : cap ≤ 1000000) (hw : ∀ k, k < n → -9223372036854775808 ≤ xs.getD k 0 ∧ xs.getD k 0 ≤ 9223372036854775807) (ht : -9223372036854775808 ≤ t ∧ t ≤ 9223372036854775807) (hz : -9223372036854775808 ≤ z ∧ z ≤ 9223372036854775807) (hs : sharesOk cap xs = true) (h0 : 0 ≤ t) (h2 : t < n) (h3 : 1 ≤ z) (h : z ≤ cap) :
    Calls Try.prog 8 #[.int .i64 cap, .slice (some ⟨b, off, none⟩) n c, .int .i64 t, .int .i64 z] w fun e w' => e = .returned (.bool true) ∧ Below w.heap.size w w' := by
  have HE : Hid (putI cap xs [] t (ky 97) z = (true, [], [⟨ky 97, t.toNat, z⟩])) := Lib.hid (put_empty_yes cap xs t (ky 97) z h0 (by omega) h3 h)
  have HU : Hid (usedI xs [⟨ky 97, t.toNat, z⟩] t = z) := Lib.hid (by simp [usedI, usedOf, hn]; try omega)
  have hdt0 : decide (0 ≤ t) = true := by simp; omega
  have hdt1 : decide (t < (n : Int)) = true := by simp; omega
  have hdt2 : decide (1 ≤ z) = true := by simp; omega
  have hdt3 : decide (z ≤ cap) = true := by simp; omega
  have hz0 : (z == 0) = false := by simp; omega
  have HX := Lib.hid hx; clear hx
  have HN := Lib.hid hn; clear hn
  have HS := Lib.hid hs; clear hs
  have HW := Lib.hid hw; clear hw
  have hd8 : decide ((n : Int) ≤ 8) = true := by simp; omega
  go_enter Try.func8, Try.ntmps8
  go_wp2_with fail
  with_reducible refine (sane_any _).mono ?_
  rintro e W1 ⟨rfl, k⟩
  have K1 := Lib.hid k
  clear k
  have hcell : ∀ k, k < n → W1.cell? ⟨b, off + k, none⟩ = some (.int .i64 (xs.getD k 0)) := fun k hk => by
    have e : xs[k]? = some (xs.getD k 0) := by rw [List.getD_eq_getElem?_getD, List.getElem?_eq_getElem (by have := HN.out; omega)]; rfl
    exact (HX.out.keep K1.out (fun h => h)) k _ e
  have HC := Lib.hid hcell
  clear hcell
  go_wp2_with fail
  with_reducible refine (new_ok cap _ _ _ _ _ _ HN.out hc1 hc2 h1 h8 (HX.out.keep K1.out (fun h => h)) HS.out).mono ?_
  rintro e W2 ⟨P, rfl, hP, e1, e2, e3, k1, hf⟩
  have HC2 := Lib.hid (fun k (hk : k < n) => k1.cell (HC.out k hk) (fun h => h))
  clear HC
  have HC := HC2
  clear HC2
  have HPP := Lib.hid (SP.new K1.out hP e1 e2 e3 k1 hf)
  clear hP k1 hf e1 e2 e3
  generalize P.p = p at *
  clear P
  go_wp2_with fail
  go_loop [12, 13, 14] (fun gv l i => ∃ (k : Nat) (g : Bool) (x : Int), k ≤ n ∧ gv = .bool g ∧ l = .int .i64 x ∧ i = .int .i64 k ∧ RB cap xs k g x) (fun _ _ i => n - (intOf i).toNat)
  case atStart => exact ⟨0, true, cap, by omega, rfl, rfl, rfl, rfl⟩
  case round =>
    obtain ⟨k, g, x, hk, rfl, rfl, rfl, hr⟩ := hrel
    have hb := hr.bound (by omega)
    have HR := Lib.hid hr
    clear hr
    by_cases hlt : k < n
    · have hcell := HC.out k (by omega)
      have hget : xs[k]? = some (xs.getD k 0) := by rw [List.getD_eq_getElem?_getD, List.getElem?_eq_getElem (by have := HN.out; omega)]; rfl
      have HS := Lib.hid (HR.out.step hget)
      clear hget HR
      have hw := HW.out k hlt
      generalize xs.getD k 0 = y at hcell HS hw
      have S1 : ∀ v u : Int, ∀ b : Bool, (g && decide (0 ≤ y) && decide (y ≤ x)) = b → x - min (max y 0) 1000000 = u → RB cap xs (k + 1) b u := fun v u b h1 h2 => by rw [← h1, ← h2]; exact HS.out
      have HT := Lib.hid S1
      clear S1 HS
      cases g with
      | false =>
        go_wp2_with fail
        all_goals
          go_round
          case rel => exact ⟨k + 1, false, _, by omega, rfl, rfl, by go_num, HT.out 0 _ _ rfl (by omega)⟩
          case measure => simp [intOf]; omega
      | true =>
        by_cases hy : 0 ≤ y
        · have hd1 : decide (0 ≤ y) = true := by simpa using hy
          by_cases hyx : y ≤ x
          · have hd2 : decide (y ≤ x) = true := by simpa using hyx
            go_wp2_with fail
            all_goals
              go_round
              case rel => exact ⟨k + 1, true, _, by omega, rfl, rfl, by go_num, HT.out 0 _ _ (by simp [hy, hyx]) (by omega)⟩
              case measure => simp [intOf]; omega
          · have hd2 : decide (y ≤ x) = false := by simpa using hyx
            go_wp2_with fail
            all_goals
              go_round
              case rel => exact ⟨k + 1, false, _, by omega, rfl, rfl, by go_num, HT.out 0 _ _ (by simp [hyx]) (by omega)⟩
              case measure => simp [intOf]; omega
        · have hd1 : decide (0 ≤ y) = false := by simpa using hy
          go_wp2_with fail
          all_goals
            go_round
            case rel => exact ⟨k + 1, false, _, by omega, rfl, rfl, by go_num, HT.out 0 _ _ (by simp [hy]) (by omega)⟩
            case measure => simp [intOf]; omega
    · have hg : g = sharesOk cap xs := HR.out.last (by have := HN.out; omega) (by omega)
      rw [HS.out] at hg
      subst hg
      go_wp2_with fail
      with_reducible refine (put_nil 0 (ky 97) 1 _).mono ?_
      rintro e W2 ⟨rfl, k⟩
      have K2 := Lib.hid ((Keep.refl (fun _ => False) _).trans k)
      clear k
      go_wp2_with fail
      with_reducible refine (touch_nil (ky 97) _).mono ?_
      rintro e w' ⟨rfl, rfl⟩
      go_wp2_with fail
      with_reducible refine (remove_nil (ky 97) _).mono ?_
      rintro e w' ⟨rfl, rfl⟩
      go_wp2_with fail
      with_reducible refine (has_nil (ky 97) _).mono ?_
      rintro e w' ⟨rfl, rfl⟩
      go_wp2_with fail
      with_reducible refine (tenant_nil (ky 97) _).mono ?_
      rintro e w' ⟨rfl, rfl⟩
      go_wp2_with fail
      with_reducible refine (used_nil 0 _).mono ?_
      rintro e w' ⟨rfl, rfl⟩
      go_wp2_with fail
      with_reducible refine (free_nil _).mono ?_
      rintro e w' ⟨rfl, rfl⟩
      go_wp2_with fail
      with_reducible refine (keys_nil 0 _).mono ?_
      rintro e W3 ⟨rfl, k⟩
      have K3 := Lib.hid (K2.out.trans k)
      clear k
      go_wp2_with fail
      with_reducible refine (put_sp' t (ky 97) z _ (HPP.out.keep K3.out) (ky_small _) (by omega) true [] [⟨ky 97, t.toNat, z⟩] [] 0 HE.out rfl rfl).mono ?_
      rintro e W5 ⟨a5, c5, rfl, h⟩
      have H5 := Lib.hid h
      clear h
      go_wp2_with fail
      with_reducible refine (used_sp t _ H5.out).mono ?_
      rintro e w' ⟨rfl, rfl⟩
      rw [HU.out]
      go_wp2_with fail
      go_ret
      exact ⟨rfl, H5.out.k.low⟩

end Go.Proofs.Ytigkhglgoabjaaa
