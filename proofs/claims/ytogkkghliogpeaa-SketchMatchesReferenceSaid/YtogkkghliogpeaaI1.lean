/-
  SketchTotal: the walk.
-/
import Derived.Test.YtogkkghliogpeaaQ1
import Derived.Test.YtogkkghliogpeaaG6
namespace Go.Proofs.Ytogkkghliogpeaa
open Go.RowKit Go.Shelf

/-- A sketch that is newer than w. -/
structure New1 (w W : World) (s bm cap : Nat) (L : List C) : Prop where
  sk : Sk W s bm cap L
  k : Keep (fun _ => False) w W
  s0 : w.heap.size ≤ s
  b0 : w.heap.size ≤ bm
section
variable {w W W' : World} {s bm bn cap : Nat} {L M : List C}
theorem New1.keep (h : New1 w W s bm cap L) (k : Keep (fun _ => False) W W') : New1 w W' s bm cap L := ⟨h.sk.keep k (fun h => h) (fun h => h), h.k.trans k, h.s0, h.b0⟩
theorem New1.drewN (h : New1 w W s bm cap L) (k : Nat) : New1 w (W.drewN k) s bm cap L := h.keep ((Keep.refl _ W).drewN k)
theorem New1.upd (h : New1 w W s bm cap L) (k : Keep (fun k => k = s ∨ k = bm) W W') (n : Sk W' s bm cap M) : New1 w W' s bm cap M :=
  ⟨n, h.k.trans' k (fun i e => .inr (by have := h.s0; have := h.b0; omega)), h.s0, h.b0⟩
end

def sumK : List K3 → Int
  | [] => 0
  | x :: r => x.n + sumK r
theorem sumK_append : ∀ a b : List K3, sumK (a ++ b) = sumK a + sumK b
  | [], b => by simp [sumK]
  | x :: r, b => by simp only [List.cons_append, sumK]; rw [sumK_append r b]; omega
theorem sumK_ctr : ∀ L : List C, sumK (L.map ctrOf) = sumH L
  | [] => rfl
  | x :: r => by simp only [List.map_cons, sumK, sumH, sumK_ctr r]; rfl

theorem sumK_nonneg : ∀ {l : List K3}, (∀ x ∈ l, 0 ≤ x.n) → 0 ≤ sumK l
  | [], _ => by simp [sumK]
  | x :: r, h => by simp only [sumK]; have := h x (by simp); have := sumK_nonneg (l := r) (fun y hy => h y (by simp [hy])); omega
theorem sumK_take {l : List K3} (h : ∀ x ∈ l, 0 ≤ x.n) (j : Nat) : 0 ≤ sumK (l.take j) ∧ sumK (l.take j) ≤ sumK l := by
  have e : sumK l = sumK (l.take j) + sumK (l.drop j) := by rw [← sumK_append, List.take_append_drop]
  have h1 := sumK_nonneg (l := l.take j) (fun x hx => h x (List.mem_of_mem_take hx))
  have h2 := sumK_nonneg (l := l.drop j) (fun x hx => h x (List.mem_of_mem_drop hx))
  omega

theorem addC_len {cap : Nat} {L : List C} (h : OkL cap L) (key : ByteArray) (n : Int) : L.length ≤ (addC cap L key n).length := by
  unfold addC
  cases e : atC L key with
  | some x =>
    obtain ⟨h1, h2⟩ := atC_some e
    have := len_del h.keys h1
    rw [h2] at this
    simp only []
    rw [(insC_perm _ _).length_eq, List.length_cons]
    omega
  | none =>
    simp only []
    split
    · rw [(insC_perm _ _).length_eq, List.length_cons, List.length_dropLast]; omega
    · rw [(insC_perm _ _).length_eq, List.length_cons]; omega

theorem pick_int (c m : Int) (t : Nat) (w : World) (h1 : -9223372036854775808 ≤ c) (h2 : c ≤ 9223372036854775807) (hn : 1 ≤ m) (hn2 : m ≤ 100000) (ht : pk c m = t) :
    Calls Try.prog 11 #[.int .i64 c, .int .i64 m] w fun e w' => e = .returned (.int .i64 (t : Int)) ∧ w = w' := by
  rw [← ht]
  exact pick_any c m w h1 h2 hn (by omega)
theorem pk_int (c m : Int) (hn : 1 ≤ m) : ∃ t : Nat, pk c m = t ∧ (t : Int) < m := by
  have := pk_bd c m hn
  exact ⟨(pk c m).toNat, by omega, by omega⟩

theorem nms_get (t : Nat) (ht : t < 10) : ∃ key, nms[t]? = some key ∧ key.size ≤ maxLen := by
  have hl : t < nms.length := ht
  refine ⟨nms[t], List.getElem?_eq_getElem hl, ?_⟩
  have : ∀ x ∈ nms, x.size ≤ 1 := by decide
  exact Nat.le_trans (this _ (List.getElem_mem hl)) (by unfold maxLen; omega)

theorem topC_all (L : List C) (n : Nat) (h : L.length ≤ n) : topC L (n : Int) = L.map ctrOf := by
  unfold topC
  rw [Int.toNat_natCast, List.take_of_length_le h]

set_option maxRecDepth 100000 in
set_option maxHeartbeats 4000000 in
theorem total_go (k : Int) (b off n c : Nat) (f : Nat → Nat → Int) (w : World) (hk : -9223372036854775808 ≤ k ∧ k ≤ 9223372036854775807) (hn : n ≤ 9223372036854775807) (hst : Steps w b off n f) (hn0 : 0 < n) :
    Calls Try.prog 3 #[.int .i64 k, .slice (some ⟨b, off, none⟩) n c] w fun e w' => e = .returned (.bool true) ∧ Keep (fun _ => False) w w' := by
  obtain ⟨kq, hkq, hkl⟩ := pk_int k 12 (by decide)
  have hnew : ∀ w, Calls Try.prog 12 #[.int .i64 (1 + (kq : Int))] w (NewPost (1 + kq) w) := fun w => by
    have := new_ok (1 + kq) (by omega) (by omega) w
    simpa using this
  have HNEW := Lib.hid hnew
  have HPK := Lib.hid hkq
  have HST := Lib.hid hst
  have hbw : b < w.heap.size := World.block_lt_of_cell? _ _ (hst.cell 0 0 hn0 (by decide))
  have HBW := Lib.hid hbw
  clear hnew hkq hst hbw
  go_enter Try.func3, Try.ntmps3
  go_wp2_with fail
  with_reducible refine (sane_any _).mono ?_
  rintro e W0 ⟨rfl, k0⟩
  have HK0 := Lib.hid k0
  clear k0
  go_wp2_with fail
  with_reducible refine (pick_int k 12 kq _ hk.1 hk.2 (by decide) (by decide) HPK.out).mono ?_
  rintro e W0' ⟨rfl, rfl⟩
  go_wp2_with fail
  with_reducible refine (HNEW.out _).mono ?_
  rintro e W1 ⟨s, bm, rfl, hs, kk, hl1, hl2⟩
  have HN : Hid (New1 w W1 s bm (1 + kq) []) := Lib.hid ⟨hs, HK0.out.trans kk, Nat.le_trans HK0.out.size hl1, Nat.le_trans HK0.out.size hl2⟩
  clear hs kk hl1 hl2 HK0 HNEW
  go_wp2_with fail
  go_loopg [8, 9, 10] 60 (fun gh vt vz vi wr => ∃ (i : Nat) (L : List C), vi = .int .i64 i ∧ vt = .int .i64 (sumH L) ∧ vz = .int .i64 L.length ∧ i ≤ 60 ∧ 60 ≤ gh + i ∧ sumH L ≤ 1000 * i ∧ New1 w wr s bm (1 + kq) L)
  case atStart => exact ⟨0, [], rfl, rfl, rfl, by omega, by omega, by simp [sumH], HN.out⟩
  case round =>
    clear HN
    obtain ⟨i, L, rfl, rfl, rfl, hi60, hgh, hsum, hnw⟩ := hrel
    have HN := Lib.hid hnw
    have hlen : L.length ≤ 1 + kq := hnw.sk.ok.len
    have hs0 : 0 ≤ sumH L := by have := hnw.sk.ok.hi0 ⟨#[]⟩; omega
    clear hnw
    by_cases hin : i < n
    · by_cases hi : i < 60
      · have hinz : (i : Int) < (n : Int) := by omega
        have hiz : (i : Int) < 60 := by omega
        have hi0 : (0 : Int) ≤ (i : Int) := by omega
        have q2 := HN.out.k.cell (HST.out.cell i 2 hin (by decide)) (fun h => h)
        have hf2 : -9223372036854775808 ≤ f i 2 ∧ f i 2 ≤ 9223372036854775807 := ⟨HST.out.lo i 2, HST.out.hi i 2⟩
        have hf1 : -9223372036854775808 ≤ f i 1 ∧ f i 1 ≤ 9223372036854775807 := ⟨HST.out.lo i 1, HST.out.hi i 1⟩
        obtain ⟨n2, hn2, hn2l⟩ := pk_int (f i 2) 1000 (by decide)
        obtain ⟨t, ht, htl⟩ := pk_int (f i 1) 10 (by decide)
        obtain ⟨key, hkey, hks⟩ := nms_get t (by omega)
        have HP2 := Lib.hid hn2
        have HPT := Lib.hid ht
        have HKEY := Lib.hid (And.intro hkey hks)
        clear hn2 ht hkey hks
        go_wp2_with fail
        with_reducible refine (pick_int (f i 2) 1000 n2 _ hf2.1 hf2.2 (by decide) (by decide) HP2.out).mono ?_
        rintro e wr' ⟨rfl, rfl⟩
        go_wp2_with fail
        have c1 : ∀ p : KA (fun k => k = s ∨ k = bm) wr, p.val.cell? ⟨b, off + i * 3 + 1, none⟩ = some (.int .i64 (f i 1)) := fun p => p.k.cell (HN.out.k.cell (HST.out.cell i 1 hin (by decide)) (fun h => h)) (fun e => by have := HN.out.s0; have := HN.out.b0; have := HBW.out; omega)
        refine wp_region_phase (C := inKA (fun k => k = s ∨ k = bm) wr) [0, 2, 3, 4, 5, 6, 10] [1, 7, 8, 9, 11] (by kernel_rfl) (by kernel_rfl) ?_
        iterate 7 (refine headW_step rfl (fun K hK => ?_); go_simp; refine hK _ ?_; clear hK K)
        change tailW _ _ _ _ _ _ _
        clear c1 q2
        refine tailW_step rfl ⟨⟨_, (Keep.refl _ wr).drew⟩, rfl⟩ (fun K hK => ?_)
        go_simp
        refine (names_any _).mono ?_
        rintro e W2 ⟨nb, rfl, hnb, k2, hc2⟩
        have HN2 := Lib.hid ((HN.out.keep (Keep.refl (fun _ => False) wr).drew).keep k2)
        have HA2 : Hid (Keep (fun k => k = s ∨ k = bm) wr W2) := Lib.hid ((Keep.refl _ wr).drew.trans (k2.mono (fun _ h => h.elim)))
        have HCN := Lib.hid (hc2 t key HKEY.out.1)
        clear hnb k2 hc2
        refine hK _ _ ?_; clear hK K
        refine tailW_step rfl ⟨⟨_, HA2.out⟩, rfl⟩ (fun K hK => ?_)
        go_simp
        refine (pick_int (f i 1) 10 t _ hf1.1 hf1.2 (by decide) (by decide) HPT.out).mono ?_
        rintro e W2' ⟨rfl, rfl⟩
        refine hK _ _ ?_; clear hK K
        have ht0 : (0 : Int) ≤ (t : Int) := by omega
        refine tailW_step rfl ⟨⟨_, HA2.out⟩, rfl⟩ (fun K hK => ?_)
        go_simp
        refine hK _ _ ?_; clear hK K
        have hcn := HCN.out
        refine tailW_step rfl ⟨⟨_, HA2.out⟩, rfl⟩ (fun K hK => ?_)
        go_simp
        refine hK _ _ ?_; clear hK K
        clear hcn
        have hs60 : sumH L ≤ 60000 := by omega
        refine tailW_step rfl ⟨⟨_, HA2.out⟩, rfl⟩ (fun K hK => ?_)
        go_simp
        refine (add_ok HN2.out.sk key HKEY.out.2 (1 + (n2 : Int)) (by omega) (by omega) (by omega)).mono ?_
        rintro e W3 ⟨rfl, hsk, k3⟩
        have hsm := addC_sum HN2.out.sk.ok key (1 + (n2 : Int))
        have hle := addC_len HN2.out.sk.ok key (1 + (n2 : Int))
        have HN3 := Lib.hid (HN2.out.upd k3 hsk)
        have HA3 := Lib.hid (HA2.out.trans k3)
        clear hsk k3
        refine hK _ _ ?_; clear hK K
        refine ⟨⟨⟨_, HA3.out⟩, rfl⟩, ?_⟩
        have hlen3 := HN3.out.sk.ok.len
        generalize addC (1 + kq) L key (1 + (n2 : Int)) = L3 at *
        have HTOP : Hid (Calls Try.prog 15 #[ptr s, .int .i64 100] W3 (TopPost W3 (L3.map ctrOf))) := Lib.hid (by
          have h1 := top_sk HN3.out.sk (by omega) 100
          rwa [show topC L3 100 = L3.map ctrOf from topC_all L3 100 (by omega)] at h1)
        go_wp2_with fail
        with_reducible refine HTOP.out.mono ?_
        clear HTOP
        rintro e W4 ⟨va, rfl, hown, k4⟩
        have HN4 := Lib.hid (HN3.out.keep k4)
        have hctr := CtrsAt.of_owns hown
        obtain ⟨a4, c4, rfl, hcell⟩ := hctr
        rw [List.length_map] at *
        have HCE := Lib.hid hcell
        clear hown k4 hcell
        obtain ⟨m3, hm3⟩ : ∃ m, m = L3.length := ⟨_, rfl⟩
        rw [← hm3] at hle hlen3 ⊢
        have HM3 := Lib.hid hm3
        clear hm3
        obtain ⟨T, hT⟩ : ∃ T, T = sumH L + (1 + (n2 : Int)) := ⟨_, rfl⟩
        rw [← hT] at hsm ⊢
        have HSM := Lib.hid hsm
        have hTb : 0 ≤ T ∧ T ≤ 70000 := by omega
        have hTi : T ≤ 1000 * ((i : Int) + 1) := by omega
        have HPOS : Hid (∀ x ∈ L3.map ctrOf, 0 ≤ x.n) := Lib.hid (fun x hx => by
          obtain ⟨z, hz, rfl⟩ := List.mem_map.1 hx
          have := HN4.out.sk.ok.pos z hz
          show 0 ≤ z.hi
          omega)
        clear hsm hT
        go_wp2_with fail
        go_loopg [13, 14] m3 (fun g2 vs vm wr2 => ∃ j : Nat, vm = .int .i64 j ∧ vs = .int .i64 (sumK ((L3.map ctrOf).take j)) ∧ j ≤ m3 ∧ m3 ≤ g2 + j ∧ wr2 = W4)
        case atStart => exact ⟨0, rfl, rfl, by omega, by omega, rfl⟩
        case round =>
          obtain ⟨j, rfl, rfl, hjm, hg2, rfl⟩ := hrel
          have hsk2 := sumK_take HPOS.out j
          rw [sumK_ctr, HSM.out] at hsk2
          by_cases hj : j < m3
          · have hjz : (j : Int) < (m3 : Int) := by omega
            have hj0 : (0 : Int) ≤ (j : Int) := by omega
            have hjl : j < L3.length := by rw [← HM3.out]; exact hj
            have hget : (L3.map ctrOf)[j]? = some (ctrOf L3[j]) := by rw [List.getElem?_map, List.getElem?_eq_getElem hjl]; rfl
            obtain ⟨b4, o4, rfl, _, hc1, _⟩ := HCE.out j _ hget
            have hstep := sumK_take HPOS.out (j + 1)
            rw [sumK_ctr, HSM.out, List.take_add_one, hget, sumK_append] at hstep
            have HST2 : Hid (sumK ((L3.map ctrOf).take (j + 1)) = sumK ((L3.map ctrOf).take j) + (ctrOf L3[j]).n) := Lib.hid (by rw [List.take_add_one, hget, sumK_append]; simp [sumK])
            simp only [Option.toList_some, sumK, Int.add_zero] at hstep
            generalize ctrOf L3[j] = x at *
            clear hget
            generalize sumK ((L3.map ctrOf).take j) = S at *
            go_wp2_with fail
            go_roundg (m3 - (j + 1))
            case rel => exact ⟨j + 1, by go_num, by rw [HST2.out], by omega, by omega, rfl⟩
            case measure => omega
          · have hjz : ¬ (j : Int) < (m3 : Int) := by omega
            have he : sumK ((L3.map ctrOf).take j) = T := by
              rw [List.take_of_length_le (by rw [List.length_map, ← HM3.out]; omega), sumK_ctr, HSM.out]
            rw [he]
            have HTO : Hid (Calls Try.prog 16 #[ptr s] wr fun e w' => e = .returned (.int .i64 T) ∧ wr = w') := Lib.hid (by have := total_sk HN4.out.sk; rwa [HSM.out] at this)
            have hd1 : ((T : Int) != T) = false := by simp
            have hd2 : decide ((m3 : Int) < (L.length : Int)) = false := by simp; omega
            have hd3 : decide ((1 : Int) + (kq : Int) < (m3 : Int)) = false := by simp; omega
            clear he hsk2
            go_wp2_with fail
            with_reducible refine HTO.out.mono ?_
            rintro e wr' ⟨rfl, rfl⟩
            go_wp2_with fail
            go_roundg (60 - (i + 1))
            case rel => exact ⟨i + 1, L3, by go_num, by rw [HSM.out], by rw [← HM3.out], by omega, by omega, by rw [HSM.out]; simpa using hTi, HN4.out⟩
            case measure => omega
      · have hiz : ¬ (i : Int) < 60 := by omega
        have hinz : (i : Int) < (n : Int) := by omega
        go_wp2_with fail
        go_ret
        exact ⟨rfl, HN.out.k⟩
    · have hinz : ¬ (i : Int) < (n : Int) := by omega
      go_wp2_with fail
      go_ret
      exact ⟨rfl, HN.out.k⟩

set_option maxRecDepth 100000 in
set_option maxHeartbeats 4000000 in
theorem total_zero (k : Int) (a : Option Addr) (c : Nat) (w : World) (hk : -9223372036854775808 ≤ k ∧ k ≤ 9223372036854775807) :
    Calls Try.prog 3 #[.int .i64 k, .slice a 0 c] w fun e w' => e = .returned (.bool true) ∧ Keep (fun _ => False) w w' := by
  obtain ⟨kq, hkq, hkl⟩ := pk_int k 12 (by decide)
  have hnew : ∀ w, Calls Try.prog 12 #[.int .i64 (1 + (kq : Int))] w (NewPost (1 + kq) w) := fun w => by
    have := new_ok (1 + kq) (by omega) (by omega) w
    simpa using this
  have HNEW := Lib.hid hnew
  have HPK := Lib.hid hkq
  clear hnew hkq
  go_enter Try.func3, Try.ntmps3
  go_wp2_with fail
  with_reducible refine (sane_any _).mono ?_
  rintro e W0 ⟨rfl, k0⟩
  have HK0 := Lib.hid k0
  clear k0
  go_wp2_with fail
  with_reducible refine (pick_int k 12 kq _ hk.1 hk.2 (by decide) (by decide) HPK.out).mono ?_
  rintro e W0' ⟨rfl, rfl⟩
  go_wp2_with fail
  with_reducible refine (HNEW.out _).mono ?_
  rintro e W1 ⟨s, bm, rfl, hs, kk, hl1, hl2⟩
  have HN : Hid (New1 w W1 s bm (1 + kq) []) := Lib.hid ⟨hs, HK0.out.trans kk, Nat.le_trans HK0.out.size hl1, Nat.le_trans HK0.out.size hl2⟩
  clear hs kk hl1 hl2 HK0 HNEW
  go_wp2_with fail
  refine wp_loop_rounds 1 ?_
  rw [rounds_succ]
  go_wp2_with fail
  go_ret
  exact ⟨rfl, HN.out.k⟩

theorem sketchTotal_walk (k : Int) (a : Option Addr) (len cap : Nat) (w : World) (hk : -9223372036854775808 ≤ k ∧ k ≤ 9223372036854775807) (hs : IsSteps w a len) :
    Calls Try.prog 3 #[.int .i64 k, .slice a len cap] w fun e w' => e = .returned (.bool true) ∧ Below w.heap.size w w' := by
  have h : Calls Try.prog 3 #[.int .i64 k, .slice a len cap] w fun e w' => e = .returned (.bool true) ∧ Keep (fun _ => False) w w' := by
    by_cases h0 : 0 < len
    · obtain ⟨b, off, f, rfl, hst⟩ := hs.2 h0
      exact total_go k b off len cap f w hk hs.1 hst h0
    · obtain rfl : len = 0 := by omega
      exact total_zero k a cap w hk
  exact h.mono fun _ _ ⟨h1, h2⟩ => ⟨h1, ⟨h2.os, h2.tape, h2.output, h2.size, fun i hi => h2.block i hi (fun h => h)⟩⟩
end Go.Proofs.Ytogkkghliogpeaa
