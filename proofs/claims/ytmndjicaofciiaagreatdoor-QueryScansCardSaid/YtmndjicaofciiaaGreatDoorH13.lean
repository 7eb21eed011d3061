/-
  pick, state of the law's package.
-/
import Derived.Test.YtmndjicaofciiaaGreatDoorH12
import Derived.Test.YtmndjicaofciiaaGreatDoorF0
namespace Go.Proofs.YtmndjicaofciiaaGreatDoor
open Go.RowKit Go.Shelf

def pk (c n : Int) : Int := if c < 0 then (-(c + 1)) % n else c % n
theorem pk_bd (c n : Int) (hn : 1 ≤ n) : 0 ≤ pk c n ∧ pk c n < n := by
  unfold pk
  split
  · exact ⟨Int.emod_nonneg _ (by omega), Int.emod_lt_of_pos _ (by omega)⟩
  · exact ⟨Int.emod_nonneg _ (by omega), Int.emod_lt_of_pos _ (by omega)⟩
set_option maxRecDepth 100000 in
set_option maxHeartbeats 400000 in
theorem pick05_any (c n : Int) (w : World) (hc : I64 c) (hn : 1 ≤ n ∧ n ≤ 9223372036854775807) : Calls Tryz.prog 15 #[.int .i64 c, .int .i64 n] w fun e w' => e = .returned (.int .i64 (pk c n)) ∧ w' = w := by
  unfold I64 at hc
  by_cases h : c < 0
  · have HP : Hid (pk c n = (-(c + 1)) % n) := Lib.hid (by unfold pk; rw [if_pos h])
    have h0 : 0 ≤ -(c + 1) := by omega
    have h1 : -(c + 1) ≤ 9223372036854775807 := by omega
    go_enter Tryz.func15, Tryz.ntmps15
    go_wp2
    go_ret
    refine ⟨?_, rfl⟩
    show Ending.returned (.int .i64 (-(c + 1).tmod n)) = _
    rw [HP.out, ← Int.neg_tmod, Int.tmod_eq_emod_of_nonneg (by omega)]
  · have HP : Hid (pk c n = c % n) := Lib.hid (by unfold pk; rw [if_neg h])
    go_enter Tryz.func15, Tryz.ntmps15
    go_wp2
    go_ret
    exact ⟨by rw [HP.out]; rfl, rfl⟩
theorem chs_one (W : World) (c : Chg) (hf : c.fine) : Chs (W.alloc (.cells (chC c).toArray 51)) (.slice (some ⟨W.heap.size, 0, none⟩) 1 1) [c] := by
  refine ⟨by simp, by simpa using hf, some ⟨W.heap.size, 0, none⟩, 1, W.heap.size, 0, rfl, by simp, fun _ => rfl, fun i ch hi j x hj => ?_⟩
  rcases i with _ | i
  · simp only [List.getElem?_cons_zero, Option.some.injEq] at hi
    subst hi
    have e : 0 + 0 * 10 + j = j := by omega
    rw [e]
    exact (BoxL.new W (chC c) 51).cell j x hj
  · simp at hi
theorem stepR_len (l : List R5) (c : Chg) : (stepR l c).length ≤ l.length + 1 := by
  unfold stepR
  rw [List.length_append]
  have := List.length_filter_le (fun r : R5 => !(decide (r.rid = (c.tb, c.ky)))) l
  split <;> simp <;> omega
theorem own_slice (b n c : Nat) : (Value.slice (some ⟨b, 0, none⟩) n c).ownBlock = some b := rfl
/-- What state answers. -/
def StateP (w : World) (e : Ending) (w' : World) : Prop := ∃ z mb l p, e = .returned (ptr z) ∧ StA w' z mb l p ∧ l.length ≤ 20 ∧ Keep (fun _ => False) w w'
set_option maxRecDepth 100000 in
set_option maxHeartbeats 4000000 in
theorem state_any (v : Value) (n : Nat) (f : Nat → Nat → Int) (w : World) (h : Fives w v n f) : Calls Tryz.prog 5 #[v] w (StateP w) := by
  have hbig := h.big
  have HBD := Lib.hid h.bd
  obtain ⟨a, cp, bb, off, rfl, hcp, ha, hcell⟩ := h.at_
  have HA := Lib.hid ha
  have HCL := Lib.hid hcell
  clear h ha hcell
  go_enter Tryz.func5, Tryz.ntmps5
  go_wp2_with fail
  with_reducible refine (newSt_any w).mono ?_
  rintro e W1 ⟨z, mb, rfl, hs, hk, hz, hm⟩
  have HS := Lib.hid hs
  have HK := Lib.hid hk
  have HZ := Lib.hid (And.intro hz hm)
  clear hs hk hz hm
  go_wp2_with fail
  go_loopg [4, 5] 20 (fun gh v4 v5 wr => ∃ (k : Nat) (p : Int) (l : List R5), gh + k = 20 ∧ v5 = .int .i64 k ∧ v4 = .int .i64 p ∧ 0 ≤ p ∧ p ≤ k ∧ l.length ≤ k ∧ StA wr z mb l p ∧ Keep (fun _ => False) w wr)
  case atStart => exact ⟨0, 0, [], by omega, rfl, rfl, by omega, by omega, by simp, HS.out, HK.out⟩
  case round =>
    obtain ⟨k, p, l, hk, rfl, rfl, hp0, hpk, hlk, hst, hkw⟩ := hrel
    have HST := Lib.hid hst
    have HKW := Lib.hid hkw
    clear hst hkw
    by_cases hlt : k < n
    · have hkz : (k : Int) < (n : Int) := by omega
      have hk0 : (0 : Int) ≤ (k : Int) := by omega
      by_cases h20 : k < 20
      · have hk20 : (k : Int) < 20 := by omega
        obtain rfl := HA.out (by omega)
        have hc : ∀ j, j < 5 → ∀ x : KA (fun _ => False) wr, x.val.cell? ⟨bb, off + k * 5 + j, none⟩ = some (.int .i64 (f k j)) := fun j hj x => (HKW.out.trans x.k).cell (HCL.out k j hlt hj) (fun h => h)
        have c0 : ∀ x : KA (fun _ => False) wr, x.val.cell? ⟨bb, off + k * 5, none⟩ = some (.int .i64 (f k 0)) := hc 0 (by omega)
        have c1 := hc 1 (by omega)
        have c2 := hc 2 (by omega)
        have c3 := hc 3 (by omega)
        have c4 := hc 4 (by omega)
        have b0 := pk_bd (f k 0) 4 (by omega)
        have b1 := pk_bd (f k 1) 9 (by omega)
        have b2 := pk_bd (f k 2) 9 (by omega)
        have b3 := pk_bd (f k 3) 9 (by omega)
        have b4 := pk_bd (f k 4) 9 (by omega)
        have HP0 := Lib.hid (fun w => pick05_any (f k 0) 4 w (HBD.out k 0) (by omega))
        have HP1 := Lib.hid (fun w => pick05_any (f k 1) 9 w (HBD.out k 1) (by omega))
        have HP2 := Lib.hid (fun w => pick05_any (f k 2) 9 w (HBD.out k 2) (by omega))
        have HP3 := Lib.hid (fun w => pick05_any (f k 3) 9 w (HBD.out k 3) (by omega))
        have HP4 := Lib.hid (fun w => pick05_any (f k 4) 9 w (HBD.out k 4) (by omega))
        generalize pk (f k 0) 4 = p0 at *
        generalize pk (f k 1) 9 = p1 at *
        generalize pk (f k 2) 9 = p2 at *
        generalize pk (f k 3) 9 = p3 at *
        generalize pk (f k 4) 9 = p4 at *
        have w1 : IntKind.i64.wrap (1 + p1) = 1 + p1 := wrapI (by unfold I64; omega)
        have w2 : IntKind.i64.wrap (p2 - 4) = p2 - 4 := wrapI (by unfold I64; omega)
        have w3 : IntKind.i64.wrap (p3 - 4) = p3 - 4 := wrapI (by unfold I64; omega)
        have w4 : IntKind.i64.wrap (p4 - 4) = p4 - 4 := wrapI (by unfold I64; omega)
        generalize f k 0 = g0 at *
        generalize f k 1 = g1 at *
        generalize f k 2 = g2 at *
        generalize f k 3 = g3 at *
        generalize f k 4 = g4 at *
        clear hc
        go_upto_region 6 with (fail)
        refine wp_region_walk [(true, 0), (true, 1), (true, 2), (true, 3), (true, 4), (true, 5), (true, 6), (true, 7), (true, 8), (true, 9), (true, 10), (true, 11), (true, 12), (true, 13), (true, 14), (true, 15), (true, 16), (true, 17), (true, 18), (true, 19), (true, 20), (true, 21), (true, 22), (true, 23), (true, 24), (true, 25), (true, 26), (true, 27), (true, 28), (true, 29), (true, 30), (true, 31), (true, 32), (true, 33), (true, 34), (true, 35), (false, 36), (false, 37)] (inKA (fun _ => False) wr) (by kernel_rfl) (by kernel_rfl) ?_
        iterate 5 (refine walkW_read rfl (fun K hK => ?_); go_simp; refine hK _ ?_; clear hK K)
        refine walkW_read rfl (fun K hK => ?_)
        go_simp
        apply Exists.intro
        refine ⟨fun x => ?_, hK _ ?_⟩
        · exact HP0.out _
        clear hK K
        iterate 5 (refine walkW_read rfl (fun K hK => ?_); go_simp; refine hK _ ?_; clear hK K)
        refine walkW_read rfl (fun K hK => ?_)
        go_simp
        apply Exists.intro
        refine ⟨fun x => ?_, hK _ ?_⟩
        · exact HP1.out _
        clear hK K
        iterate 6 (refine walkW_read rfl (fun K hK => ?_); go_simp; refine hK _ ?_; clear hK K)
        refine walkW_read rfl (fun K hK => ?_)
        go_simp
        apply Exists.intro
        refine ⟨fun x => ?_, hK _ ?_⟩
        · exact HP2.out _
        clear hK K
        iterate 6 (refine walkW_read rfl (fun K hK => ?_); go_simp; refine hK _ ?_; clear hK K)
        refine walkW_read rfl (fun K hK => ?_)
        go_simp
        apply Exists.intro
        refine ⟨fun x => ?_, hK _ ?_⟩
        · exact HP3.out _
        clear hK K
        iterate 6 (refine walkW_read rfl (fun K hK => ?_); go_simp; refine hK _ ?_; clear hK K)
        refine walkW_read rfl (fun K hK => ?_)
        go_simp
        apply Exists.intro
        refine ⟨fun x => ?_, hK _ ?_⟩
        · exact HP4.out _
        clear hK K
        iterate 3 (refine walkW_read rfl (fun K hK => ?_); go_simp; refine hK _ ?_; clear hK K)
        clear c0 c1 c2 c3 c4 HP0 HP1 HP2 HP3 HP4 w1 w2 w3 w4
        have HKD : Hid (Keep (fun _ => False) wr wr.drew) := Lib.hid (Keep.refl _ wr).drew
        refine walkW_do rfl (inKA.of HKD.out) (fun K hK => ?_)
        go_simp
        refine hK _ _ ?_
        clear hK K
        have HR6 := Lib.hid (BoxL.new wr [.int .i64 0, .int .i64 0, .bool false, .int .i64 0, .int .i64 0, .int .i64 0, .bool false, .int .i64 0, .int .i64 0, .int .i64 0] 51).drew
        have HK6 := Lib.hid (keep_cells wr #[.int .i64 0, .int .i64 0, .bool false, .int .i64 0, .int .i64 0, .int .i64 0, .bool false, .int .i64 0, .int .i64 0, .int .i64 0] 51).drew
        generalize (wr.alloc (.cells #[.int .i64 0, .int .i64 0, .bool false, .int .i64 0, .int .i64 0, .int .i64 0, .bool false, .int .i64 0, .int .i64 0, .int .i64 0] 51)).drew = W6 at *
        obtain ⟨zx, hzx⟩ : ∃ z, wr.heap.size = z := ⟨_, rfl⟩
        have HZX := Lib.hid hzx
        rw [hzx] at HR6 ⊢
        clear hzx
        have q0 := HR6.out.cell 0 _ rfl
        have q1 := HR6.out.cell 1 _ rfl
        have q2 := HR6.out.cell 2 _ rfl
        have q3 := HR6.out.cell 3 _ rfl
        have q4 := HR6.out.cell 4 _ rfl
        have q5 := HR6.out.cell 5 _ rfl
        have q6 := HR6.out.cell 6 _ rfl
        have q7 := HR6.out.cell 7 _ rfl
        have q8 := HR6.out.cell 8 _ rfl
        have q9 := HR6.out.cell 9 _ rfl
        have fr := HR6.out.soft
        refine walkW_do rfl (inKA.of HK6.out) (fun K hK => ?_)
        go_simp
        refine hK _ _ ?_
        clear hK K
        clear q0 q1 q2 q3 q4 q5 q6 q7 q8 q9 fr
        obtain ⟨W7, hW, hb, hk7⟩ := HR6.out.put10 ⟨p0, 1 + p1, false, 0, 0, 0, true, p2 - 4, p3 - 4, p4 - 4⟩
        simp only [] at hW
        rw [hW]
        have HK7 : Hid (Keep (fun _ => False) wr W7) := Lib.hid (keep0 HK6.out (by have := HZX.out; omega) hk7)
        have HR7 := Lib.hid hb
        clear hW hb hk7 HK6 HR6 HKD
        refine ⟨inKA.of HK7.out, ?_⟩
        have HFI : Hid (Chg.fine ⟨p0, 1 + p1, false, 0, 0, 0, true, p2 - 4, p3 - 4, p4 - 4⟩) := Lib.hid (by unfold Chg.fine R5.fine Chg.old Chg.new I64; simp only []; omega)
        have HST7 := Lib.hid (HST.out.kept HK7.out)
        have HC8 := Lib.hid (chs_one W7 _ HFI.out)
        have kb := keep_cells W7 (chC ⟨p0, 1 + p1, false, 0, 0, 0, true, p2 - 4, p3 - 4, p4 - 4⟩).toArray 51
        have HST8 := Lib.hid (HST7.out.kept kb)
        have HK8 := Lib.hid ((HKW.out.trans HK7.out).trans kb)
        have HZ8 : Hid (¬ (W7.heap.size = z ∨ W7.heap.size = mb)) := Lib.hid (by have h1 := HST7.out.box.lt; have h2 := HST7.out.mp.lt; omega)
        have HNN : Hid (w.heap.size ≤ z ∧ w.heap.size ≤ mb) := HZ
        obtain ⟨d0, d1, d2, d3, d4, d5, d6, d7, d8, d9⟩ := HR7.out.chg
        simp only [] at d0 d1 d2 d3 d4 d5 d6 d7 d8 d9
        clear kb
        go_wp2_with fail
        clear d0 d1 d2 d3 d4 d5 d6 d7 d8 d9
        with_reducible refine (apply_any z mb l p (p + 1) _ [⟨p0, 1 + p1, false, 0, 0, 0, true, p2 - 4, p3 - 4, p4 - 4⟩] _ HST8.out HC8.out (by omega) (by unfold I64; omega) (by omega) (fun b hb => by rw [own_slice] at hb; cases hb; exact HZ8.out)).mono ?_
        rintro e W9 ⟨rfl, hs9, hk9⟩
        have HK9 := Lib.hid (HK8.out.trans' hk9 (fun i hi => .inr (by have := HNN.out; rcases hi with rfl | rfl <;> omega)))
        have HLN := Lib.hid (stepR_len l ⟨p0, 1 + p1, false, 0, 0, 0, true, p2 - 4, p3 - 4, p4 - 4⟩)
        cases hfit : fitsB l p (p + 1) [⟨p0, 1 + p1, false, 0, 0, 0, true, p2 - 4, p3 - 4, p4 - 4⟩] with
        | true =>
          rw [hfit] at hs9
          have HS9 : Hid (StA W9 z mb (stepR l ⟨p0, 1 + p1, false, 0, 0, 0, true, p2 - 4, p3 - 4, p4 - 4⟩) (p + 1)) := Lib.hid hs9
          clear hs9 hk9 hfit
          go_wp2_with fail
          go_roundg (gk - 1)
          case rel => exact ⟨k + 1, p + 1, _, by omega, by go_num, rfl, by omega, by omega, by have := HLN.out; omega, HS9.out, HK9.out⟩
          case measure => omega
        | false =>
          rw [hfit] at hs9
          have HS9 : Hid (StA W9 z mb l p) := Lib.hid hs9
          clear hs9 hk9 hfit
          go_wp2_with fail
          go_roundg (gk - 1)
          case rel => exact ⟨k + 1, p, _, by omega, by go_num, rfl, by omega, by omega, by omega, HS9.out, HK9.out⟩
          case measure => omega
      · have hk20 : ¬ (k : Int) < 20 := by omega
        go_wp2_with fail
        go_ret
        exact ⟨z, mb, l, p, rfl, HST.out, by omega, HKW.out⟩
    · have hkz : ¬ (k : Int) < (n : Int) := by omega
      go_wp2_with fail
      go_ret
      exact ⟨z, mb, l, p, rfl, HST.out, by omega, HKW.out⟩
end Go.Proofs.YtmndjicaofciiaaGreatDoor
