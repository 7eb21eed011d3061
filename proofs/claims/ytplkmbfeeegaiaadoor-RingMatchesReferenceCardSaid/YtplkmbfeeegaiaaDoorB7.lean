/-
  The members that integers determine; New refused.
-/
import Derived.Test.YtplkmbfeeegaiaaDoorB6
namespace Go.Proofs.YtplkmbfeeegaiaaDoor
open Go.RowKit Go.Shelf

theorem tdiv_bd {x : Int} (h : I64 x) {y : Int} (hy : 1 ≤ y) : I64 (x.tdiv y) := by
  unfold I64 at *
  by_cases h0 : 0 ≤ x
  · rw [Int.tdiv_eq_ediv_of_nonneg h0]
    have h1 : 0 ≤ x / y := Int.ediv_nonneg h0 (by omega)
    have h2 := Int.ediv_le_self y h0
    omega
  · have e : x.tdiv y = -((-x) / y) := by
      rw [← Int.tdiv_eq_ediv_of_nonneg (by omega : 0 ≤ -x), Int.neg_tdiv, Int.neg_neg]
    rw [e]
    have h1 : 0 ≤ (-x) / y := Int.ediv_nonneg (by omega) (by omega)
    have h2 := Int.ediv_le_self y (by omega : 0 ≤ -x)
    omega

/-- The member of the k-th integer. -/
def someM (k : Nat) (x : Int) : Mb := ⟨3 * (k : Int), pk (x.tdiv 3) 4, 1 + pk (x.tdiv 12) 5⟩
def someK (xs : List Int) : Nat → List Mb
  | 0 => []
  | k + 1 => someK xs k ++ (match xs[k]? with | some x => if 0 < pk x 3 then [someM k x] else [] | none => [])
def someL (xs : List Int) : List Mb := if (someK xs 8).length = 0 then [⟨5, 0, 2⟩] else someK xs 8
theorem someK_len (xs : List Int) : ∀ k, (someK xs k).length ≤ k
  | 0 => by simp [someK]
  | k + 1 => by
    have := someK_len xs k
    simp only [someK, List.length_append]
    split
    · split <;> simp <;> omega
    · simp; omega
theorem someK_mem (xs : List Int) : ∀ k m, m ∈ someK xs k → ∃ i x, i < k ∧ m = someM i x
  | 0, m, h => by simp [someK] at h
  | k + 1, m, h => by
    simp only [someK, List.mem_append] at h
    rcases h with h | h
    · obtain ⟨i, x, hi, e⟩ := someK_mem xs k m h
      exact ⟨i, x, by omega, e⟩
    · split at h
      · rename_i x hx
        split at h
        · simp at h; exact ⟨k, x, by omega, h⟩
        · simp at h
      · simp at h
theorem someK_asc (xs : List Int) : ∀ k, (someK xs k).Pairwise (fun a b => a.node < b.node)
  | 0 => List.Pairwise.nil
  | k + 1 => by
    simp only [someK]
    rw [List.pairwise_append]
    refine ⟨someK_asc xs k, ?_, fun a ha b hb => ?_⟩
    · split
      · split <;> simp
      · simp
    · obtain ⟨i, x, hi, rfl⟩ := someK_mem xs k a ha
      split at hb
      · split at hb
        · simp at hb; subst hb; simp only [someM]; omega
        · simp at hb
      · simp at hb
theorem someL_ok (xs : List Int) : VL (someL xs) := by
  unfold someL
  split
  · exact ⟨by intro m hm; simp at hm; subst hm; unfold okMb; decide, by simp, by simp⟩
  · rename_i h
    refine ⟨fun m hm => ?_, someK_asc xs 8, fun e => h (by rw [e]; rfl)⟩
    obtain ⟨i, x, hi, rfl⟩ := someK_mem xs 8 m hm
    have h1 := pk_bd (x.tdiv 3) 4 (by decide)
    have h2 := pk_bd (x.tdiv 12) 5 (by decide)
    unfold okMb someM
    simp only []
    omega
theorem someL_weight (xs : List Int) : ∀ m ∈ someL xs, m.weight ≤ 5 := by
  unfold someL
  split
  · intro m hm; simp at hm; subst hm; decide
  · intro m hm
    obtain ⟨i, x, hi, rfl⟩ := someK_mem xs 8 m hm
    have h2 := pk_bd (x.tdiv 12) 5 (by decide)
    simp only [someM]
    omega

set_option maxRecDepth 100000 in
set_option maxHeartbeats 4000000 in
theorem some_any (v : Value) (xs : List Int) (w : World) (h : Its w v xs) : Calls Tryd.prog 36 #[v] w (OwnPost (someL xs) w) := by
  obtain ⟨hn, hbd, a, c, b, off, rfl, hc, ha, hcell⟩ := h
  have HC := Lib.hid hcell
  have HA := Lib.hid ha
  have HBD := Lib.hid hbd
  clear hcell ha hbd
  obtain ⟨n, hn'⟩ : ∃ n, xs.length = n := ⟨_, rfl⟩
  have HL := Lib.hid hn'
  rw [hn'] at hn hc ⊢
  clear hn'
  go_enter Tryd.func36, Tryd.ntmps36
  go_wp2_with fail
  go_loopg [3, 4] 8 (fun gh v3 v wr => ∃ (k : Nat), gh + k = 8 ∧ v = .int .i64 k ∧ OwnB w (someK xs k) v3 wr)
  case atStart => exact ⟨0, by omega, rfl, OwnB.nil (Keep.refl _ _)⟩
  case round =>
    obtain ⟨k, hk, rfl, how⟩ := hrel
    have HOW := Lib.hid how
    clear how
    by_cases h8 : k < 8
    · have h8z : (k : Int) < 8 := by omega
      have hk0 : (0 : Int) ≤ (k : Int) := by omega
      by_cases hlt : k < n
      · obtain ⟨x, hx⟩ : ∃ x, xs[k]? = some x := ⟨_, List.getElem?_eq_getElem (by have := HL.out; omega)⟩
        obtain rfl := HA.out (by have := HL.out; omega)
        have c1 := HOW.out.1.cell (HC.out k x hx) (fun h => h)
        have hxb := HBD.out x (List.mem_of_getElem? hx)
        have HXB := Lib.hid hxb
        have HX := Lib.hid hx
        clear hx hxb
        have hkz : (k : Int) < (n : Int) := by omega
        go_wp2_with fail
        with_reducible refine (pick_any x 3 _ HXB.out (by decide)).mono ?_
        rintro e w' ⟨rfl, rfl⟩
        by_cases hp : 0 < pk x 3
        · have HS : Hid (someK xs (k + 1) = someK xs k ++ [someM k x]) := Lib.hid (by simp only [someK]; rw [HX.out]; simp only []; rw [if_pos hp])
          generalize pk x 3 = p3 at *
          go_upto_region 6 with (fail)
          obtain ⟨d3, hd3⟩ : ∃ d3, x.tdiv 3 = d3 := ⟨_, rfl⟩
          obtain ⟨d12, hd12⟩ : ∃ d12, x.tdiv 12 = d12 := ⟨_, rfl⟩
          have e3 : IntKind.i64.wrap (x.tdiv 3) = d3 := by rw [wrapI (tdiv_bd HXB.out (by decide)), hd3]
          have e12 : IntKind.i64.wrap (x.tdiv 12) = d12 := by rw [wrapI (tdiv_bd HXB.out (by decide)), hd12]
          have HD3 : Hid (I64 d3) := Lib.hid (by rw [← hd3]; exact tdiv_bd HXB.out (by decide))
          have HD12 : Hid (I64 d12) := Lib.hid (by rw [← hd12]; exact tdiv_bd HXB.out (by decide))
          have HSM : Hid (someM k x = ⟨3 * (k : Int), pk d3 4, 1 + pk d12 5⟩) := Lib.hid (by unfold someM; rw [hd3, hd12])
          clear hd3 hd12
          have cz : ∀ q : KA (fun j => u3.ownBlock = some j) wr, q.val.cell? ⟨b, off + k, none⟩ = some (.int .i64 x) := fun q => q.k.cell c1 (fun e => by
            have h1 := (HOW.out.2.lt b e).1
            have h2 := World.block_lt_of_cell? _ _ (HC.out k x HX.out)
            simp only [] at h2
            omega)
          refine wp_region_walk [(true, 0), (true, 1), (true, 2), (true, 3), (true, 4), (true, 5), (true, 6), (true, 7), (true, 9), (true, 10), (true, 11), (true, 12), (true, 13), (false, 8), (false, 14), (false, 15), (false, 16), (false, 17), (false, 18), (false, 19)] (inKA (fun j => u3.ownBlock = some j) wr) (by kernel_rfl) (by kernel_rfl) ?_
          iterate 13 (refine walkW_read rfl (fun K hK => ?_); go_simp; refine hK _ ?_; clear hK K)
          clear cz
          have hw3 := wrapI (n := 3 * (k : Int)) (by unfold I64; omega)
          have HKR : Hid (Keep (fun j => u3.ownBlock = some j) wr wr.drew) := Lib.hid (Keep.refl _ wr).drew
          have HKF : Hid (Keep (fun _ => False) wr wr.drew) := Lib.hid (Keep.refl _ wr).drew
          obtain ⟨v', W3, hr, how3, hk3, -⟩ := (HOW.out.keep HKF.out).snoc (someM k x) (by have := someK_len xs k; omega)
          rw [HSM.out] at hr
          simp only [] at hr
          have HN : Hid (OwnB w (someK xs (k + 1)) v' W3) := Lib.hid (by rw [HS.out]; exact how3)
          have HK3 : Hid (Keep (fun j => u3.ownBlock = some j) wr W3) := Lib.hid (HKR.out.trans hk3)
          have HR := Lib.hid hr
          clear how3 hk3 hr
          have hp4 := pk_bd d3 4 (by decide)
          have hp5 := pk_bd d12 5 (by decide)
          refine walkW_do rfl (inKA.of HKR.out) (fun K hK => ?_)
          go_simp
          refine (pick_any d3 4 _ HD3.out (by decide)).mono ?_
          rintro e w' ⟨rfl, rfl⟩
          refine hK _ _ ?_; clear hK K
          refine walkW_do rfl (inKA.of HKR.out) (fun K hK => ?_)
          go_simp
          refine (pick_any d12 5 _ HD12.out (by decide)).mono ?_
          rintro e w' ⟨rfl, rfl⟩
          refine hK _ _ ?_; clear hK K
          generalize pk d3 4 = p4 at *
          generalize pk d12 5 = p5 at *
          have hw5 := wrapI (n := 1 + p5) (by unfold I64; omega)
          refine walkW_do rfl (inKA.of HKR.out) (fun K hK => ?_)
          go_simp
          refine hK _ _ ?_; clear hK K
          refine walkW_do rfl (inKA.of HKR.out) (fun K hK => ?_)
          go_simp
          refine hK _ _ ?_; clear hK K
          refine walkW_do rfl (inKA.of HKR.out) (fun K hK => ?_)
          go_simp
          refine hK _ _ ?_; clear hK K
          refine walkW_do rfl (inKA.of (HKR.out.alloc _)) (fun K hK => ?_)
          rw [if_pos (by simp [Region.wanted])]
          refine wp_app (.tmp 21) (.tmp 38) 22 rfl rfl rfl HR.out (hK _ _ ?_); clear hK K
          refine walkW_do rfl (inKA.of HK3.out) (fun K hK => ?_)
          go_simp
          refine hK _ _ ?_; clear hK K
          refine ⟨inKA.of HK3.out, ?_⟩
          go_wp2_with fail
          go_roundg (gk - 1)
          case rel => exact ⟨k + 1, by omega, by go_num, HN.out⟩
          case measure => omega
        · have HS : Hid (someK xs (k + 1) = someK xs k) := Lib.hid (by simp only [someK]; rw [HX.out]; simp only []; rw [if_neg hp, List.append_nil])
          generalize pk x 3 = p3 at *
          go_wp2_with fail
          go_roundg (gk - 1)
          case rel => exact ⟨k + 1, by omega, by go_num, by rw [HS.out]; exact HOW.out⟩
          case measure => omega
      · have HS : Hid (someK xs (k + 1) = someK xs k) := Lib.hid (by simp only [someK]; rw [List.getElem?_eq_none (by have := HL.out; omega)]; simp)
        have hkz : ¬ ((k : Int) < (n : Int)) := by omega
        go_wp2_with fail
        go_roundg (gk - 1)
        case rel => exact ⟨k + 1, by omega, by go_num, by rw [HS.out]; exact HOW.out⟩
        case measure => omega
    · obtain rfl : k = 8 := by omega
      obtain ⟨q, hq⟩ : ∃ q, (someK xs 8).length = q := ⟨_, rfl⟩
      have HQ := Lib.hid hq
      clear hq
      have hv3 : ∃ a n c, u3 = .slice a n c ∧ n = q := by
        have h2 := HOW.out.2
        rw [HQ.out] at h2
        rcases h2.2 with ⟨rfl, e⟩ | ⟨g, c, cur, rfl, -⟩
        · exact ⟨_, _, _, rfl, e.symm⟩
        · exact ⟨_, _, _, rfl, rfl⟩
      obtain ⟨a3, n3, c3, rfl, rfl⟩ := hv3
      by_cases hq0 : n3 = 0
      · subst hq0
        have HL5 : Hid (someL xs = [⟨5, 0, 2⟩]) := Lib.hid (by unfold someL; rw [if_pos HQ.out])
        go_wp2_with fail
        go_ret
        refine ⟨_, rfl, HOW.out.1.alloc _, ?_⟩
        rw [HL5.out]
        exact World.ownsRow_lit wr _ 1 HOW.out.1.size (by decide) rfl
      · have HL5 : Hid (someL xs = someK xs 8) := Lib.hid (by unfold someL; rw [if_neg (by rw [HQ.out]; exact hq0)])
        go_wp2_with fail
        go_ret
        exact ⟨_, rfl, by rw [HL5.out]; exact HOW.out⟩
end Go.Proofs.YtplkmbfeeegaiaaDoor
