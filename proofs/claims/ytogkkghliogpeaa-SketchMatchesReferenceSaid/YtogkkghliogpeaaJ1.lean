/-
  SketchOrdered: the walk.
-/
import Derived.Test.YtogkkghliogpeaaI1
import Derived.Test.YtogkkghliogpeaaG7
namespace Go.Proofs.Ytogkkghliogpeaa
open Go.RowKit Go.Shelf

theorem halve_sum {cap : Nat} {L : List C} (h : OkL cap L) : sumH (halveC L) ≤ sumH L := by
  unfold halveC
  rw [sumH_perm (ordC_perm _)]
  exact sumH_half (fun x hx => by have := h.pos x hx; omega)

theorem sorted_at {L : List C} (h : L.Pairwise BefC) {i : Nat} {x y : C} (hx : L[i]? = some x) (hy : L[i + 1]? = some y) : BefC x y := by
  have h1 := (List.getElem?_eq_some_iff.1 hx)
  have h2 := (List.getElem?_eq_some_iff.1 hy)
  obtain ⟨a, rfl⟩ := h1
  obtain ⟨b, rfl⟩ := h2
  exact List.pairwise_iff_getElem.1 h i (i + 1) a b (by omega)

set_option maxRecDepth 100000 in
set_option maxHeartbeats 4000000 in
theorem ordered_go (k : Int) (b off n c : Nat) (f : Nat → Nat → Int) (q : Int) (w : World) (hk : -9223372036854775808 ≤ k ∧ k ≤ 9223372036854775807) (hn : n ≤ 9223372036854775807) (hst : Steps w b off n f) (hn0 : 0 < n) (hq : -9223372036854775808 ≤ q ∧ q ≤ 9223372036854775807) :
    Calls Try.prog 4 #[.int .i64 k, .slice (some ⟨b, off, none⟩) n c, .int .i64 q] w fun e w' => e = .returned (.bool true) ∧ Keep (fun _ => False) w w' := by
  obtain ⟨kq, hkq, hkl⟩ := pk_int k 12 (by decide)
  have hnew : ∀ w, Calls Try.prog 12 #[.int .i64 (1 + (kq : Int))] w (NewPost (1 + kq) w) := fun w => by
    have := new_ok (1 + kq) (by omega) (by omega) w
    simpa using this
  have HNEW := Lib.hid hnew
  have HPK := Lib.hid hkq
  have HST := Lib.hid hst
  have hbw : b < w.heap.size := World.block_lt_of_cell? _ _ (hst.cell 0 0 hn0 (by decide))
  have HBW := Lib.hid hbw
  clear hnew hkq hst hbw
  go_enter Try.func4, Try.ntmps4
  go_wp2_with fail
  with_reducible refine (sane_any _).mono ?_
  rintro e W0 ⟨rfl, k0⟩
  have HK0 := Lib.hid k0
  clear k0
  go_wp2_with fail
  with_reducible refine (pick_int k 12 kq _ hk.1 hk.2 (by decide) (by decide) HPK.out).mono ?_
  rintro e W0' ⟨rfl, rfl⟩
  go_wp2_with fail
  with_reducible refine (HNEW.out _).mono ?_
  rintro e W1 ⟨s, bm, rfl, hs, kk, hl1, hl2⟩
  have HN : Hid (New1 w W1 s bm (1 + kq) []) := Lib.hid ⟨hs, HK0.out.trans kk, Nat.le_trans HK0.out.size hl1, Nat.le_trans HK0.out.size hl2⟩
  clear hs kk hl1 hl2 HK0 HNEW
  go_wp2_with fail
  go_loopg [10] 60 (fun gh vi wr => ∃ (i : Nat) (L : List C), vi = .int .i64 i ∧ i ≤ 60 ∧ 60 ≤ gh + i ∧ sumH L ≤ 20 * i ∧ New1 w wr s bm (1 + kq) L)
  case atStart => exact ⟨0, [], rfl, by omega, by omega, by simp [sumH], HN.out⟩
  case round =>
    clear HN
    obtain ⟨i, L, rfl, hi60, hgh, hsum, hnw⟩ := hrel
    have HN := Lib.hid hnw
    have hlen : L.length ≤ 1 + kq := hnw.sk.ok.len
    clear hnw
    by_cases hgo : i < n ∧ i < 60
    · obtain ⟨hin, hi⟩ := hgo
      have hinz : (i : Int) < (n : Int) := by omega
      have hiz : (i : Int) < 60 := by omega
      have hi0 : (0 : Int) ≤ (i : Int) := by omega
      have q0 := HN.out.k.cell (HST.out.cell i 0 hin (by decide)) (fun h => h)
      rw [Nat.add_zero] at q0
      have hf0 : -9223372036854775808 ≤ f i 0 ∧ f i 0 ≤ 9223372036854775807 := ⟨HST.out.lo i 0, HST.out.hi i 0⟩
      have hf1 : -9223372036854775808 ≤ f i 1 ∧ f i 1 ≤ 9223372036854775807 := ⟨HST.out.lo i 1, HST.out.hi i 1⟩
      have hf2 : -9223372036854775808 ≤ f i 2 ∧ f i 2 ≤ 9223372036854775807 := ⟨HST.out.lo i 2, HST.out.hi i 2⟩
      obtain ⟨n0, hn0', hn0l⟩ := pk_int (f i 0) 12 (by decide)
      have HP0 := Lib.hid hn0'
      clear hn0'
      by_cases hz : n0 = 0
      · subst hz
        go_wp2_with fail
        with_reducible refine (pick_int (f i 0) 12 0 _ hf0.1 hf0.2 (by decide) (by decide) HP0.out).mono ?_
        rintro e wr' ⟨rfl, rfl⟩
        go_wp2_with fail
        with_reducible refine (halve_sk HN.out.sk).mono ?_
        rintro e W2 ⟨rfl, hsk, k2⟩
        have hsm := halve_sum HN.out.sk.ok
        have HN2 := Lib.hid (HN.out.upd k2 hsk)
        clear hsk k2
        go_wp2_with fail
        go_roundg (60 - (i + 1))
        case rel => exact ⟨i + 1, halveC L, by go_num, by omega, by omega, by omega, HN2.out⟩
        case measure => omega
      · have hnz : ((n0 : Int) == 0) = false := by simp; omega
        obtain ⟨n2, hn2, hn2l⟩ := pk_int (f i 2) 20 (by decide)
        obtain ⟨t, ht, htl⟩ := pk_int (f i 1) 10 (by decide)
        obtain ⟨key, hkey, hks⟩ := nms_get t (by omega)
        have HP2 := Lib.hid hn2
        have HPT := Lib.hid ht
        have HKEY := Lib.hid (And.intro hkey hks)
        clear hn2 ht hkey hks
        go_wp2_with fail
        with_reducible refine (pick_int (f i 0) 12 n0 _ hf0.1 hf0.2 (by decide) (by decide) HP0.out).mono ?_
        rintro e wr' ⟨rfl, rfl⟩
        go_wp2_with fail
        have c1 : ∀ p : KA (fun k => k = s ∨ k = bm) wr, p.val.cell? ⟨b, off + i * 3 + 1, none⟩ = some (.int .i64 (f i 1)) := fun p => p.k.cell (HN.out.k.cell (HST.out.cell i 1 hin (by decide)) (fun h => h)) (fun e => by have := HN.out.s0; have := HN.out.b0; have := HBW.out; omega)
        have c2 : ∀ p : KA (fun k => k = s ∨ k = bm) wr, p.val.cell? ⟨b, off + i * 3 + 2, none⟩ = some (.int .i64 (f i 2)) := fun p => p.k.cell (HN.out.k.cell (HST.out.cell i 2 hin (by decide)) (fun h => h)) (fun e => by have := HN.out.s0; have := HN.out.b0; have := HBW.out; omega)
        refine wp_region_walk [(true, 0), (true, 2), (true, 3), (true, 4), (true, 5), (true, 6), (true, 10), (true, 11), (true, 12), (true, 13), (true, 14), (false, 1), (false, 7), (true, 8), (true, 9), (false, 15), (false, 16), (false, 17)] (inKA (fun k => k = s ∨ k = bm) wr) (by kernel_rfl) (by kernel_rfl) ?_
        iterate 11 (refine walkW_read rfl (fun K hK => ?_); go_simp; refine hK _ ?_; clear hK K)
        clear c1 c2 q0
        refine walkW_turn rfl (inKA.of (Keep.refl _ wr).drew) rfl (fun K hK => ?_)
        go_simp
        refine (names_any _).mono ?_
        rintro e W2 ⟨nb, rfl, hnb, k2, hc2⟩
        have HN2 := Lib.hid ((HN.out.keep (Keep.refl (fun _ => False) wr).drew).keep k2)
        have HA2 : Hid (Keep (fun k => k = s ∨ k = bm) wr W2) := Lib.hid ((Keep.refl _ wr).drew.trans (k2.mono (fun _ h => h.elim)))
        have HCN := Lib.hid (And.intro hnb (hc2 t key HKEY.out.1))
        clear hnb k2 hc2
        refine hK (inKA (fun k => k = s ∨ k = bm) W2) _ _ (inKA.mono HA2.out) ?_; clear hK K
        refine walkW_do rfl (inKA.of (Keep.refl _ W2)) (fun K hK => ?_)
        go_simp
        refine (pick_int (f i 1) 10 t _ hf1.1 hf1.2 (by decide) (by decide) HPT.out).mono ?_
        rintro e W2' ⟨rfl, rfl⟩
        refine hK _ _ ?_; clear hK K
        have ht0 : (0 : Int) ≤ (t : Int) := by omega
        have hcn : ∀ p : KA (fun k => k = s ∨ k = bm) W2, p.val.cell? ⟨nb, t, none⟩ = some (.string key) := fun p => p.k.cell HCN.out.2 (fun e => by have h1 := HN.out.sk.at_.lt; have h2 := HCN.out.1; have h3 : wr.drew.heap.size = wr.heap.size := rfl; omega)
        iterate 2 (refine walkW_read rfl (fun K hK => ?_); go_simp; refine hK _ ?_; clear hK K)
        clear hcn
        refine walkW_do rfl (inKA.of (Keep.refl _ W2)) (fun K hK => ?_)
        go_simp
        refine (pick_int (f i 2) 20 n2 _ hf2.1 hf2.2 (by decide) (by decide) HP2.out).mono ?_
        rintro e W2' ⟨rfl, rfl⟩
        refine hK _ _ ?_; clear hK K
        refine walkW_do rfl (inKA.of (Keep.refl _ W2)) (fun K hK => ?_)
        go_simp
        refine hK _ _ ?_; clear hK K
        have hs60 : sumH L ≤ 60000 := by omega
        refine walkW_do rfl (inKA.of (Keep.refl _ W2)) (fun K hK => ?_)
        go_simp
        rw [show IntKind.i64.wrap (1 + (n2 : Int)) = 1 + (n2 : Int) by rw [IntKind.wrap_i64]; omega]
        refine (add_ok HN2.out.sk key HKEY.out.2 (1 + (n2 : Int)) (by omega) (by omega) (by omega)).mono ?_
        rintro e W3 ⟨rfl, hsk, k3⟩
        have hsm := addC_sum HN2.out.sk.ok key (1 + (n2 : Int))
        have HN3 := Lib.hid (HN2.out.upd k3 hsk)
        have HA3 := Lib.hid k3
        clear hsk k3
        refine hK _ _ ?_; clear hK K
        refine ⟨inKA.of HA3.out, ?_⟩
        go_wp2_with fail
        go_roundg (60 - (i + 1))
        case rel => exact ⟨i + 1, _, by go_num, by omega, by omega, by rw [hsm]; omega, HN3.out⟩
        case measure => omega
    · have HTOP : Hid (Calls Try.prog 15 #[ptr s, .int .i64 64] wr (TopPost wr (L.map ctrOf))) := Lib.hid (by
        have h1 := top_sk HN.out.sk (by omega) 64
        rwa [show topC L 64 = L.map ctrOf from topC_all L 64 (by omega)] at h1)
      have hx : (¬ (i : Int) < (n : Int)) ∨ ((i : Int) < (n : Int) ∧ ¬ (i : Int) < 60) := by omega
      clear hgo
      rcases hx with hinz | ⟨hinz, hiz⟩
      all_goals
        go_wp2_with fail
        with_reducible refine HTOP.out.mono ?_
        rintro e W4 ⟨va, rfl, hown, k4⟩
        have HN4 := Lib.hid (HN.out.keep k4)
        obtain ⟨a4, c4, rfl, hcell⟩ := CtrsAt.of_owns hown
        obtain ⟨m, hm⟩ : ∃ m, m = (L.map ctrOf).length := ⟨_, rfl⟩
        have HCE : Hid (CtrsAt W4 (.slice a4 m c4) (L.map ctrOf)) := Lib.hid (by rw [hm]; exact ⟨a4, c4, rfl, hcell⟩)
        rw [← hm]
        clear hown k4 hcell
        have hm12 : m ≤ 12 := by rw [hm, List.length_map]; omega
        have HM := Lib.hid hm
        clear hm
        go_wp2_with fail
        with_reducible refine (top_sk HN4.out.sk (by omega) q).mono ?_
        rintro e W5 ⟨vf, rfl, hown, k5⟩
        have HN5 := Lib.hid (HN4.out.keep k5)
        have HCE5 := Lib.hid (HCE.out.keep k5 (fun _ _ h => h))
        obtain ⟨a5, c5, rfl, hcell5⟩ := CtrsAt.of_owns hown
        obtain ⟨d, hd⟩ : ∃ d, d = (topC L q).length := ⟨_, rfl⟩
        have HCF : Hid (CtrsAt W5 (.slice a5 d c5) (topC L q)) := Lib.hid (by rw [hd]; exact ⟨a5, c5, rfl, hcell5⟩)
        rw [← hd]
        clear hown k5 hcell5 HCE
        have hdm : (d : Int) = max 0 (min q (m : Int)) := by
          rw [hd, HM.out]
          unfold topC
          simp only [List.length_map, List.length_take]
          omega
        have hdl : d ≤ m := by omega
        have HD := Lib.hid hd
        clear hd
        go_wp2_with fail
        clear hdm
        go_loopg [13] m (fun g2 vj wr2 => ∃ (j z : Nat), vj = .int .i64 j ∧ j ≤ m ∧ m ≤ g2 + j ∧ wr2 = W5.drewN z)
        case atStart => exact ⟨0, 0, rfl, by omega, by omega, rfl⟩
        case round =>
          obtain ⟨j, z, rfl, hjm, hg2, rfl⟩ := hrel
          by_cases hj : j < m
          · have hjz : (j : Int) < (m : Int) := by omega
            have hj0 : (0 : Int) ≤ (j : Int) := by omega
            have hjl : j < L.length := by have := HM.out; rw [List.length_map] at this; omega
            have hgx : L[j]? = some L[j] := List.getElem?_eq_getElem hjl
            generalize L[j] = x at hgx
            obtain ⟨a4', c4', e4, hcell4⟩ := HCE5.out
            obtain ⟨b4, o4, hb4, ca0, ca1, ca2⟩ := hcell4 j (ctrOf x) (by rw [List.getElem?_map, hgx]; rfl)
            injection e4 with ea4 em4 ec4
            clear em4 ec4
            subst ea4
            subst hb4
            have hgd : Try.prog.eqGuardType Try.prog.depth 37 = false := by kernel_rfl
            have ca0' : W5.cell? ⟨b4, o4 + j * 3, none⟩ = some (.string x.key) := ca0
            have ca1' : W5.cell? ⟨b4, o4 + j * 3 + 1, none⟩ = some (.int .i64 x.hi) := ca1
            have ca2' : W5.cell? ⟨b4, o4 + j * 3 + 2, none⟩ = some (.int .i64 (x.hi - x.lo)) := ca2
            have HC4 := Lib.hid hcell4
            clear ca0 ca1 ca2 hcell4
            have HGX := Lib.hid hgx
            clear hgx
            have hcase : (∃ b5 o5, (j : Int) < (d : Int) ∧ a5 = some ⟨b5, o5, none⟩ ∧ W5.cell? ⟨b5, o5 + j * 3, none⟩ = some (.string x.key) ∧ W5.cell? ⟨b5, o5 + j * 3 + 1, none⟩ = some (.int .i64 x.hi) ∧ W5.cell? ⟨b5, o5 + j * 3 + 2, none⟩ = some (.int .i64 (x.hi - x.lo))) ∨ (¬ (j : Int) < (d : Int) ∧ ¬ j < d) := by
              by_cases hjd : j < d
              · left
                obtain ⟨a5', c5', e5, hcell5⟩ := HCF.out
                have hgf : (topC L q)[j]? = some (ctrOf x) := by
                  have hh : j < q.toNat := by have := HD.out; unfold topC at this; simp at this; omega
                  unfold topC
                  rw [List.getElem?_map, List.getElem?_take_of_lt hh, HGX.out]; rfl
                obtain ⟨b5, o5, hb5, cb0, cb1, cb2⟩ := hcell5 j (ctrOf x) hgf
                injection e5 with ea5 _ _
                exact ⟨b5, o5, by omega, by rw [ea5, hb5], cb0, cb1, cb2⟩
              · right; exact ⟨by omega, hjd⟩
            have hprev : j = 0 ∨ ∃ jp y, j = jp + 1 ∧ BefC y x ∧ W5.cell? ⟨b4, o4 + jp * 3, none⟩ = some (.string y.key) ∧ W5.cell? ⟨b4, o4 + jp * 3 + 1, none⟩ = some (.int .i64 y.hi) := by
              by_cases hz : j = 0
              · exact .inl hz
              · right
                obtain ⟨jp, rfl⟩ : ∃ jp, j = jp + 1 := ⟨j - 1, by omega⟩
                have hgy : L[jp]? = some (L[jp]'(by omega)) := List.getElem?_eq_getElem (by omega)
                generalize L[jp]'(by omega) = y at hgy
                obtain ⟨b6, o6, hb6, cy0, cy1, _⟩ := HC4.out jp (ctrOf y) (by rw [List.getElem?_map, hgy]; rfl)
                injection hb6 with hb6
                injection hb6 with e1 e2 _
                subst e1
                subst e2
                exact ⟨jp, y, rfl, sorted_at HN5.out.sk.ok.sorted hgy HGX.out, cy0, cy1⟩
            have HPREV := Lib.hid hprev
            clear hprev
            rcases hcase with ⟨b5, o5, hjdz, rfl, cb0, cb1, cb2⟩ | ⟨hjdz, hjdn⟩
            all_goals
              go_wp2_with fail
              go_quiet (fail)
              go_wp2_with fail
              rw [World.drewN_drewN]
              generalize z + nq = z2
              rcases HPREV.out with rfl | ⟨jp, y, rfl, hbef, cy0, cy1⟩
              · go_big_region
                go_wp2_with fail
                go_roundg (m - (0 + 1))
                case rel => exact ⟨0 + 1, z2 + 1, by go_num, by omega, by omega, rfl⟩
                case measure => omega
              · have hjp0 : (0 : Int) ≤ (jp : Int) := by omega
                have hjpm : (jp : Int) < (m : Int) := by omega
                have hjp1 : (0 : Int) ≤ (jp : Int) + 1 := by omega
                have hjp2 : (jp : Int) + 1 < (m : Int) := by omega
                have hjp3 : (0 : Int) < (jp : Int) + 1 := by omega
                have hwr : IntKind.i64.wrap (jp : Int) = (jp : Int) := by rw [IntKind.wrap_i64]; omega
                have hn1 : ¬ y.hi < x.hi := by rcases hbef with h | h <;> omega
                by_cases hxy : x.hi = y.hi
                · have hlt : Op.bytesLess y.key.toList x.key.toList = true := by
                    rw [less_iff, ByteArray.toList_eq, ByteArray.toList_eq]
                    rcases hbef with h | h
                    · omega
                    · exact h.2
                  have hlt2 : Op.bytesLess x.key.toList y.key.toList = false := by
                    cases hc : Op.bytesLess x.key.toList y.key.toList with
                    | false => rfl
                    | true => exact absurd (lt_tr ((less_iff _ _).1 hlt) ((less_iff _ _).1 hc)) (lt_irr _)
                  have hlt3 : ¬ x.key.toList = y.key.toList := fun e => by
                    rw [e] at hlt
                    exact lt_irr _ ((less_iff _ _).1 hlt)
                  have hlt4 : (x.key.toList == y.key.toList) = false := by simpa using hlt3
                  clear hbef
                  go_quiet (fail)
                  rw [World.drewN_drewN]
                  go_wp2_with fail
                  go_roundg (m - (jp + 1 + 1))
                  case rel => exact ⟨jp + 1 + 1, _, by go_num, by omega, by omega, rfl⟩
                  case measure => omega
                · have hxy' : (x.hi == y.hi) = false := by simpa using hxy
                  clear hbef
                  go_quiet (fail)
                  rw [World.drewN_drewN]
                  go_wp2_with fail
                  go_roundg (m - (jp + 1 + 1))
                  case rel => exact ⟨jp + 1 + 1, _, by go_num, by omega, by omega, rfl⟩
                  case measure => omega
          · have hjz : ¬ (j : Int) < (m : Int) := by omega
            have HF := Lib.hid (HN5.out.drewN z).k
            go_wp2_with fail
            go_ret
            exact ⟨rfl, HF.out⟩

set_option maxRecDepth 100000 in
set_option maxHeartbeats 4000000 in
theorem ordered_zero (k : Int) (a : Option Addr) (c : Nat) (q : Int) (w : World) (hk : -9223372036854775808 ≤ k ∧ k ≤ 9223372036854775807) (hq : -9223372036854775808 ≤ q ∧ q ≤ 9223372036854775807) :
    Calls Try.prog 4 #[.int .i64 k, .slice a 0 c, .int .i64 q] w fun e w' => e = .returned (.bool true) ∧ Keep (fun _ => False) w w' := by
  obtain ⟨kq, hkq, hkl⟩ := pk_int k 12 (by decide)
  have hnew : ∀ w, Calls Try.prog 12 #[.int .i64 (1 + (kq : Int))] w (NewPost (1 + kq) w) := fun w => by
    have := new_ok (1 + kq) (by omega) (by omega) w
    simpa using this
  have HNEW := Lib.hid hnew
  have HPK := Lib.hid hkq
  clear hnew hkq
  go_enter Try.func4, Try.ntmps4
  go_wp2_with fail
  with_reducible refine (sane_any _).mono ?_
  rintro e W0 ⟨rfl, k0⟩
  have HK0 := Lib.hid k0
  clear k0
  go_wp2_with fail
  with_reducible refine (pick_int k 12 kq _ hk.1 hk.2 (by decide) (by decide) HPK.out).mono ?_
  rintro e W0' ⟨rfl, rfl⟩
  go_wp2_with fail
  with_reducible refine (HNEW.out _).mono ?_
  rintro e W1 ⟨s, bm, rfl, hs, kk, hl1, hl2⟩
  have HN : Hid (New1 w W1 s bm (1 + kq) []) := Lib.hid ⟨hs, HK0.out.trans kk, Nat.le_trans HK0.out.size hl1, Nat.le_trans HK0.out.size hl2⟩
  clear hs kk hl1 hl2 HK0 HNEW
  go_wp2_with fail
  refine wp_loop_rounds 1 ?_
  rw [rounds_succ]
  go_wp2_with fail
  with_reducible refine (top_sk HN.out.sk (by simp) 64).mono ?_
  rintro e W4 ⟨va, rfl, hown, k4⟩
  have HN4 := Lib.hid (HN.out.keep k4)
  obtain ⟨a4, c4, rfl, _⟩ := CtrsAt.of_owns hown
  clear hown k4
  have e0 : (topC [] 64).length = 0 := rfl
  rw [e0]
  clear e0
  go_wp2_with fail
  with_reducible refine (top_sk HN4.out.sk (by simp) q).mono ?_
  rintro e W5 ⟨va, rfl, hown, k5⟩
  have HN5 := Lib.hid (HN4.out.keep k5)
  obtain ⟨a5, c5, rfl, _⟩ := CtrsAt.of_owns hown
  clear hown k5
  have e0 : (topC [] q).length = 0 := by unfold topC; simp
  rw [e0]
  clear e0
  have hmx : (0 : Int) = max 0 (min q 0) := by omega
  have HMX := Lib.hid hmx
  have hmx2 : max (0 : Int) (min q 0) = 0 := by omega
  clear hmx
  go_wp2_with fail
  refine wp_loop_rounds 1 ?_
  rw [rounds_succ]
  go_wp2_with fail
  go_ret
  exact ⟨rfl, HN5.out.k⟩

theorem sketchOrdered_walk (k : Int) (a : Option Addr) (len cap : Nat) (q : Int) (w : World) (hk : -9223372036854775808 ≤ k ∧ k ≤ 9223372036854775807) (hs : IsSteps w a len) (hq : -9223372036854775808 ≤ q ∧ q ≤ 9223372036854775807) :
    Calls Try.prog 4 #[.int .i64 k, .slice a len cap, .int .i64 q] w fun e w' => e = .returned (.bool true) ∧ Below w.heap.size w w' := by
  have h : Calls Try.prog 4 #[.int .i64 k, .slice a len cap, .int .i64 q] w fun e w' => e = .returned (.bool true) ∧ Keep (fun _ => False) w w' := by
    by_cases h0 : 0 < len
    · obtain ⟨b, off, f, rfl, hst⟩ := hs.2 h0
      exact ordered_go k b off len cap f q w hk hs.1 hst h0 hq
    · obtain rfl : len = 0 := by omega
      exact ordered_zero k a cap q w hk hq
  exact h.mono fun _ _ ⟨h1, h2⟩ => ⟨h1, ⟨h2.os, h2.tape, h2.output, h2.size, fun i hi => h2.block i hi (fun h => h)⟩⟩
end Go.Proofs.Ytogkkghliogpeaa
