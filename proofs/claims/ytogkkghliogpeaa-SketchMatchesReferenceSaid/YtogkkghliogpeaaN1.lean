/-
  SketchMatchesReference: the walk.
-/
import Derived.Test.YtogkkghliogpeaaN0
import Derived.Test.YtogkkghliogpeaaJ1
import Derived.Test.YtogkkghliogpeaaK1
import Derived.Deep.CutBlock
import Derived.Deep.DeepCutAuto
namespace Go.Proofs.Ytogkkghliogpeaa
open Go.RowKit Go.Shelf

theorem RG.halve_next {w W : World} {s1 b1 r1 : Nat} {v1 : Value} {k1 : Nat} {L1 : List C} {s2 b2 r2 : Nat} {v2 : Value} {k2 : Nat} {L2 : List C} {i : Nat} (h : RG w W s1 b1 r1 v1 k1 L1 s2 b2 r2 v2 k2 L2 i) {W5 : World} {v' : Value} (r : RB w W5 s1 b1 r1 v' k1 (halveC L1) (halveC L1) s2 b2 r2 v2 k2 L2 L2) : RG w W5 s1 b1 r1 v' k1 (halveC L1) s2 b2 r2 v2 k2 L2 (i + 1) :=
  ⟨r, h.nm1.halve, h.nm2, by have := halve_sum h.rb.sk1.ok; have := h.sm1; omega, by have := h.sm2; omega⟩

theorem same_top {W : World} {va vb : Value} {l : List K3} (ha : CtrsAt W va l) (hb : CtrsAt W vb l) (hl : l.length ≤ 64) : Calls Try.prog 19 #[va, vb] W fun e w' => e = .returned (.bool true) ∧ Keep (fun _ => False) W w' :=
  (same_any va vb l l W ha hb (by omega) (by omega)).mono fun _ _ ⟨h1, n, h2⟩ => ⟨by rw [h1]; simp, by rw [h2]; exact (Keep.refl _ W).drewN n⟩
theorem topC_len (L : List C) (n : Int) : (topC L n).length ≤ L.length := by unfold topC; rw [List.length_map]; exact List.length_take_le' _ _

set_option maxRecDepth 100000 in
set_option maxHeartbeats 16000000 in
theorem ref_go (k j : Nat) (a : Option Addr) (b off n ca : Nat) (f : Nat → Nat → Int) (raw : Bool) (w : World) (hk : 1 ≤ k ∧ k ≤ 64) (hj : 1 ≤ j ∧ j ≤ 64)
    (hn : n ≤ 9223372036854775807) (ha : 0 < n → a = some ⟨b, off, none⟩) (hst : Steps w b off n f) :
    Calls Try.prog 6 #[.int .i64 k, .int .i64 j, .slice a n ca, .bool raw] w fun e w' => e = .returned (.bool true) ∧ Keep (fun _ => False) w w' := by
  have HST := Lib.hid hst
  have HAD := Lib.hid ha
  clear hst ha
  go_enter Try.func6, Try.ntmps6
  go_wp2_with fail
  with_reducible refine (sane_any _).mono ?_
  rintro e W0 ⟨rfl, k0⟩
  have HF0 := Lib.hid (Fam.nil k0)
  clear k0
  go_wp2_with fail
  with_reducible refine (new_ok k hk.1 hk.2 _).mono ?_
  rintro e W1 ⟨sa, ba, rfl, hs, kk, hl1, hl2⟩
  have HF1 := Lib.hid (HF0.out.new hs kk hl1 hl2)
  clear hs kk hl1 hl2 HF0
  go_wp2_with fail
  with_reducible refine (rnew_ok k hk.1 hk.2 _).mono ?_
  rintro e W2 ⟨ra, rfl, hr1, kk, hl1⟩
  have HF2 := Lib.hid (And.intro (HF1.out.keep kk) (And.intro hr1 (And.intro hl1 (HF1.out.at_ (A := []) (B := [])).at_.lt)))
  have HS2 := Lib.hid (And.intro HF1.out.k.size kk.size)
  clear hr1 kk hl1 HF1
  go_wp2_with fail
  with_reducible refine (new_ok j hj.1 hj.2 _).mono ?_
  rintro e W3 ⟨sb, bb, rfl, hs, kk, hl1, hl2⟩
  have HF3 := Lib.hid (And.intro (HF2.out.1.new hs kk hl1 hl2) (And.intro (HF2.out.2.1.kept kk) (And.intro HF2.out.2.1.lt (And.intro kk.size (And.intro hl1 hl2)))))
  clear hs kk hl1 hl2
  go_wp2_with fail
  with_reducible refine (rnew_ok j hj.1 hj.2 _).mono ?_
  rintro e W4 ⟨rb, rfl, hr2, kk, hl1⟩
  have HG0 : Hid (RG w W4 sa ba ra (.slice none 0 0) k [] sb bb rb (.slice none 0 0) j [] 0) := Lib.hid (by
    have h1 := HF2.out.2.2
    have h3 := HF3.out.2.2
    have h4 := (HF3.out.1.at_ (A := [_]) (B := [])).at_.lt
    have h5 := HS2.out
    simp only [] at h1 h3 h4
    refine ⟨⟨HF3.out.1.keep kk, HF3.out.2.1.kept kk, hr2, ⟨by omega, by omega⟩, by omega, ⟨by omega, by omega, by omega, by omega⟩, ⟨by omega, by omega, by omega, by omega⟩, (fun b e => nomatch e), (fun b e => nomatch e)⟩, (fun x hx => nomatch hx), (fun x hx => nomatch hx), by simp [sumH], by simp [sumH]⟩)
  clear hr2 kk hl1 HF3 HF2 HS2
  go_wp2_with fail
  go_loopg [10, 12, 14, 16, 18] 60 (fun gh v10 v12 v14 v16 v18 wr => ∃ (i s1 b1 r1 : Nat) (v1 : Value) (k1 : Nat) (L1 : List C) (s2 b2 r2 : Nat) (v2 : Value) (k2 : Nat) (L2 : List C), v18 = .int .i64 i ∧ v10 = ptr s1 ∧ v12 = ptr r1 ∧ v14 = ptr s2 ∧ v16 = ptr r2 ∧ i ≤ 60 ∧ 60 ≤ gh + i ∧ RG w wr s1 b1 r1 v1 k1 L1 s2 b2 r2 v2 k2 L2 i)
  case atStart => exact ⟨0, sa, ba, ra, _, k, [], sb, bb, rb, _, j, [], rfl, rfl, rfl, rfl, rfl, by omega, by omega, HG0.out⟩
  case round =>
    clear HG0
    obtain ⟨i, s1, b1, r1, v1, k1, L1, s2, b2, r2, v2, k2, L2, rfl, rfl, rfl, rfl, rfl, hi60, hgh, hrg⟩ := hrel
    have HG := Lib.hid hrg
    clear hrg
    by_cases hgo : i < n ∧ i < 60
    · obtain ⟨hin, hi⟩ := hgo
      obtain rfl := HAD.out (by omega)
      have hinz : (i : Int) < (n : Int) := by omega
      have hiz : (i : Int) < 60 := by omega
      have hi0 : (0 : Int) ≤ (i : Int) := by omega
      have hf0 : -9223372036854775808 ≤ f i 0 ∧ f i 0 ≤ 9223372036854775807 := ⟨HST.out.lo i 0, HST.out.hi i 0⟩
      have hf1 : -9223372036854775808 ≤ f i 1 ∧ f i 1 ≤ 9223372036854775807 := ⟨HST.out.lo i 1, HST.out.hi i 1⟩
      have hf2 : -9223372036854775808 ≤ f i 2 ∧ f i 2 ≤ 9223372036854775807 := ⟨HST.out.lo i 2, HST.out.hi i 2⟩
      have q0 := HG.out.rb.fam.k.cell (HST.out.cell i 0 hin (by decide)) (fun h => h)
      rw [Nat.add_zero] at q0
      obtain ⟨n0, hn0', hn0l⟩ := pk_int (f i 0) 12 (by decide)
      have HP0 := Lib.hid hn0'
      clear hn0'
      go_wp2_with fail
      with_reducible refine (pick_int (f i 0) 12 n0 _ hf0.1 hf0.2 (by decide) (by decide) HP0.out).mono ?_
      rintro e wr' ⟨rfl, rfl⟩
      clear q0
      go_upto_block 2 with (fail)
      go_cut [10, 12, 14, 16, 19, 20] (fun v10 v12 v14 v16 v19 v20 wc => ∃ (s1 b1 r1 : Nat) (v1 : Value) (k1 : Nat) (L1 : List C) (s2 b2 r2 : Nat) (v2 : Value) (k2 : Nat) (L2 : List C), v10 = ptr s1 ∧ v12 = ptr r1 ∧ v14 = ptr s2 ∧ v16 = ptr r2 ∧ v19 = .bool true ∧ RG w wc s1 b1 r1 v1 k1 L1 s2 b2 r2 v2 k2 L2 (i + 1))
      case first =>
        by_cases hz0 : n0 = 0
        · subst hz0
          go_wp2_with fail
          with_reducible refine (halve_sk HG.out.rb.sk1).mono ?_
          rintro e W5 ⟨rfl, hsk, k5⟩
          have HG5 := Lib.hid (HG.out.rb.upd k5 hsk)
          clear hsk k5
          go_wp2_with fail
          with_reducible refine (rhalve_sk HG5.out.f1 HG.out.rb.sk1.ok).mono ?_
          rintro e W6 ⟨v', rfl, hr, k6, hb6⟩
          have HN := Lib.hid (HG.out.halve_next (HG5.out.ref k6 hr hb6))
          clear hr k6 hb6 HG5 HG
          go_wp2_with fail
          go_meet
          case rel => exact ⟨s1, b1, r1, _, k1, _, s2, b2, r2, v2, k2, L2, rfl, rfl, rfl, rfl, rfl, HN.out⟩
        · have hz0' : ((n0 : Int) == 0) = false := by simp; omega
          by_cases hz1 : n0 = 1
          · subst hz1
            by_cases hmb : mrgBad k1 L1 k2 L2
            · have HMB := Lib.hid hmb
              clear hmb
              go_wp2_with fail
              with_reducible refine (merge_bad HG.out.rb.sk1 HG.out.rb.sk2 HMB.out).mono ?_
              rintro e W5 ⟨rfl, k5⟩
              have HG5 := Lib.hid (HG.out.keep k5)
              clear k5 HG
              go_wp2_with fail
              with_reducible refine (rmerge_bad HG5.out.rb.f1 HG5.out.rb.sk1.ok HG5.out.rb.f2 HG5.out.rb.sk2.ok HMB.out).mono ?_
              rintro e W6 ⟨rfl, k6⟩
              have HN := Lib.hid (HG5.out.keep k6).up
              clear k6 HG5
              go_wp2_with fail
              go_meet
              case rel => exact ⟨s1, b1, r1, v1, k1, L1, s2, b2, r2, v2, k2, L2, rfl, rfl, rfl, rfl, rfl, HN.out⟩
            · have HMG := Lib.hid (HG.out.mrg hmb)
              clear hmb
              go_wp2_with fail
              with_reducible refine (merge_sk HG.out.rb.sk1 HG.out.rb.sk2 HG.out.rb.ne.1 HG.out.rb.ne.2 HMG.out).mono ?_
              rintro e W5 ⟨bn, rfl, hsk, k5, hbn⟩
              have HG5 := Lib.hid (HG.out.rb.merged k5 hsk hbn)
              clear hsk k5 hbn
              go_wp2_with fail
              with_reducible refine (rmerge_ok HG5.out.f1 HG5.out.f2 HMG.out).mono ?_
              rintro e W6 ⟨v', rfl, hr, k6, hb6⟩
              have HN := Lib.hid (HG.out.merge_next HMG.out (HG5.out.ref k6 hr hb6))
              clear hr k6 hb6 HG5 HG
              go_wp2_with fail
              go_meet
              case rel => exact ⟨s1, bn, r1, _, k1, _, s2, b2, r2, v2, k2, L2, rfl, rfl, rfl, rfl, rfl, HN.out⟩
          · have hz1' : ((n0 : Int) == 1) = false := by simp; omega
            by_cases hz2 : n0 = 2
            · subst hz2
              have HN := Lib.hid HG.out.swap.up
              go_wp2_with fail
              go_meet
              case rel => exact ⟨s2, b2, r2, _, k2, _, s1, b1, r1, v1, k1, L1, rfl, rfl, rfl, rfl, rfl, HN.out⟩
            · have hz2' : ((n0 : Int) == 2) = false := by simp; omega
              obtain ⟨t, ht, htl⟩ := pk_int (f i 1) 10 (by decide)
              obtain ⟨key, hkey, hks, hkn⟩ := nms_key t (by omega)
              have HPT := Lib.hid ht
              have HKEY := Lib.hid (And.intro hkey (And.intro hks hkn))
              clear ht hkey hks hkn
              have ht0 : (0 : Int) ≤ (t : Int) := by omega
              have q2 := HG.out.rb.fam.k.cell (HST.out.cell i 2 hin (by decide)) (fun h => h)
              go_upto_if 98 with (fail)
              go_cut [20] (fun v20 wc => ∃ z : Int, v20 = .int .i64 z ∧ -9223372036854775808 ≤ z ∧ z ≤ 9223372036854775807 ∧ wr = wc)
              case first =>
                cases raw with
                | true =>
                  go_wp2_with fail
                  go_meet
                  case rel => exact ⟨_, rfl, hf2.1, hf2.2, rfl⟩
                | false =>
                  obtain ⟨n2, hn2, hn2l⟩ := pk_int (f i 2) 21 (by decide)
                  have HP2 := Lib.hid hn2
                  clear hn2
                  go_wp2_with fail
                  with_reducible refine (pick_int (f i 2) 21 n2 _ hf2.1 hf2.2 (by decide) (by decide) HP2.out).mono ?_
                  rintro e wr' ⟨rfl, rfl⟩
                  go_wp2_with fail
                  go_meet
                  case rel => exact ⟨_, rfl, by omega, by omega, rfl⟩
              case rest =>
                obtain ⟨z, rfl, hz1, hz2, rfl⟩ := hcut
                clear q2
                go_upto_region 18 with (fail)
                have c1 : ∀ p : KA (fun k => k = s1 ∨ k = b1 ∨ k = r1) wr, p.val.cell? ⟨b, off + i * 3 + 1, none⟩ = some (.int .i64 (f i 1)) := fun p => p.k.cell (HG.out.rb.fam.k.cell (HST.out.cell i 1 hin (by decide)) (fun h => h)) (HG.out.rb.old (World.block_lt_of_cell? _ _ (HST.out.cell i 1 hin (by decide))))
                refine wp_region_walk [(true, 0), (true, 2), (true, 3), (true, 4), (true, 5), (true, 6), (true, 10), (true, 12), (true, 14), (true, 15), (true, 16), (true, 17), (true, 18), (true, 22), (false, 1), (false, 7), (false, 8), (false, 9), (false, 11), (false, 13), (false, 19), (false, 20), (false, 21), (false, 23), (false, 24), (false, 25)] (inKA (fun k => k = s1 ∨ k = b1 ∨ k = r1) wr) (by kernel_rfl) (by kernel_rfl) ?_
                iterate 14 (refine walkW_read rfl (fun K hK => ?_); go_simp; refine hK _ ?_; clear hK K)
                clear c1
                refine walkW_do rfl (inKA.of (Keep.refl _ wr).drew) (fun K hK => ?_)
                go_simp
                refine (names_any _).mono ?_
                rintro e W7 ⟨nbW7, rfl, hnb, k7, hc7⟩
                have HK7 : Hid (Keep (fun k => k = s1 ∨ k = b1 ∨ k = r1) wr W7) := Lib.hid ((Keep.refl _ wr).drew.trans (k7.mono (fun _ h => h.elim)))
                have HR7 := Lib.hid (HG.out.rb.keep <| (Keep.refl _ wr).drew.trans k7)
                have HCNW7 := Lib.hid (hc7 t key HKEY.out.1)
                clear hnb k7 hc7
                refine hK _ _ ?_; clear hK K
                refine walkW_do rfl (inKA.of HK7.out) (fun K hK => ?_)
                go_simp
                refine (pick_int (f i 1) 10 t _ hf1.1 hf1.2 (by decide) (by decide) HPT.out).mono ?_
                rintro e W7' ⟨rfl, rfl⟩
                refine hK _ _ ?_; clear hK K
                have hcn := HCNW7.out
                iterate 2 (refine walkW_do rfl (inKA.of HK7.out) (fun K hK => ?_); go_simp; refine hK _ _ ?_; clear hK K)
                clear hcn HCNW7
                refine walkW_do rfl (inKA.of HK7.out) (fun K hK => ?_)
                go_simp
                by_cases hab : z < 1 ∨ 1000000000 < z ∨ 4611686018427387903 - z < sumH L1
                · refine (add_bad HR7.out.sk1 key z hab).mono ?_
                  rintro e W7' ⟨rfl, rfl⟩
                  refine hK _ _ ?_; clear hK K
                  refine walkW_do rfl (inKA.of HK7.out) (fun K hK => ?_)
                  go_simp
                  refine (names_any _).mono ?_
                  rintro e W9 ⟨nbW9, rfl, hnb, k7, hc7⟩
                  have HK9 : Hid (Keep (fun k => k = s1 ∨ k = b1 ∨ k = r1) wr W9) := Lib.hid (HK7.out.trans (k7.mono (fun _ h => h.elim)))
                  have HR9 := Lib.hid (HR7.out.keep k7)
                  have HCNW9 := Lib.hid (hc7 t key HKEY.out.1)
                  clear hnb k7 hc7
                  refine hK _ _ ?_; clear hK K
                  refine walkW_do rfl (inKA.of HK9.out) (fun K hK => ?_)
                  go_simp
                  refine (pick_int (f i 1) 10 t _ hf1.1 hf1.2 (by decide) (by decide) HPT.out).mono ?_
                  rintro e W7' ⟨rfl, rfl⟩
                  refine hK _ _ ?_; clear hK K
                  have hcn := HCNW9.out
                  iterate 2 (refine walkW_do rfl (inKA.of HK9.out) (fun K hK => ?_); go_simp; refine hK _ _ ?_; clear hK K)
                  clear hcn HCNW9
                  refine walkW_do rfl (inKA.of HK9.out) (fun K hK => ?_)
                  go_simp
                  refine (radd_bad HR9.out.f1 HR9.out.sk1.ok key z hab).mono ?_
                  rintro e W9' ⟨rfl, rfl⟩
                  have HN : Hid (RG w W9 s1 b1 r1 v1 k1 L1 s2 b2 r2 v2 k2 L2 (i + 1)) := Lib.hid (RG.up ⟨HR9.out, HG.out.nm1, HG.out.nm2, HG.out.sm1, HG.out.sm2⟩)
                  refine hK _ _ ?_; clear hK K
                  iterate 2 (refine walkW_do rfl (inKA.of HK9.out) (fun K hK => ?_); go_simp; refine hK _ _ ?_; clear hK K)
                  refine ⟨inKA.of HK9.out, ?_⟩
                  go_wp2_with fail
                  go_meet
                  case rel => exact ⟨s1, b1, r1, v1, k1, L1, s2, b2, r2, v2, k2, L2, rfl, rfl, rfl, rfl, rfl, HN.out⟩
                · have HZ : Hid (¬ z < 1 ∧ ¬ 1000000000 < z ∧ ¬ 4611686018427387903 - z < sumH L1) := Lib.hid ⟨fun h => hab (.inl h), fun h => hab (.inr (.inl h)), fun h => hab (.inr (.inr h))⟩
                  clear hab
                  refine (add_ok HR7.out.sk1 key HKEY.out.2.1 z HZ.out.1 HZ.out.2.1 HZ.out.2.2).mono ?_
                  rintro e W8 ⟨rfl, hsk, k8⟩
                  have HK8 : Hid (Keep (fun k => k = s1 ∨ k = b1 ∨ k = r1) wr W8) := Lib.hid (HK7.out.trans (k8.mono (fun _ h => h.elim .inl (fun e => .inr (.inl e)))))
                  have HR8 := Lib.hid (HR7.out.upd k8 hsk)
                  clear hsk k8
                  refine hK _ _ ?_; clear hK K
                  refine walkW_do rfl (inKA.of HK8.out) (fun K hK => ?_)
                  go_simp
                  refine (names_any _).mono ?_
                  rintro e W9 ⟨nbW9, rfl, hnb, k7, hc7⟩
                  have HK9 : Hid (Keep (fun k => k = s1 ∨ k = b1 ∨ k = r1) wr W9) := Lib.hid (HK8.out.trans (k7.mono (fun _ h => h.elim)))
                  have HR9 := Lib.hid (HR8.out.keep k7)
                  have HCNW9 := Lib.hid (hc7 t key HKEY.out.1)
                  clear hnb k7 hc7
                  refine hK _ _ ?_; clear hK K
                  refine walkW_do rfl (inKA.of HK9.out) (fun K hK => ?_)
                  go_simp
                  refine (pick_int (f i 1) 10 t _ hf1.1 hf1.2 (by decide) (by decide) HPT.out).mono ?_
                  rintro e W7' ⟨rfl, rfl⟩
                  refine hK _ _ ?_; clear hK K
                  have hcn := HCNW9.out
                  iterate 2 (refine walkW_do rfl (inKA.of HK9.out) (fun K hK => ?_); go_simp; refine hK _ _ ?_; clear hK K)
                  clear hcn HCNW9
                  refine walkW_do rfl (inKA.of HK9.out) (fun K hK => ?_)
                  go_simp
                  refine (radd_ok HR9.out.f1 HG.out.rb.sk1.ok key z HZ.out.1 HZ.out.2.1 HZ.out.2.2).mono ?_
                  rintro e W10 ⟨v', rfl, hr, k10, hb10⟩
                  have HK10 : Hid (Keep (fun k => k = s1 ∨ k = b1 ∨ k = r1) wr W10) := Lib.hid (HK9.out.trans (k10.mono (fun _ e => .inr (.inr e))))
                  have HN := Lib.hid (HG.out.add_next HKEY.out.2.2 HZ.out.2.1 (HR9.out.ref k10 hr hb10))
                  clear hr k10 hb10
                  refine hK _ _ ?_; clear hK K
                  iterate 2 (refine walkW_do rfl (inKA.of HK10.out) (fun K hK => ?_); go_simp; refine hK _ _ ?_; clear hK K)
                  refine ⟨inKA.of HK10.out, ?_⟩
                  go_wp2_with fail
                  go_meet
                  case rel => exact ⟨s1, b1, r1, _, k1, _, s2, b2, r2, v2, k2, L2, rfl, rfl, rfl, rfl, rfl, HN.out⟩
      case rest =>
        clear HG HP0 hn0l
        obtain ⟨s3, b3, r3, v3, k3, L3, s4, b4, r4, v4, k4, L4, rfl, rfl, rfl, rfl, rfl, hrg⟩ := hcut
        have HG := Lib.hid hrg
        have hl3 := hrg.len1
        clear hrg
        go_upto_region 27 with (fail)
        have c1 : ∀ p : KA (fun _ => False) wc, p.val.cell? ⟨b, off + i * 3 + 2, none⟩ = some (.int .i64 (f i 2)) := fun p => p.k.cell (HG.out.rb.fam.k.cell (HST.out.cell i 2 hin (by decide)) (fun h => h)) (fun h => h)
        refine wp_region_walk [(false, 0), (false, 1), (false, 2), (true, 3), (true, 5), (false, 4), (false, 6), (false, 7), (false, 8), (false, 9), (true, 10), (true, 12), (false, 11), (false, 13), (false, 14), (false, 15), (false, 16), (false, 17), (true, 18), (true, 19), (true, 20), (true, 21), (true, 22), (true, 23), (true, 25), (true, 26), (true, 27), (true, 28), (true, 29), (true, 30), (false, 24), (false, 31), (false, 32), (false, 33), (false, 34)] (inKA (fun _ => False) wc) (by kernel_rfl) (by kernel_rfl) ?_
        have HK0 : Hid (Keep (fun _ => False) wc wc.drew) := Lib.hid (Keep.refl _ wc).drew
        have HG0 := Lib.hid (HG.out.keep HK0.out)
        generalize wc.drew = V0 at *
        iterate 3 (refine walkW_do rfl (inKA.of HK0.out) (fun K hK => ?_); go_simp; refine hK _ _ ?_; clear hK K)
        iterate 2 (refine walkW_read rfl (fun K hK => ?_); go_simp; refine hK _ ?_; clear hK K)
        refine walkW_do rfl (inKA.of HK0.out) (fun K hK => ?_)
        go_simp
        refine (total_sk HG0.out.rb.sk1).mono ?_
        rintro e V0' ⟨rfl, rfl⟩
        refine hK _ _ ?_; clear hK K
        refine walkW_do rfl (inKA.of HK0.out) (fun K hK => ?_)
        go_simp
        refine (rtotal_sk HG0.out.rb.f1 HG0.out.rb.sk1.ok).mono ?_
        rintro e V0' ⟨rfl, rfl⟩
        refine hK _ _ ?_; clear hK K
        iterate 3 (refine walkW_do rfl (inKA.of HK0.out) (fun K hK => ?_); go_simp; refine hK _ _ ?_; clear hK K)
        iterate 2 (refine walkW_read rfl (fun K hK => ?_); go_simp; refine hK _ ?_; clear hK K)
        refine walkW_do rfl (inKA.of HK0.out) (fun K hK => ?_)
        go_simp
        refine (top_sk HG0.out.rb.sk1 (by omega) (100)).mono ?_
        rintro e V1 ⟨va0, rfl, ho1, kv⟩
        have HK1 := Lib.hid (HK0.out.trans kv)
        have HG1 := Lib.hid (HG0.out.keep kv)
        have HV1 := Lib.hid (CtrsAt.of_owns ho1)
        clear ho1 kv HG0 HK0
        refine hK _ _ ?_; clear hK K
        refine walkW_do rfl (inKA.of HK1.out) (fun K hK => ?_)
        go_simp
        refine (rtop_sk HG1.out.rb.f1 (by omega) (100)).mono ?_
        rintro e V2 ⟨vb0, rfl, ho2, kv⟩
        have HK2 := Lib.hid (HK1.out.trans kv)
        have HG2 := Lib.hid (HG1.out.keep kv)
        have HSA := Lib.hid (same_top (HV1.out.keep kv (fun _ _ h => h)) (CtrsAt.of_owns ho2) (by have := topC_len L3 (100); omega))
        clear ho2 kv HG1 HK1 HV1
        refine hK _ _ ?_; clear hK K
        refine walkW_do rfl (inKA.of HK2.out) (fun K hK => ?_)
        go_simp
        refine HSA.out.mono ?_
        rintro e V3 ⟨rfl, kv⟩
        have HK3 := Lib.hid (HK2.out.trans kv)
        have HG3 := Lib.hid (HG2.out.keep kv)
        clear kv HG2 HK2 HSA
        refine hK _ _ ?_; clear hK K
        iterate 3 (refine walkW_do rfl (inKA.of HK3.out) (fun K hK => ?_); go_simp; refine hK _ _ ?_; clear hK K)
        iterate 12 (refine walkW_read rfl (fun K hK => ?_); go_simp; refine hK _ ?_; clear hK K)
        clear c1
        refine walkW_do rfl (inKA.of HK3.out) (fun K hK => ?_)
        go_simp
        refine (top_sk HG3.out.rb.sk1 (by omega) (f i 2)).mono ?_
        rintro e V4 ⟨va3, rfl, ho1, kv⟩
        have HK4 := Lib.hid (HK3.out.trans kv)
        have HG4 := Lib.hid (HG3.out.keep kv)
        have HV1 := Lib.hid (CtrsAt.of_owns ho1)
        clear ho1 kv HG3 HK3
        refine hK _ _ ?_; clear hK K
        refine walkW_do rfl (inKA.of HK4.out) (fun K hK => ?_)
        go_simp
        refine (rtop_sk HG4.out.rb.f1 (by omega) (f i 2)).mono ?_
        rintro e V5 ⟨vb3, rfl, ho2, kv⟩
        have HK5 := Lib.hid (HK4.out.trans kv)
        have HG5 := Lib.hid (HG4.out.keep kv)
        have HSA := Lib.hid (same_top (HV1.out.keep kv (fun _ _ h => h)) (CtrsAt.of_owns ho2) (by have := topC_len L3 (f i 2); omega))
        clear ho2 kv HG4 HK4 HV1
        refine hK _ _ ?_; clear hK K
        refine walkW_do rfl (inKA.of HK5.out) (fun K hK => ?_)
        go_simp
        refine HSA.out.mono ?_
        rintro e V6 ⟨rfl, kv⟩
        have HK6 := Lib.hid (HK5.out.trans kv)
        have HG6 := Lib.hid (HG5.out.keep kv)
        clear kv HG5 HK5 HSA
        refine hK _ _ ?_; clear hK K
        iterate 2 (refine walkW_do rfl (inKA.of HK6.out) (fun K hK => ?_); go_simp; refine hK _ _ ?_; clear hK K)
        refine ⟨inKA.of HK6.out, ?_⟩
        clear HK6
        clear HG
        go_wp2_with fail
        go_loopg [21] 10 (fun g2 vm wr2 => ∃ m : Nat, vm = .int .i64 m ∧ m ≤ 10 ∧ 10 ≤ g2 + m ∧ RG w wr2 s3 b3 r3 v3 k3 L3 s4 b4 r4 v4 k4 L4 (i + 1))
        case atStart => exact ⟨0, rfl, by omega, by omega, HG6.out⟩
        case round =>
          clear HG6
          obtain ⟨m, rfl, hm10, hg2, hrg⟩ := hrel
          have HM := Lib.hid hrg
          clear hrg
          by_cases hm : m < 10
          · have hmz : (m : Int) < 10 := by omega
            have hm0 : (0 : Int) ≤ (m : Int) := by omega
            obtain ⟨key, hkey, hks, hkn⟩ := nms_key m (by omega)
            obtain ⟨kg, ng, eg, fg, hgg, -⟩ := getV_form HM.out.rb.sk1.ok key
            have HKEY := Lib.hid (And.intro hkey hks)
            have HGG := Lib.hid hgg
            clear hkey hks hkn hgg
            go_wp2_with fail
            with_reducible refine (names_any _).mono ?_
            rintro e U1 ⟨nb1, rfl, hnb, k1', hc1⟩
            have HM1 := Lib.hid (HM.out.keep k1')
            have hcn := hc1 m key HKEY.out.1
            clear hnb k1' hc1 HM
            have HGET := Lib.hid (get_sk HM1.out.rb.sk1 key HKEY.out.2)
            rw [HGG.out] at HGET
            go_wp2_with fail
            with_reducible refine HGET.out.mono ?_
            rintro e U2 ⟨rfl, k2'⟩
            have HM2 := Lib.hid (HM1.out.keep k2')
            clear hcn k2' HM1 HGET
            go_wp2_with fail
            have hk3 : Keep (fun _ => False) U2 (U2.alloc (.cells #[.string kg, .int .i64 ng, .int .i64 eg] 37)) := (Keep.refl _ U2).alloc _
            have HM3 := Lib.hid (HM2.out.keep hk3)
            have HB3 := Lib.hid (Blk.new U2 kg ng eg)
            clear hk3 HM2
            generalize U2.alloc (.cells #[.string kg, .int .i64 ng, .int .i64 eg] 37) = U3 at *
            generalize hz1 : U2.heap.size = z1 at *
            clear hz1
            with_reducible refine (names_any _).mono ?_
            rintro e U4 ⟨nb2, rfl, hnb, k4', hc1⟩
            have HM4 := Lib.hid (HM3.out.keep k4')
            have HB4 := Lib.hid (HB3.out.kept k4')
            have hcn := hc1 m key HKEY.out.1
            clear hnb k4' hc1 HM3 HB3
            have HGET := Lib.hid (rget_sk HM4.out.rb.f1 HM4.out.rb.sk1.ok key)
            rw [HGG.out] at HGET
            go_wp2_with fail
            with_reducible refine HGET.out.mono ?_
            rintro e U5 ⟨rfl, k5'⟩
            have hk6 : Keep (fun _ => False) U5 (U5.alloc (.cells #[.string kg, .int .i64 ng, .int .i64 eg] 37)) := (Keep.refl _ U5).alloc _
            have HM6 := Lib.hid ((HM4.out.keep k5').keep hk6)
            have HB6 := Lib.hid (And.intro ((HB4.out.kept k5').kept hk6) (Blk.new U5 kg ng eg))
            have x0 := HB6.out.1.c0
            have x1 := HB6.out.1.c1
            have x2 := HB6.out.1.c2
            have y0 := HB6.out.2.c0
            have y1 := HB6.out.2.c1
            have y2 := HB6.out.2.c2
            have hgd : Try.prog.eqGuardType Try.prog.depth 37 = false := by kernel_rfl
            clear hcn k5' HM4 HGET hk6 HB4 HB6
            go_wp2_with fail
            generalize U5.alloc (.cells #[.string kg, .int .i64 ng, .int .i64 eg] 37) = U6 at *
            clear x0 x1 x2 y0 y1 y2
            go_roundg (10 - (m + 1))
            case rel => exact ⟨m + 1, by go_num, by omega, by omega, HM6.out⟩
            case measure => omega
          · have hmz : ¬ (m : Int) < 10 := by omega
            go_wp2_with fail
            go_roundg (60 - (i + 1))
            case rel => exact ⟨i + 1, s3, b3, r3, v3, k3, L3, s4, b4, r4, v4, k4, L4, by go_num, rfl, rfl, rfl, rfl, by omega, by omega, HM.out⟩
            case measure => omega
    · have hx : (¬ (i : Int) < (n : Int)) ∨ ((i : Int) < (n : Int) ∧ ¬ (i : Int) < 60) := by omega
      have HF := Lib.hid HG.out.rb.fam.k
      clear hgo
      rcases hx with hinz | ⟨hinz, hiz⟩
      all_goals
        go_wp2_with fail
        go_ret
        exact ⟨rfl, HF.out⟩

set_option maxRecDepth 100000 in
set_option maxHeartbeats 4000000 in
theorem ref_bad (k j : Int) (a : Option Addr) (n ca : Nat) (raw : Bool) (w : World) (h : k < 1 ∨ 64 < k ∨ j < 1 ∨ 64 < j) :
    Calls Try.prog 6 #[.int .i64 k, .int .i64 j, .slice a n ca, .bool raw] w fun e w' => e = .returned (.bool true) ∧ Keep (fun _ => False) w w' := by
  by_cases hk : k < 1 ∨ 64 < k
  · have HK := Lib.hid hk
    clear hk h
    by_cases hj : j < 1 ∨ 64 < j
    · have HJ := Lib.hid hj
      clear hj
      go_enter Try.func6, Try.ntmps6
      go_wp2_with fail
      with_reducible refine (sane_any _).mono ?_
      rintro e W0 ⟨rfl, k0⟩
      have HF0 := Lib.hid k0
      clear k0
      go_wp2_with fail
      with_reducible refine (new_bad k HK.out _).mono ?_
      rintro e W1 ⟨rfl, rfl⟩
      go_wp2_with fail
      with_reducible refine (rnew_bad k HK.out _).mono ?_
      rintro e W1 ⟨rfl, rfl⟩
      go_wp2_with fail
      with_reducible refine (new_bad j HJ.out _).mono ?_
      rintro e W1 ⟨rfl, rfl⟩
      go_wp2_with fail
      with_reducible refine (rnew_bad j HJ.out _).mono ?_
      rintro e W1 ⟨rfl, rfl⟩
      go_wp2_with fail
      go_ret
      exact ⟨rfl, HF0.out⟩
    · obtain ⟨jn, rfl⟩ : ∃ jn : Nat, j = jn := ⟨j.toNat, by omega⟩
      have hj1 : 1 ≤ jn := by omega
      have hj2 : jn ≤ 64 := by omega
      clear hj
      go_enter Try.func6, Try.ntmps6
      go_wp2_with fail
      with_reducible refine (sane_any _).mono ?_
      rintro e W0 ⟨rfl, k0⟩
      have HF0 := Lib.hid k0
      clear k0
      go_wp2_with fail
      with_reducible refine (new_bad k HK.out _).mono ?_
      rintro e W1 ⟨rfl, rfl⟩
      go_wp2_with fail
      with_reducible refine (rnew_bad k HK.out _).mono ?_
      rintro e W1 ⟨rfl, rfl⟩
      go_wp2_with fail
      with_reducible refine (new_ok jn hj1 hj2 _).mono ?_
      rintro e W1 ⟨s, bm, rfl, hs, kk, hl1, hl2⟩
      have HF1 := Lib.hid (HF0.out.trans kk)
      clear hs kk hl1 hl2
      go_wp2_with fail
      with_reducible refine (rnew_ok jn hj1 hj2 _).mono ?_
      rintro e W2 ⟨r, rfl, hr, kk, hl1⟩
      have HF2 := Lib.hid (HF1.out.trans kk)
      clear hr kk hl1
      go_wp2_with fail
      go_ret
      exact ⟨rfl, HF2.out⟩
  · obtain ⟨kn, rfl⟩ : ∃ kn : Nat, k = kn := ⟨k.toNat, by omega⟩
    have hk1 : 1 ≤ kn := by omega
    have hk2 : kn ≤ 64 := by omega
    have HJ : Hid (j < 1 ∨ 64 < j) := Lib.hid (by omega)
    clear hk h
    go_enter Try.func6, Try.ntmps6
    go_wp2_with fail
    with_reducible refine (sane_any _).mono ?_
    rintro e W0 ⟨rfl, k0⟩
    have HF0 := Lib.hid k0
    clear k0
    go_wp2_with fail
    with_reducible refine (new_ok kn hk1 hk2 _).mono ?_
    rintro e W1 ⟨s, bm, rfl, hs, kk, hl1, hl2⟩
    have HF1 := Lib.hid (HF0.out.trans kk)
    clear hs kk hl1 hl2
    go_wp2_with fail
    with_reducible refine (rnew_ok kn hk1 hk2 _).mono ?_
    rintro e W2 ⟨r, rfl, hr, kk, hl1⟩
    have HF2 := Lib.hid (HF1.out.trans kk)
    clear hr kk hl1
    go_wp2_with fail
    with_reducible refine (new_bad j HJ.out _).mono ?_
    rintro e W1 ⟨rfl, rfl⟩
    go_wp2_with fail
    with_reducible refine (rnew_bad j HJ.out _).mono ?_
    rintro e W1 ⟨rfl, rfl⟩
    go_wp2_with fail
    go_ret
    exact ⟨rfl, HF2.out⟩

theorem sketchMatchesReference_walk (k j : Int) (a : Option Addr) (len cap : Nat) (raw : Bool) (w : World) (hk : -9223372036854775808 ≤ k ∧ k ≤ 9223372036854775807) (hj : -9223372036854775808 ≤ j ∧ j ≤ 9223372036854775807) (hs : IsSteps w a len) :
    Calls Try.prog 6 #[.int .i64 k, .int .i64 j, .slice a len cap, .bool raw] w fun e w' => e = .returned (.bool true) ∧ Below w.heap.size w w' := by
  have h : Calls Try.prog 6 #[.int .i64 k, .int .i64 j, .slice a len cap, .bool raw] w fun e w' => e = .returned (.bool true) ∧ Keep (fun _ => False) w w' := by
    by_cases hb : k < 1 ∨ 64 < k ∨ j < 1 ∨ 64 < j
    · exact ref_bad k j a len cap raw w hb
    · obtain ⟨kn, rfl⟩ : ∃ kn : Nat, k = kn := ⟨k.toNat, by omega⟩
      obtain ⟨jn, rfl⟩ : ∃ jn : Nat, j = jn := ⟨j.toNat, by omega⟩
      by_cases h0 : 0 < len
      · obtain ⟨b, off, f, rfl, hst⟩ := hs.2 h0
        exact ref_go kn jn _ b off len cap f raw w (by omega) (by omega) hs.1 (fun _ => rfl) hst
      · obtain rfl : len = 0 := by omega
        exact ref_go kn jn a 0 0 0 cap (fun _ _ => 0) raw w (by omega) (by omega) (by omega) (fun h => by omega) ⟨fun i j h => by omega, fun _ _ => by omega, fun _ _ => by omega⟩
  exact h.mono fun _ _ ⟨h1, h2⟩ => ⟨h1, ⟨h2.os, h2.tape, h2.output, h2.size, fun i hi => h2.block i hi (fun h => h)⟩⟩
end Go.Proofs.Ytogkkghliogpeaa
