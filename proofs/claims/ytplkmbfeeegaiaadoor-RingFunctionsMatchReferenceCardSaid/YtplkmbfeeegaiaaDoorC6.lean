/-
  RingFunctionsMatchReference.
-/
import Derived.Test.YtplkmbfeeegaiaaDoorB9
import Derived.Test.YtplkmbfeeegaiaaDoorD1
import Derived.Test.YtplkmbfeeegaiaaDoorR4
namespace Go.Proofs.YtplkmbfeeegaiaaDoor
open Go.RowKit Go.Shelf

set_option maxRecDepth 100000 in
set_option maxHeartbeats 8000000 in
theorem funcsLaw_any (v0 : Value) (ep : Int) (l : List Mb) (ow : List Int) (v1 : Value) (ep' : Int) (l' : List Mb) (ow' : List Int) (key : ByteArray) (nd : Int) (b : Bool) (w : World) (h0 : Rng w v0 ep l ow) (h1 : Rng w v1 ep' l' ow') (hkey : key.size ≤ maxLen) (_hnd : I64 nd) (hT : Tab w) : Calls Tryd.prog 4 #[v0, v1, .string key, .int .i64 nd, .bool b] w fun e w' => e = .returned (.bool true) ∧ Keep (fun _ => False) w w' := by
  obtain ⟨hb0, vm, vo, rfl, hm0, ho0⟩ := h0
  obtain ⟨hb1, vm', vo', rfl, hm1, ho1⟩ := h1
  obtain ⟨ma, mn, mc, rfl⟩ : ∃ a n c, vm = .slice a n c := by obtain ⟨a, c, b, off, h, _⟩ := hm0.at_; exact ⟨_, _, _, h⟩
  obtain ⟨oa, on, oc, rfl⟩ : ∃ a n c, vo = .slice a n c := by obtain ⟨a, c, b, off, h, _⟩ := ho0.at_; exact ⟨_, _, _, h⟩
  obtain ⟨ma', mn', mc', rfl⟩ : ∃ a n c, vm' = .slice a n c := by obtain ⟨a, c, b, off, h, _⟩ := hm1.at_; exact ⟨_, _, _, h⟩
  obtain ⟨oa', on', oc', rfl⟩ : ∃ a n c, vo' = .slice a n c := by obtain ⟨a, c, b, off, h, _⟩ := ho1.at_; exact ⟨_, _, _, h⟩
  have HT := Lib.hid hT
  -- the cuts
  obtain ⟨q0, hq0⟩ : ∃ q : Nat, min (mn : Int) 26 = q := ⟨min mn 26, by omega⟩
  obtain ⟨q1, hq1⟩ : ∃ q : Nat, min (on : Int) 70 = q := ⟨min on 70, by omega⟩
  obtain ⟨q2, hq2⟩ : ∃ q : Nat, min (mn' : Int) 26 = q := ⟨min mn' 26, by omega⟩
  obtain ⟨q3, hq3⟩ : ∃ q : Nat, min (on' : Int) 70 = q := ⟨min on' 70, by omega⟩
  obtain ⟨hc0, hl0, hcap0⟩ := hm0.cut (show q0 ≤ mn by omega)
  obtain ⟨hc1, hl1, hcap1⟩ := ho0.cut (show q1 ≤ on by omega)
  obtain ⟨hc2, hl2, hcap2⟩ := hm1.cut (show q2 ≤ mn' by omega)
  obtain ⟨hc3, hl3, hcap3⟩ := ho1.cut (show q3 ≤ on' by omega)
  have hq0' : q0 ≤ 26 := by omega
  have hq1' : q1 ≤ 70 := by omega
  have hz0 : q0 ≤ mn := by omega
  have hz1 : q1 ≤ on := by omega
  have hz2 : q2 ≤ mn' := by omega
  have hz3 : q3 ≤ on' := by omega
  generalize l.take q0 = l0 at *
  generalize ow.take q1 = ow0 at *
  generalize l'.take q2 = l2 at *
  generalize ow'.take q3 = ow3 at *
  have HC0 := Lib.hid hc0
  have HC1 := Lib.hid hc1
  have HC2 := Lib.hid hc2
  have HC3 := Lib.hid hc3
  have HL0 := Lib.hid hl0
  have HL1 := Lib.hid hl1
  have HEP0 := Lib.hid hb0
  have HEP1 := Lib.hid hb1
  clear hT hm0 ho0 hm1 ho1 hc0 hc1 hc2 hc3 hl0 hl1 hl2 hl3 hb0 hb1
  unfold maxLen at hkey
  have HX := Lib.hid (Box3.new w (.int .i64 ep) (.slice ma mn mc) (.slice oa on oc) 31)
  have HY := Lib.hid (Box3.new (w.alloc (.cells #[.int .i64 ep, .slice ma mn mc, .slice oa on oc] 31)) (.int .i64 ep') (.slice ma' mn' mc') (.slice oa' on' oc') 31)
  have HKA : Hid (Keep (fun _ => False) w (w.alloc (.cells #[.int .i64 ep, .slice ma mn mc, .slice oa on oc] 31))) := Lib.hid ((Keep.refl _ w).alloc _)
  have HKB : Hid (Keep (fun _ => False) (w.alloc (.cells #[.int .i64 ep, .slice ma mn mc, .slice oa on oc] 31)) ((w.alloc (.cells #[.int .i64 ep, .slice ma mn mc, .slice oa on oc] 31)).alloc (.cells #[.int .i64 ep', .slice ma' mn' mc', .slice oa' on' oc'] 31))) := Lib.hid ((Keep.refl _ _).alloc _)
  have HX0 := Lib.hid (HX.out.kept HKB.out)
  rw [World.size_alloc] at HY
  have HK0 := Lib.hid (HKA.out.trans HKB.out)
  clear HX HKA HKB
  go_enter Tryd.func4, Tryd.ntmps4
  go_wp2_with fail
  generalize (w.alloc (.cells #[.int .i64 ep, .slice ma mn mc, .slice oa on oc] 31)).alloc (.cells #[.int .i64 ep', .slice ma' mn' mc', .slice oa' on' oc'] 31) = W0 at *
  generalize hz : w.heap.size = z at HX0 HY ⊢
  have HZ := Lib.hid hz
  clear hz
  with_reducible refine (sane_any W0 (HT.out.kept HK0.out)).mono ?_
  rintro e W1 ⟨rfl, k1⟩
  have HK1 := Lib.hid (HK0.out.trans k1)
  have HX1 := Lib.hid (HX0.out.kept k1)
  have HY1 := Lib.hid (HY.out.kept k1)
  clear k1 HX0 HY HK0
  go_upto_region 3 with (fail)
  have HKS0 : Hid ((key.extract 0 (min (key.size : Int) 100).toNat).size ≤ 1000000) := Lib.hid (by rw [ByteArray.size_extract]; omega)
  generalize key.extract 0 (min (key.size : Int) 100).toNat = ky at *
  -- the first ring's members
  obtain ⟨ga, gc, W3, hr3, k3, ho3⟩ := lit_mbs W1 (.slice ma q0 mc) l0 (HC0.out.kept HK1.out) (by have := HL0.out; omega)
  rw [HL0.out] at hr3 ho3
  have HR3 := Lib.hid hr3
  have HO3 := Lib.hid ho3
  have HX3 := Lib.hid (HX1.out.kept k3)
  have HY3 := Lib.hid (HY1.out.kept k3)
  have HK3 := Lib.hid (HK1.out.trans k3)
  have HSZ1 : Hid (z + 1 < W1.heap.size) := Lib.hid HY1.out.lt
  clear hr3 ho3 k3 
  obtain ⟨x0, x1, x2, xf⟩ : Box3 (W1.alloc (.cells #[] 25)) z (.int .i64 ep) (.slice ma mn mc) (.slice oa on oc) := HX1.out.kept ((Keep.refl _ W1).alloc _)
  obtain ⟨a0, a1, a2, af⟩ := HX3.out
  go_upto_region 4 with (at_builtin; refine wpList_app rfl (.tmp 18) (.tmp 25) 22 rfl rfl rfl HR3.out ?_)
  clear x0 x1 x2 xf a0 a1 a2 af
  have HO3' := Lib.hid (ownsRow_keep HO3.out ((Keep.refl (fun j => j = z) W3).setCell (p := ⟨z, 1, none⟩) (.slice ga q0 gc) (.inl rfl)) (fun b hb e => by have := (HO3.out.lt b hb).1; have := HSZ1.out; omega))
  have HX4 := Lib.hid (HX3.out.set1 (.slice ga q0 gc))
  have HY4 := Lib.hid (HY3.out.other (b := z) (o := 1) (by omega) (.slice ga q0 gc))
  have HK4 : Hid (Keep (fun _ => False) w (W3.setCell ⟨z, 1, none⟩ (.slice ga q0 gc))) := Lib.hid (HK3.out.trans' ((Keep.refl (fun j => j = z) W3).setCell (p := ⟨z, 1, none⟩) _ (.inl rfl)) (fun j e => .inr (by have := HZ.out; omega)))
  clear HX3 HY3 HK3 HO3 HX1 HY1 HR3
  generalize W3.setCell ⟨z, 1, none⟩ (.slice ga q0 gc) = W4 at *
  -- its owners
  obtain ⟨gb, gd, W5, hr5, k5, ho5⟩ := lit_its W4 (.slice oa q1 oc) ow0 (HC1.out.kept HK4.out) (by have := HL1.out; omega)
  rw [HL1.out] at hr5 ho5
  have HR5 := Lib.hid hr5
  have HO5 := Lib.hid ho5
  have HO35 := Lib.hid (ownsRow_keep HO3'.out k5 (fun _ _ h => h))
  have HX5 := Lib.hid (HX4.out.kept k5)
  have HY5 := Lib.hid (HY4.out.kept k5)
  have HK5 := Lib.hid (HK4.out.trans k5)
  have HSZ4 : Hid (z + 1 < W4.heap.size) := Lib.hid HY4.out.lt
  clear hr5 ho5 k5
  obtain ⟨x0, x1, x2, xf⟩ : Box3 (W4.alloc (.cells #[] 3)) z (.int .i64 ep) (.slice ga q0 gc) (.slice oa on oc) := HX4.out.kept ((Keep.refl _ W4).alloc _)
  obtain ⟨a0, a1, a2, af⟩ := HX5.out
  go_upto_region 5 with (at_builtin; refine wpList_app rfl (.tmp 28) (.tmp 35) 26 rfl rfl rfl HR5.out ?_)
  clear x0 x1 x2 xf a0 a1 a2 af
  have HM6 := Lib.hid (ownsRow_keep HO35.out ((Keep.refl (fun j => j = z) W5).setCell (p := ⟨z, 2, none⟩) (.slice gb q1 gd) (.inl rfl)) (fun b hb e => by have := (HO35.out.lt b hb).1; have := HSZ1.out; omega))
  have HO6 := Lib.hid (ownsRow_keep HO5.out ((Keep.refl (fun j => j = z) W5).setCell (p := ⟨z, 2, none⟩) (.slice gb q1 gd) (.inl rfl)) (fun b hb e => by have := (HO5.out.lt b hb).1; have := HSZ4.out; omega))
  have HX6 := Lib.hid (HX5.out.set2 (.slice gb q1 gd))
  have HY6 := Lib.hid (HY5.out.other (b := z) (o := 2) (by omega) (.slice gb q1 gd))
  have HK6 : Hid (Keep (fun _ => False) w (W5.setCell ⟨z, 2, none⟩ (.slice gb q1 gd))) := Lib.hid (HK5.out.trans' ((Keep.refl (fun j => j = z) W5).setCell (p := ⟨z, 2, none⟩) _ (.inl rfl)) (fun j e => .inr (by have := HZ.out; omega)))
  clear HX4 HY4 HK4 HX5 HY5 HK5 HO5 HO35 HR5 HO3'
  generalize W5.setCell ⟨z, 2, none⟩ (.slice gb q1 gd) = W6 at *
  -- the second ring is cut
  have hcap0' := hcap0
  obtain ⟨x0, x1, x2, xf⟩ := HY6.out
  go_upto_region 6 with (fail)
  clear x0 x1 x2 xf
  have HM7 := Lib.hid (ownsRow_keep HM6.out ((Keep.refl (fun j => j = z + 1) W6).setCell (p := ⟨z + 1, 1, none⟩) (.slice ma' q2 mc') (.inl rfl)) (fun b hb e => by have := (HM6.out.lt b hb).1; have := HSZ1.out; omega))
  have HO7 := Lib.hid (ownsRow_keep HO6.out ((Keep.refl (fun j => j = z + 1) W6).setCell (p := ⟨z + 1, 1, none⟩) (.slice ma' q2 mc') (.inl rfl)) (fun b hb e => by have := (HO6.out.lt b hb).1; have := HSZ4.out; omega))
  have HX7 := Lib.hid (HX6.out.other (b := z + 1) (o := 1) (by omega) (.slice ma' q2 mc'))
  have HY7 := Lib.hid (HY6.out.set1 (.slice ma' q2 mc'))
  have HK7 : Hid (Keep (fun _ => False) w (W6.setCell ⟨z + 1, 1, none⟩ (.slice ma' q2 mc'))) := Lib.hid (HK6.out.trans' ((Keep.refl (fun j => j = z + 1) W6).setCell (p := ⟨z + 1, 1, none⟩) _ (.inl rfl)) (fun j e => .inr (by have := HZ.out; omega)))
  clear HM6 HO6 HX6 HY6 HK6
  generalize W6.setCell ⟨z + 1, 1, none⟩ (.slice ma' q2 mc') = W7 at *
  obtain ⟨x0, x1, x2, xf⟩ := HY7.out
  go_upto_region 7 with (fail)
  clear x0 x1 x2 xf
  have HM8 := Lib.hid (ownsRow_keep HM7.out ((Keep.refl (fun j => j = z + 1) W7).setCell (p := ⟨z + 1, 2, none⟩) (.slice oa' q3 oc') (.inl rfl)) (fun b hb e => by have := (HM7.out.lt b hb).1; have := HSZ1.out; omega))
  have HO8 := Lib.hid (ownsRow_keep HO7.out ((Keep.refl (fun j => j = z + 1) W7).setCell (p := ⟨z + 1, 2, none⟩) (.slice oa' q3 oc') (.inl rfl)) (fun b hb e => by have := (HO7.out.lt b hb).1; have := HSZ4.out; omega))
  have HX8 := Lib.hid (HX7.out.other (b := z + 1) (o := 2) (by omega) (.slice oa' q3 oc'))
  have HY8 := Lib.hid (HY7.out.set2 (.slice oa' q3 oc'))
  have HK8 : Hid (Keep (fun _ => False) w (W7.setCell ⟨z + 1, 2, none⟩ (.slice oa' q3 oc'))) := Lib.hid (HK7.out.trans' ((Keep.refl (fun j => j = z + 1) W7).setCell (p := ⟨z + 1, 2, none⟩) _ (.inl rfl)) (fun j e => .inr (by have := HZ.out; omega)))
  clear HM7 HO7 HX7 HY7 HK7
  generalize W7.setCell ⟨z + 1, 2, none⟩ (.slice oa' q3 oc') = W8 at *
  have HMF : Hid (Mbs W8 (.slice ga q0 gc) l0) := Lib.hid (mbs_owns (by rw [HL0.out]; exact HM8.out) (by have := HL0.out; omega) HC0.out.bd)
  have HOF : Hid (Its W8 (.slice gb q1 gd) ow0) := Lib.hid (its_owns (by rw [HL1.out]; exact HO8.out) (by have := HL1.out; omega) HC1.out.bd)
  cases b with
  | false =>
    have HKF := HK8
    have HXF := HX8
    have HYF := HY8
    obtain ⟨eq2, heq2⟩ : ∃ n, ep' = n := ⟨_, rfl⟩
    rw [heq2] at HYF HEP1
    have HEP2 := HEP1
    have HMG := Lib.hid (HC2.out.kept HK8.out)
    have HOG := Lib.hid (HC3.out.kept HK8.out)
    generalize l2 = l4 at *
    generalize ow3 = ow4 at *
    clear HM8 HO8 HX8 HY8 HK8 HC0 HC1 HC2 HC3 HL0 HL1 heq2
    have HR0 : Hid (Rng W8 (ringV ep (.slice ga q0 gc) (.slice gb q1 gd)) ep l0 ow0) := Lib.hid ⟨HEP0.out, _, _, rfl, HMF.out, HOF.out⟩
    have HR1 : Hid (Rng W8 (ringV eq2 (.slice ma' q2 mc') (.slice oa' q3 oc')) eq2 l4 ow4) := Lib.hid ⟨HEP2.out, _, _, rfl, HMG.out, HOG.out⟩
    have HTF := Lib.hid (HT.out.kept HKF.out)
    have HV1 := Lib.hid (fun (W : World) (kk : Keep (fun _ => False) W8 W) => validRing_any _ ep l0 ow0 W (HR0.out.kept kk))
    have HV2 := Lib.hid (fun (W : World) (kk : Keep (fun _ => False) W8 W) => refValidRing_any _ ep l0 ow0 W (HR0.out.kept kk))
    have HO1 := Lib.hid (fun (W : World) (kk : Keep (fun _ => False) W8 W) => owner_any _ ep l0 ow0 W (HR0.out.kept kk) ky HKS0.out (HTF.out.kept kk))
    have HO2 := Lib.hid (fun (W : World) (kk : Keep (fun _ => False) W8 W) => refOwner_any _ ep l0 ow0 W (HR0.out.kept kk) ky HKS0.out)
    have HL1 := Lib.hid (fun (W : World) (kk : Keep (fun _ => False) W8 W) => load_any _ ep l0 ow0 W (HR0.out.kept kk) nd)
    have HL2 := Lib.hid (fun (W : World) (kk : Keep (fun _ => False) W8 W) => refLoad_any _ ep l0 ow0 W (HR0.out.kept kk) nd)
    have HS1 := Lib.hid (fun (W : World) (kk : Keep (fun _ => False) W8 W) => same_any _ _ ep eq2 l0 l4 ow0 ow4 W (HR0.out.kept kk) (HR1.out.kept kk))
    have HS2 := Lib.hid (fun (W : World) (kk : Keep (fun _ => False) W8 W) => refSame_any _ _ ep eq2 l0 l4 ow0 ow4 W (HR0.out.kept kk) (HR1.out.kept kk))
    have HP1 : Hid (∀ W, Keep (fun _ => False) W8 W → Calls Tryd.prog 32 #[.string ky] W fun e w' => e = .returned (.int .i64 (pt ky : Nat)) ∧ Keep (fun _ => False) W w') := Lib.hid (fun W kk => (point_any ky HKS0.out W (HTF.out.kept kk)).mono (fun e w' ⟨h1, h2⟩ => ⟨h1, h2 ▸ Keep.refl _ _⟩))
    have HP2 : Hid (∀ W, Keep (fun _ => False) W8 W → Calls Tryd.prog 33 #[.string ky] W fun e w' => e = .returned (.int .i64 (pt ky : Nat)) ∧ Keep (fun _ => False) W w') := Lib.hid (fun W kk => (refPoint_any ky HKS0.out W).mono (fun e w' ⟨h1, h2⟩ => ⟨h1, h2 ▸ Keep.refl _ _⟩))
    have HQ1 : Hid (∀ W, Keep (fun _ => False) W8 W → Calls Tryd.prog 34 #[.string ky] W fun e w' => e = .returned (.int .i64 (slotOf ky : Nat)) ∧ Keep (fun _ => False) W w') := Lib.hid (fun W kk => (slot_any ky HKS0.out W (HTF.out.kept kk)).mono (fun e w' ⟨h1, h2⟩ => ⟨h1, h2 ▸ Keep.refl _ _⟩))
    have HQ2 : Hid (∀ W, Keep (fun _ => False) W8 W → Calls Tryd.prog 35 #[.string ky] W fun e w' => e = .returned (.int .i64 (slotOf ky : Nat)) ∧ Keep (fun _ => False) W w') := Lib.hid (fun W kk => (refSlot_any ky HKS0.out W).mono (fun e w' ⟨h1, h2⟩ => ⟨h1, h2 ▸ Keep.refl _ _⟩))
    clear HMF HOF HMG HOG HR0 HR1 HTF HKS0
    generalize validRB ep l0 ow0 = bv at *
    generalize ownerOf ow0 ky = no at *
    generalize cnt ow0 nd = nl at *
    generalize (decide (ep = eq2) && (decide (l0 = l4) && decide (ow0 = ow4))) = bs at *
    obtain ⟨np, hnp⟩ : ∃ n : Int, ((pt ky : Nat) : Int) = n := ⟨_, rfl⟩
    obtain ⟨ns, hns⟩ : ∃ n : Int, ((slotOf ky : Nat) : Int) = n := ⟨_, rfl⟩
    rw [hnp] at HP1 HP2
    rw [hns] at HQ1 HQ2
    clear hnp hns
    have e1 : (bv == bv) = true := by simp
    have e2 : (no == no) = true := by simp
    have e3 : (nl == nl) = true := by simp
    have e4 : (bs == bs) = true := by simp
    have e5 : (np == np) = true := by simp
    have e6 : (ns == ns) = true := by simp
    have zx0 : ∀ p : KW W8, p.val.cell? ⟨z, 0, none⟩ = some (.int .i64 ep) := fun p => p.k.cell HXF.out.1 (fun h => h)
    have zx1 : ∀ p : KW W8, p.val.cell? ⟨z, 1, none⟩ = some (.slice ga q0 gc) := fun p => p.k.cell HXF.out.2.1 (fun h => h)
    have zx2 : ∀ p : KW W8, p.val.cell? ⟨z, 2, none⟩ = some (.slice gb q1 gd) := fun p => p.k.cell HXF.out.2.2.1 (fun h => h)
    have zy0 : ∀ p : KW W8, p.val.cell? ⟨z + 1, 0, none⟩ = some (.int .i64 eq2) := fun p => p.k.cell HYF.out.1 (fun h => h)
    have zy1 : ∀ p : KW W8, p.val.cell? ⟨z + 1, 1, none⟩ = some (.slice ma' q2 mc') := fun p => p.k.cell HYF.out.2.1 (fun h => h)
    have zy2 : ∀ p : KW W8, p.val.cell? ⟨z + 1, 2, none⟩ = some (.slice oa' q3 oc') := fun p => p.k.cell HYF.out.2.2.1 (fun h => h)
    go_upto_region 10 with (fail)
    refine wp_region_quiet_kept (by kernel_rfl) (by kernel_rfl) ?_
    repeat (quiet_step (first | (go_at_call 25; with_reducible refine Calls.kept_of (HV1.out _ (KW.k _))) | (go_at_call 26; with_reducible refine Calls.kept_of (HV2.out _ (KW.k _))) | (go_at_call 27; with_reducible refine Calls.kept_of (HO1.out _ (KW.k _))) | (go_at_call 28; with_reducible refine Calls.kept_of (HO2.out _ (KW.k _))) | (go_at_call 29; with_reducible refine Calls.kept_of (HL1.out _ (KW.k _))) | (go_at_call 30; with_reducible refine Calls.kept_of (HL2.out _ (KW.k _))) | (go_at_call 31; with_reducible refine Calls.kept_of (HS1.out _ (KW.k _))) | (go_at_call 24; with_reducible refine Calls.kept_of (HS2.out _ (KW.k _))) | (go_at_call 32; with_reducible refine Calls.kept_of (HP1.out _ (KW.k _))) | (go_at_call 33; with_reducible refine Calls.kept_of (HP2.out _ (KW.k _))) | (go_at_call 34; with_reducible refine Calls.kept_of (HQ1.out _ (KW.k _))) | (go_at_call 35; with_reducible refine Calls.kept_of (HQ2.out _ (KW.k _)))))
    refine wpQuiet_nil ?_
    rintro _ ⟨p, rfl⟩
    go_wp2_with fail
    go_ret
    exact ⟨by first | rfl | simp, HKF.out.trans p.k⟩
  | true =>
    obtain ⟨x0, x1, x2, xf⟩ := HX8.out
    obtain ⟨y0, y1, y2, yf⟩ := HY8.out
    go_upto_region 9 with (fail)
    clear x0 x1 x2 xf y0 y1 y2 yf
    have kq : Keep (fun j => j = z + 1) W8 (((W8.setCell ⟨z + 1, 0, none⟩ (.int .i64 ep)).setCell ⟨z + 1, 1, none⟩ (.slice ga q0 gc)).setCell ⟨z + 1, 2, none⟩ (.slice gb q1 gd)) := (((Keep.refl (fun j => j = z + 1) W8).setCell (p := ⟨z + 1, 0, none⟩) _ (.inl rfl)).setCell (p := ⟨z + 1, 1, none⟩) _ (.inl rfl)).setCell (p := ⟨z + 1, 2, none⟩) _ (.inl rfl)
    have HM9 := Lib.hid (ownsRow_keep HM8.out kq (fun b hb e => by have := (HM8.out.lt b hb).1; have := HSZ1.out; omega))
    have HO9 := Lib.hid (ownsRow_keep HO8.out kq (fun b hb e => by have := (HO8.out.lt b hb).1; have := HSZ4.out; omega))
    have HX9 := Lib.hid (HX8.out.keep kq (by omega))
    have HY9 := Lib.hid (((HY8.out.set0 (.int .i64 ep)).set1 (.slice ga q0 gc)).set2 (.slice gb q1 gd))
    have HK9 := Lib.hid (HK8.out.trans' kq (fun j e => .inr (by have := HZ.out; omega)))
    clear kq HM8 HO8 HX8 HY8 HK8 HMF HOF
    generalize ((W8.setCell ⟨z + 1, 0, none⟩ (.int .i64 ep)).setCell ⟨z + 1, 1, none⟩ (.slice ga q0 gc)).setCell ⟨z + 1, 2, none⟩ (.slice gb q1 gd) = W9 at *
    have HI9 : Hid (Its W9 (.slice gb q1 gd) ow0) := Lib.hid (its_owns (by rw [HL1.out]; exact HO9.out) (by have := HL1.out; omega) HC1.out.bd)
    obtain ⟨ge, gf, W10, hr10, k10, ho10⟩ := lit_its W9 (.slice gb q1 gd) ow0 HI9.out (by have := HL1.out; omega)
    rw [HL1.out] at hr10 ho10
    have HR10 := Lib.hid hr10
    have HOE := Lib.hid ho10
    have HM10 := Lib.hid (ownsRow_keep HM9.out k10 (fun _ _ h => h))
    have HO10 := Lib.hid (ownsRow_keep HO9.out k10 (fun _ _ h => h))
    have HX10 := Lib.hid (HX9.out.kept k10)
    have HY10 := Lib.hid (HY9.out.kept k10)
    have HK10 := Lib.hid (HK9.out.trans k10)
    have HSZ9 : Hid (z + 1 < W9.heap.size) := Lib.hid HY9.out.lt
    clear hr10 ho10 k10
    obtain ⟨x0, x1, x2, xf⟩ : Box3 (W9.alloc (.cells #[] 3)) z (.int .i64 ep) (.slice ga q0 gc) (.slice gb q1 gd) := HX9.out.kept ((Keep.refl _ W9).alloc _)
    obtain ⟨a0, a1, a2, af⟩ := HY10.out
    go_upto_region 10 with (at_builtin; refine wpList_app rfl (.tmp 56) (.tmp 58) 26 rfl rfl rfl HR10.out ?_)
    clear x0 x1 x2 xf a0 a1 a2 af
    have kq := (Keep.refl (fun j => j = z + 1) W10).setCell (p := ⟨z + 1, 2, none⟩) (.slice ge q1 gf) (.inl rfl)
    have HM11 := Lib.hid (ownsRow_keep HM10.out kq (fun b hb e => by have := (HM10.out.lt b hb).1; have := HSZ1.out; omega))
    have HO11 := Lib.hid (ownsRow_keep HO10.out kq (fun b hb e => by have := (HO10.out.lt b hb).1; have := HSZ4.out; omega))
    have HE11 := Lib.hid (ownsRow_keep HOE.out kq (fun b hb e => by have := (HOE.out.lt b hb).1; have := HSZ9.out; omega))
    have HXF := Lib.hid (HX10.out.keep kq (by omega))
    have HYF := Lib.hid (HY10.out.set2 (.slice ge q1 gf))
    have HKF := Lib.hid (HK10.out.trans' kq (fun j e => .inr (by have := HZ.out; omega)))
    clear kq HM10 HO10 HX10 HY10 HK10 HM9 HO9 HX9 HY9 HK9 HI9 HR10 HOE
    generalize W10.setCell ⟨z + 1, 2, none⟩ (.slice ge q1 gf) = W11 at *
    have HMF : Hid (Mbs W11 (.slice ga q0 gc) l0) := Lib.hid (mbs_owns (by rw [HL0.out]; exact HM11.out) (by have := HL0.out; omega) HC0.out.bd)
    have HOF : Hid (Its W11 (.slice gb q1 gd) ow0) := Lib.hid (its_owns (by rw [HL1.out]; exact HO11.out) (by have := HL1.out; omega) HC1.out.bd)
    have HMG := HMF
    have HOG : Hid (Its W11 (.slice ge q1 gf) ow0) := Lib.hid (its_owns (by rw [HL1.out]; exact HE11.out) (by have := HL1.out; omega) HC1.out.bd)
    have HEP2 := HEP0
    obtain ⟨eq2, heq2⟩ : ∃ n, ep = n := ⟨_, rfl⟩
    rw [heq2] at HYF HEP2
    obtain ⟨l4, hl4⟩ : ∃ n, l0 = n := ⟨_, rfl⟩
    rw [hl4] at HMG
    obtain ⟨ow4, how4⟩ : ∃ n, ow0 = n := ⟨_, rfl⟩
    rw [how4] at HOG
    clear HM11 HO11 HE11 HC0 HC1 HC2 HC3 HL0 HL1 heq2 hl4 how4
    have HR0 : Hid (Rng W11 (ringV ep (.slice ga q0 gc) (.slice gb q1 gd)) ep l0 ow0) := Lib.hid ⟨HEP0.out, _, _, rfl, HMF.out, HOF.out⟩
    have HR1 : Hid (Rng W11 (ringV eq2 (.slice ga q0 gc) (.slice ge q1 gf)) eq2 l4 ow4) := Lib.hid ⟨HEP2.out, _, _, rfl, HMG.out, HOG.out⟩
    have HTF := Lib.hid (HT.out.kept HKF.out)
    have HV1 := Lib.hid (fun (W : World) (kk : Keep (fun _ => False) W11 W) => validRing_any _ ep l0 ow0 W (HR0.out.kept kk))
    have HV2 := Lib.hid (fun (W : World) (kk : Keep (fun _ => False) W11 W) => refValidRing_any _ ep l0 ow0 W (HR0.out.kept kk))
    have HO1 := Lib.hid (fun (W : World) (kk : Keep (fun _ => False) W11 W) => owner_any _ ep l0 ow0 W (HR0.out.kept kk) ky HKS0.out (HTF.out.kept kk))
    have HO2 := Lib.hid (fun (W : World) (kk : Keep (fun _ => False) W11 W) => refOwner_any _ ep l0 ow0 W (HR0.out.kept kk) ky HKS0.out)
    have HL1 := Lib.hid (fun (W : World) (kk : Keep (fun _ => False) W11 W) => load_any _ ep l0 ow0 W (HR0.out.kept kk) nd)
    have HL2 := Lib.hid (fun (W : World) (kk : Keep (fun _ => False) W11 W) => refLoad_any _ ep l0 ow0 W (HR0.out.kept kk) nd)
    have HS1 := Lib.hid (fun (W : World) (kk : Keep (fun _ => False) W11 W) => same_any _ _ ep eq2 l0 l4 ow0 ow4 W (HR0.out.kept kk) (HR1.out.kept kk))
    have HS2 := Lib.hid (fun (W : World) (kk : Keep (fun _ => False) W11 W) => refSame_any _ _ ep eq2 l0 l4 ow0 ow4 W (HR0.out.kept kk) (HR1.out.kept kk))
    have HP1 : Hid (∀ W, Keep (fun _ => False) W11 W → Calls Tryd.prog 32 #[.string ky] W fun e w' => e = .returned (.int .i64 (pt ky : Nat)) ∧ Keep (fun _ => False) W w') := Lib.hid (fun W kk => (point_any ky HKS0.out W (HTF.out.kept kk)).mono (fun e w' ⟨h1, h2⟩ => ⟨h1, h2 ▸ Keep.refl _ _⟩))
    have HP2 : Hid (∀ W, Keep (fun _ => False) W11 W → Calls Tryd.prog 33 #[.string ky] W fun e w' => e = .returned (.int .i64 (pt ky : Nat)) ∧ Keep (fun _ => False) W w') := Lib.hid (fun W kk => (refPoint_any ky HKS0.out W).mono (fun e w' ⟨h1, h2⟩ => ⟨h1, h2 ▸ Keep.refl _ _⟩))
    have HQ1 : Hid (∀ W, Keep (fun _ => False) W11 W → Calls Tryd.prog 34 #[.string ky] W fun e w' => e = .returned (.int .i64 (slotOf ky : Nat)) ∧ Keep (fun _ => False) W w') := Lib.hid (fun W kk => (slot_any ky HKS0.out W (HTF.out.kept kk)).mono (fun e w' ⟨h1, h2⟩ => ⟨h1, h2 ▸ Keep.refl _ _⟩))
    have HQ2 : Hid (∀ W, Keep (fun _ => False) W11 W → Calls Tryd.prog 35 #[.string ky] W fun e w' => e = .returned (.int .i64 (slotOf ky : Nat)) ∧ Keep (fun _ => False) W w') := Lib.hid (fun W kk => (refSlot_any ky HKS0.out W).mono (fun e w' ⟨h1, h2⟩ => ⟨h1, h2 ▸ Keep.refl _ _⟩))
    clear HMF HOF HMG HOG HR0 HR1 HTF HKS0
    generalize validRB ep l0 ow0 = bv at *
    generalize ownerOf ow0 ky = no at *
    generalize cnt ow0 nd = nl at *
    generalize (decide (ep = eq2) && (decide (l0 = l4) && decide (ow0 = ow4))) = bs at *
    obtain ⟨np, hnp⟩ : ∃ n : Int, ((pt ky : Nat) : Int) = n := ⟨_, rfl⟩
    obtain ⟨ns, hns⟩ : ∃ n : Int, ((slotOf ky : Nat) : Int) = n := ⟨_, rfl⟩
    rw [hnp] at HP1 HP2
    rw [hns] at HQ1 HQ2
    clear hnp hns
    have e1 : (bv == bv) = true := by simp
    have e2 : (no == no) = true := by simp
    have e3 : (nl == nl) = true := by simp
    have e4 : (bs == bs) = true := by simp
    have e5 : (np == np) = true := by simp
    have e6 : (ns == ns) = true := by simp
    have zx0 : ∀ p : KW W11, p.val.cell? ⟨z, 0, none⟩ = some (.int .i64 ep) := fun p => p.k.cell HXF.out.1 (fun h => h)
    have zx1 : ∀ p : KW W11, p.val.cell? ⟨z, 1, none⟩ = some (.slice ga q0 gc) := fun p => p.k.cell HXF.out.2.1 (fun h => h)
    have zx2 : ∀ p : KW W11, p.val.cell? ⟨z, 2, none⟩ = some (.slice gb q1 gd) := fun p => p.k.cell HXF.out.2.2.1 (fun h => h)
    have zy0 : ∀ p : KW W11, p.val.cell? ⟨z + 1, 0, none⟩ = some (.int .i64 eq2) := fun p => p.k.cell HYF.out.1 (fun h => h)
    have zy1 : ∀ p : KW W11, p.val.cell? ⟨z + 1, 1, none⟩ = some (.slice ga q0 gc) := fun p => p.k.cell HYF.out.2.1 (fun h => h)
    have zy2 : ∀ p : KW W11, p.val.cell? ⟨z + 1, 2, none⟩ = some (.slice ge q1 gf) := fun p => p.k.cell HYF.out.2.2.1 (fun h => h)
    go_upto_region 10 with (fail)
    refine wp_region_quiet_kept (by kernel_rfl) (by kernel_rfl) ?_
    repeat (quiet_step (first | (go_at_call 25; with_reducible refine Calls.kept_of (HV1.out _ (KW.k _))) | (go_at_call 26; with_reducible refine Calls.kept_of (HV2.out _ (KW.k _))) | (go_at_call 27; with_reducible refine Calls.kept_of (HO1.out _ (KW.k _))) | (go_at_call 28; with_reducible refine Calls.kept_of (HO2.out _ (KW.k _))) | (go_at_call 29; with_reducible refine Calls.kept_of (HL1.out _ (KW.k _))) | (go_at_call 30; with_reducible refine Calls.kept_of (HL2.out _ (KW.k _))) | (go_at_call 31; with_reducible refine Calls.kept_of (HS1.out _ (KW.k _))) | (go_at_call 24; with_reducible refine Calls.kept_of (HS2.out _ (KW.k _))) | (go_at_call 32; with_reducible refine Calls.kept_of (HP1.out _ (KW.k _))) | (go_at_call 33; with_reducible refine Calls.kept_of (HP2.out _ (KW.k _))) | (go_at_call 34; with_reducible refine Calls.kept_of (HQ1.out _ (KW.k _))) | (go_at_call 35; with_reducible refine Calls.kept_of (HQ2.out _ (KW.k _)))))
    refine wpQuiet_nil ?_
    rintro _ ⟨p, rfl⟩
    go_wp2_with fail
    go_ret
    exact ⟨by first | rfl | simp, HKF.out.trans p.k⟩
end Go.Proofs.YtplkmbfeeegaiaaDoor
