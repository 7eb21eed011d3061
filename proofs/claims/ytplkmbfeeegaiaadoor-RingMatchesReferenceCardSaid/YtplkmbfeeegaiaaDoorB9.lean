/-
  sane: the plain examples of package ring.
-/
import Derived.Test.YtplkmbfeeegaiaaDoorB8
import Derived.Test.YtplkmbfeeegaiaaDoorG8
namespace Go.Proofs.YtplkmbfeeegaiaaDoor
open Go.RowKit Go.Shelf

def V3 : List Mb := [⟨0, 0, 1⟩, ⟨1, 0, 1⟩, ⟨2, 0, 2⟩]
def V1 : List Mb := [⟨0, 0, 1⟩]
def VB : List Mb := [⟨3, 0, 1⟩, ⟨1, 0, 1⟩]
theorem V3_ok : VL V3 := (validL_iff _).1 (by decide)
theorem V1_ok : VL V1 := (validL_iff _).1 (by decide)
theorem VB_bad : ¬ VL VB := fun h => absurd ((validL_iff _).2 h) (by decide)
theorem V3_mems : memsL [1, 1, 2] 3 = V3 := rfl
theorem V1_mems : memsL [1] 1 = V1 := rfl
theorem V3_lim : limitL V3 2 = 40 ∧ limitL V3 1 = 20 ∧ limitL V3 5 = 0 := by decide
theorem cnt_cons (a : Int) (l : List Int) (n : Int) : cnt (a :: l) n = cnt l n + if n = a then 1 else 0 := by
  unfold cnt
  rw [List.count_cons]
  by_cases h : n = a
  · subst h; simp
  · rw [if_neg h, if_neg (by simpa using fun e : a = n => h e.symm)]; simp
theorem cnt_three : ∀ (ow : List Int), (∀ n ∈ ow, n = 0 ∨ n = 1 ∨ n = 2) → cnt ow 0 + cnt ow 1 + cnt ow 2 = ow.length
  | [], _ => by simp [cnt]
  | a :: l, h => by
    have ih := cnt_three l (fun n hn => h n (List.mem_cons_of_mem _ hn))
    simp only [cnt_cons, List.length_cons]
    rcases h a (List.mem_cons_self ..) with rfl | rfl | rfl <;> simp <;> omega
theorem V3_cnt : cnt (ownersL PN QS V3) 0 + cnt (ownersL PN QS V3) 1 + cnt (ownersL PN QS V3) 2 = 64 := by
  obtain ⟨h1, h2, h3⟩ := owners_ok PN QS V3_ok
  rw [cnt_three, h1]; rfl
  intro n hn
  obtain ⟨m, hm, rfl⟩ := h3 n hn
  simp only [V3, List.mem_cons, List.not_mem_nil, or_false] at hm
  rcases hm with rfl | rfl | rfl <;> simp
theorem V1_owner : (ownersL PN QS V1)[63]? = some 0 := by
  obtain ⟨h1, h2, h3⟩ := owners_ok PN QS V1_ok
  obtain ⟨x, hx⟩ : ∃ x, (ownersL PN QS V1)[63]? = some x := ⟨_, List.getElem?_eq_getElem (by omega)⟩
  obtain ⟨m, hm, rfl⟩ := h3 x (List.mem_of_getElem? hx)
  simp only [V1, List.mem_cons, List.not_mem_nil, or_false] at hm
  subst hm
  exact hx
theorem V3_ring : validRB 7 V3 (ownersL PN QS V3) = true := (validRB_iff _ _ _).2 ⟨by decide, by decide, V3_ok, (owners_ok PN QS V3_ok).1, (owners_ok PN QS V3_ok).2.1⟩
theorem nil_ring : validRB 0 [] [] = false := by decide
theorem nil_rng (W : World) : Rng W (ringV 0 (.slice none 0 0) (.slice none 0 0)) 0 [] [] := ⟨by unfold I64; decide, _, _, rfl, ⟨by simp, by simp, none, 0, 0, 0, rfl, by simp, fun h => by simp at h, fun j x hj => by simp at hj⟩, Its.nil W⟩
theorem OwnB.mbs {w W : World} {l : List Mb} {v : Value} (h : OwnB w l v W) (hv : VL l) : Mbs W v l := mbs_owns h.2 (by have := hv.len; omega) hv.bd

set_option maxRecDepth 100000 in
set_option maxHeartbeats 8000000 in
theorem sane_any (w : World) (hT : Tab w) : Calls Tryd.prog 14 #[] w fun e w' => e = .returned (.bool true) ∧ Keep (fun _ => False) w w' := by
  have HT := Lib.hid hT
  clear hT
  go_enter Tryd.func14, Tryd.ntmps14
  go_wp2_with fail
  have k0 : Keep (fun _ => False) w (w.alloc (.cells #[.int .i64 1, .int .i64 1, .int .i64 2] 3)) := (Keep.refl _ w).alloc _
  have i0 : Its (w.alloc (.cells #[.int .i64 1, .int .i64 1, .int .i64 2] 3)) (.slice (some ⟨w.heap.size, 0, none⟩) 3 3) [1, 1, 2] := its_new w [1, 1, 2] (by decide) (by unfold I64; decide)
  with_reducible refine (members_any _ [1, 1, 2] _ i0 (by decide)).mono ?_
  rintro e W1 ⟨v1, rfl, ho1⟩
  have HM : Hid (Mbs W1 v1 V3) := Lib.hid (OwnB.mbs (l := V3) ho1 V3_ok)
  have HK1 : Hid (Keep (fun _ => False) w W1) := Lib.hid (k0.trans ho1.1)
  clear k0 i0 ho1
  have hf : ∃ a n c, v1 = .slice a n c := by
    obtain ⟨-, -, a, c, b, off, rfl, -⟩ := HM.out
    exact ⟨_, _, _, rfl⟩
  obtain ⟨a1, n1, c1, rfl⟩ := hf
  go_wp2_with fail
  have k1 : Keep (fun _ => False) W1 (W1.alloc (.cells #[.int .i64 1] 3)) := (Keep.refl _ W1).alloc _
  have i1 : Its (W1.alloc (.cells #[.int .i64 1] 3)) (.slice (some ⟨W1.heap.size, 0, none⟩) 1 1) [1] := its_new W1 [1] (by decide) (by unfold I64; decide)
  with_reducible refine (members_any _ [1] _ i1 (by decide)).mono ?_
  rintro e W2 ⟨v2, rfl, ho2⟩
  have HM2 : Hid (Mbs W2 v2 V1) := Lib.hid (OwnB.mbs (l := V1) ho2 V1_ok)
  have HK2 : Hid (Keep (fun _ => False) W1 W2) := Lib.hid (k1.trans ho2.1)
  clear k1 i1 ho2
  have hf : ∃ a n c, v2 = .slice a n c := by
    obtain ⟨-, -, a, c, b, off, rfl, -⟩ := HM2.out
    exact ⟨_, _, _, rfl⟩
  obtain ⟨a2, n2, c2, rfl⟩ := hf
  go_wp2_with fail
  with_reducible refine (assign_ok _ V1 _ HM2.out V1_ok (HT.out.kept (HK1.out.trans HK2.out))).mono ?_
  rintro e W3 ⟨vo, rfl, ho3, k3⟩
  have HK3 := Lib.hid (HK2.out.trans k3)
  have HI := Lib.hid (its_owns ho3 (by rw [(owners_ok PN QS V1_ok).1]; decide) V1_ok.obd)
  clear k3 ho3
  have hf : ∃ b off c, vo = .slice (some ⟨b, off, none⟩) 64 c ∧ 64 ≤ c ∧ W3.cell? ⟨b, off + 63, none⟩ = some (.int .i64 0) := by
    obtain ⟨-, -, a, c, b, off, rfl, hc, ha, hcell⟩ := HI.out
    have hl := (owners_ok PN QS V1_ok).1
    rw [hl] at hc ⊢
    obtain rfl := ha (by omega)
    exact ⟨b, off, c, rfl, hc, hcell 63 0 V1_owner⟩
  obtain ⟨bo, oo, co, rfl, hco, hcell63⟩ := hf
  have HC63 := Lib.hid hcell63
  clear hcell63 HI
  go_wp2_with fail
  have k3 : Keep (fun _ => False) W3 (W3.alloc (.cells #[.int .i64 3, .int .i64 0, .int .i64 1, .int .i64 1, .int .i64 0, .int .i64 1] 25)) := (Keep.refl _ W3).alloc _
  have i3 : Mbs (W3.alloc (.cells #[.int .i64 3, .int .i64 0, .int .i64 1, .int .i64 1, .int .i64 0, .int .i64 1] 25)) (.slice (some ⟨W3.heap.size, 0, none⟩) 2 2) VB := mbs_owns (lo := W3.heap.size) (World.ownsRow_lit W3 #[.int .i64 3, .int .i64 0, .int .i64 1, .int .i64 1, .int .i64 0, .int .i64 1] 2 (Nat.le_refl _) (by decide) rfl) (by decide) (by unfold I64; decide)
  with_reducible refine (assign_bad _ VB _ i3 VB_bad).mono ?_
  rintro e W4 ⟨rfl, k4⟩
  have HK4 := Lib.hid (HK3.out.trans (k3.trans k4))
  have HC4 := Lib.hid ((k3.trans k4).cell HC63.out (fun h => h))
  clear k3 i3 k4 HC63
  have hm4 := HM.out.kept HK4.out
  have ht4 := HT.out.kept (HK1.out.trans HK4.out)
  have HNW := Lib.hid (new_ok 7 _ V3 _ hm4 V3_ok ht4 (by decide))
  clear hm4 ht4
  go_wp2_with fail
  with_reducible refine HNW.out.mono ?_
  rintro e W5 ⟨vm, vo, rfl, hm5, ho5, -, k5⟩
  have HR5 : Hid (Rng W5 (ringV 7 vm vo) 7 V3 (ownersL PN QS V3)) := Lib.hid ⟨by unfold I64; decide, _, _, rfl, mbs_owns hm5 (by have := V3_ok.len; omega) V3_ok.bd, its_owns ho5 (by rw [(owners_ok PN QS V3_ok).1]; decide) V3_ok.obd⟩
  have HK5 := Lib.hid (HK4.out.trans k5)
  have HC5 := Lib.hid (k5.cell HC4.out (fun h => h))
  clear hm5 ho5 k5 HNW
  have hf : (∃ a n c, vm = .slice a n c) ∧ ∃ b off c, vo = .slice (some ⟨b, off, none⟩) 64 c ∧ 64 ≤ c ∧ ∀ (j : Nat) (x : Int), (ownersL PN QS V3)[j]? = some x → W5.cell? ⟨b, off + j, none⟩ = some (.int .i64 x) := by
    obtain ⟨-, vm', vo', e, hm, ho⟩ := HR5.out
    cases e
    constructor
    · obtain ⟨-, -, a, c, b, off, rfl, -⟩ := hm
      exact ⟨_, _, _, rfl⟩
    · obtain ⟨-, -, a, c, b, off, rfl, hc, ha, hcell⟩ := ho
      have hl := (owners_ok PN QS V3_ok).1
      rw [hl] at hc ⊢
      obtain rfl := ha (by omega)
      exact ⟨b, off, c, rfl, hc, hcell⟩
  obtain ⟨⟨am, nm, cm, rfl⟩, br, or_, cr, rfl, hcr, hcellr⟩ := hf
  have HCR := Lib.hid hcellr
  clear hcellr
  have HT3 := Lib.hid (three_cell W5 (.int .i64 0) (.slice none 0 0) (.slice none 0 0) 31)
  have HKA : Hid (Keep (fun _ => False) W5 (W5.alloc (.cells #[.int .i64 0, .slice none 0 0, .slice none 0 0] 31))) := Lib.hid ((Keep.refl _ W5).alloc _)
  clear HT3 HKA
  go_wp2_with fail
  have HB6 : Hid (_ ∧ _ ∧ _ ∧ _) := Lib.hid (three_cell W5 (.int .i64 7) (.slice am nm cm) (.slice (some ⟨br, or_, none⟩) 64 cr) 31)
  have k6 : Keep (fun _ => False) W5 (W5.alloc (.cells #[.int .i64 7, .slice am nm cm, .slice (some ⟨br, or_, none⟩) 64 cr] 31)) := (Keep.refl _ W5).alloc _
  have HK6 := Lib.hid k6
  clear k6
  generalize W5.alloc (.cells #[.int .i64 7, .slice am nm cm, .slice (some ⟨br, or_, none⟩) 64 cr] 31) = W6 at *
  generalize W5.heap.size = zr at *
  have hm6 := HM.out.kept (HK5.out.trans HK6.out)
  have ht6 := HT.out.kept (HK1.out.trans (HK5.out.trans HK6.out))
  with_reducible refine (new_epoch 0 _ V3 _ hm6 V3_ok ht6 (by decide)).mono ?_
  rintro e W7 ⟨rfl, k7⟩
  clear hm6 ht6
  have HK7 := Lib.hid k7
  clear k7
  go_wp2_with fail
  have k8 : Keep (fun _ => False) W7 (W7.alloc (.cells #[.int .i64 0, .slice none 0 0, .slice none 0 0] 31)) := (Keep.refl _ W7).alloc _
  have HK8 : Hid (Keep (fun _ => False) W5 (W7.alloc (.cells #[.int .i64 0, .slice none 0 0, .slice none 0 0] 31))) := Lib.hid (HK6.out.trans (HK7.out.trans k8))
  have HKB : Hid (Keep (fun _ => False) W6 (W7.alloc (.cells #[.int .i64 0, .slice none 0 0, .slice none 0 0] 31))) := Lib.hid (HK7.out.trans k8)
  clear k8
  generalize W7.alloc (.cells #[.int .i64 0, .slice none 0 0, .slice none 0 0] 31) = X0 at *
  have HF0 := Lib.hid (HKB.out.cell HB6.out.1 (fun h => h))
  have HF1 := Lib.hid (HKB.out.cell HB6.out.2.1 (fun h => h))
  have HF2 := Lib.hid (HKB.out.cell HB6.out.2.2.1 (fun h => h))
  have HC := Lib.hid (HK8.out.cell HC5.out (fun h => h))
  have HR := Lib.hid (HR5.out.kept HK8.out)
  have HMX := Lib.hid (HM.out.kept (HK5.out.trans HK8.out))
  have HTX := Lib.hid (HT.out.kept (HK1.out.trans (HK5.out.trans HK8.out)))
  have HCX := Lib.hid (fun (j : Nat) (x : Int) h => HK8.out.cell (HCR.out j x h) (fun h => h))
  have HKW := Lib.hid (HK1.out.trans (HK5.out.trans HK8.out))
  have HKX0 := Lib.hid (Keep.refl (fun _ => False) X0)
  simp only [List.append]
  clear HB6 HK6 HK7 HK8 HKB HC5 HCR HM HT HK1 HK2 HK3 HK4 HK5 HC4 HM2 HR5
  have HLIM2 : Hid (∀ W, Keep (fun _ => False) X0 W → Calls Tryd.prog 21 #[.slice a1 n1 c1, .int .i64 2] W fun e w' => e = .returned (.int .i64 40) ∧ Keep (fun _ => False) W w') := Lib.hid (fun W k => by
    have h := limit_any _ V3 _ (HMX.out.kept k) 2 (by unfold I64; decide)
    rwa [V3_lim.1] at h)
  have HLIM1 : Hid (∀ W, Keep (fun _ => False) X0 W → Calls Tryd.prog 21 #[.slice a1 n1 c1, .int .i64 1] W fun e w' => e = .returned (.int .i64 20) ∧ Keep (fun _ => False) W w') := Lib.hid (fun W k => by
    have h := limit_any _ V3 _ (HMX.out.kept k) 1 (by unfold I64; decide)
    rwa [V3_lim.2.1] at h)
  have HLIM5 : Hid (∀ W, Keep (fun _ => False) X0 W → Calls Tryd.prog 21 #[.slice a1 n1 c1, .int .i64 5] W fun e w' => e = .returned (.int .i64 0) ∧ Keep (fun _ => False) W w') := Lib.hid (fun W k => by
    have h := limit_any _ V3 _ (HMX.out.kept k) 5 (by unfold I64; decide)
    rwa [V3_lim.2.2] at h)
  have HVR : Hid (∀ W, Keep (fun _ => False) X0 W → Calls Tryd.prog 25 #[(ringV 7 (.slice am nm cm) (.slice (some ⟨br, or_, none⟩) 64 cr))] W fun e w' => e = .returned (.bool true) ∧ Keep (fun _ => False) W w') := Lib.hid (fun W k => by
    have h := validRing_any _ _ _ _ _ (HR.out.kept k)
    rwa [V3_ring] at h)
  have HVZ : Hid (∀ W, Keep (fun _ => False) X0 W → Calls Tryd.prog 25 #[(ringV 0 (.slice none 0 0) (.slice none 0 0))] W fun e w' => e = .returned (.bool false) ∧ Keep (fun _ => False) W w') := Lib.hid (fun W k => by
    have h := validRing_any _ _ _ _ _ (nil_rng W)
    rwa [nil_ring] at h)
  obtain ⟨sl, hsl⟩ : ∃ sl, slotOf ⟨#[120]⟩ = sl := ⟨_, rfl⟩
  have hsl64 : sl < 64 := by rw [← hsl]; exact slotOf_lt _
  have hslz : (sl : Int) < 64 := by omega
  have hsl0 : (0 : Int) ≤ (sl : Int) := by omega
  obtain ⟨ox, hox⟩ : ∃ ox, (ownersL PN QS V3)[sl]? = some ox := ⟨_, List.getElem?_eq_getElem (by rw [(owners_ok PN QS V3_ok).1]; exact hsl64)⟩
  have HOX : Hid (ownerOf (ownersL PN QS V3) ⟨#[120]⟩ = ox) := Lib.hid (by
    unfold ownerOf
    rw [if_pos (owners_ok PN QS V3_ok).1, hsl, List.getD_eq_getElem?_getD, hox]
    rfl)
  have HSL := Lib.hid hsl
  have HCS := Lib.hid (HCX.out sl ox hox)
  clear hsl hox HCX
  have HOW : Hid (∀ W, Keep (fun _ => False) X0 W → Calls Tryd.prog 27 #[(ringV 7 (.slice am nm cm) (.slice (some ⟨br, or_, none⟩) 64 cr)), .string ⟨#[120]⟩] W fun e w' => e = .returned (.int .i64 ox) ∧ Keep (fun _ => False) W w') := Lib.hid (fun W k => by
    have h := owner_any _ _ _ _ _ (HR.out.kept k) ⟨#[120]⟩ (by decide) (HTX.out.kept k)
    rwa [HOX.out] at h)
  have HOZ : Hid (∀ W, Keep (fun _ => False) X0 W → Calls Tryd.prog 27 #[(ringV 0 (.slice none 0 0) (.slice none 0 0)), .string ⟨#[120]⟩] W fun e w' => e = .returned (.int .i64 (-1)) ∧ Keep (fun _ => False) W w') := Lib.hid (fun W k => by
    exact owner_any _ _ _ _ _ (nil_rng W) ⟨#[120]⟩ (by decide) (HTX.out.kept k))
  have HSLOT : Hid (∀ W, Keep (fun _ => False) X0 W → Calls Tryd.prog 34 #[.string ⟨#[120]⟩] W fun e w' => e = .returned (.int .i64 (sl : Nat)) ∧ Keep (fun _ => False) W w') := Lib.hid (fun W k => by
    refine (slot_any ⟨#[120]⟩ (by decide) W (HTX.out.kept k)).mono ?_
    rintro e w' ⟨rfl, rfl⟩
    exact ⟨by rw [HSL.out], Keep.refl _ _⟩)
  obtain ⟨q0, hq0⟩ : ∃ q, cnt (ownersL PN QS V3) 0 = q := ⟨_, rfl⟩
  obtain ⟨q1, hq1⟩ : ∃ q, cnt (ownersL PN QS V3) 1 = q := ⟨_, rfl⟩
  obtain ⟨q2, hq2⟩ : ∃ q, cnt (ownersL PN QS V3) 2 = q := ⟨_, rfl⟩
  have hsum := V3_cnt
  have hn0 := cnt_nn (ownersL PN QS V3) 0
  have hn1 := cnt_nn (ownersL PN QS V3) 1
  have hn2 := cnt_nn (ownersL PN QS V3) 2
  rw [hq0] at hn0 hsum
  rw [hq1] at hn1 hsum
  rw [hq2] at hn2 hsum
  have HLD0 : Hid (∀ W, Keep (fun _ => False) X0 W → Calls Tryd.prog 29 #[(ringV 7 (.slice am nm cm) (.slice (some ⟨br, or_, none⟩) 64 cr)), .int .i64 0] W fun e w' => e = .returned (.int .i64 q0) ∧ Keep (fun _ => False) W w') := Lib.hid (fun W k => by
    have h := load_any _ _ _ _ _ (HR.out.kept k) 0
    rwa [hq0] at h)
  have HLD1 : Hid (∀ W, Keep (fun _ => False) X0 W → Calls Tryd.prog 29 #[(ringV 7 (.slice am nm cm) (.slice (some ⟨br, or_, none⟩) 64 cr)), .int .i64 1] W fun e w' => e = .returned (.int .i64 q1) ∧ Keep (fun _ => False) W w') := Lib.hid (fun W k => by
    have h := load_any _ _ _ _ _ (HR.out.kept k) 1
    rwa [hq1] at h)
  have HLD2 : Hid (∀ W, Keep (fun _ => False) X0 W → Calls Tryd.prog 29 #[(ringV 7 (.slice am nm cm) (.slice (some ⟨br, or_, none⟩) 64 cr)), .int .i64 2] W fun e w' => e = .returned (.int .i64 q2) ∧ Keep (fun _ => False) W w') := Lib.hid (fun W k => by
    have h := load_any _ _ _ _ _ (HR.out.kept k) 2
    rwa [hq2] at h)
  have HSM : Hid (∀ W, Keep (fun _ => False) X0 W → Calls Tryd.prog 31 #[(ringV 7 (.slice am nm cm) (.slice (some ⟨br, or_, none⟩) 64 cr)), (ringV 7 (.slice am nm cm) (.slice (some ⟨br, or_, none⟩) 64 cr))] W fun e w' => e = .returned (.bool true) ∧ Keep (fun _ => False) W w') := Lib.hid (fun W k => by
    have h := same_any _ _ _ _ _ _ _ _ _ (HR.out.kept k) (HR.out.kept k)
    simpa using h)
  have HSZ : Hid (∀ W, Keep (fun _ => False) X0 W → Calls Tryd.prog 31 #[(ringV 7 (.slice am nm cm) (.slice (some ⟨br, or_, none⟩) 64 cr)), (ringV 0 (.slice none 0 0) (.slice none 0 0))] W fun e w' => e = .returned (.bool false) ∧ Keep (fun _ => False) W w') := Lib.hid (fun W k => by
    have h := same_any _ _ _ _ _ _ _ _ _ (HR.out.kept k) (nil_rng W)
    simpa using h)
  clear hq0 hq1 hq2 HOX HSL
  have hw01 : IntKind.i64.wrap (q0 + q1) = q0 + q1 := wrapI (by unfold I64; omega)
  have hw012 : IntKind.i64.wrap (q0 + q1 + q2) = 64 := by rw [hsum]; exact wrapI (by unfold I64; decide)
  have cz0 : ∀ q : KA (fun _ => False) X0, q.val.cell? ⟨zr, 0, none⟩ = some (.int .i64 7) := fun q => q.k.cell HF0.out (fun h => h)
  have cz1 : ∀ q : KA (fun _ => False) X0, q.val.cell? ⟨zr, 1, none⟩ = some (.slice am nm cm) := fun q => q.k.cell HF1.out (fun h => h)
  have cz2 : ∀ q : KA (fun _ => False) X0, q.val.cell? ⟨zr, 2, none⟩ = some (.slice (some ⟨br, or_, none⟩) 64 cr) := fun q => q.k.cell HF2.out (fun h => h)
  have HCZ := Lib.hid (And.intro cz0 (And.intro cz1 cz2))
  clear cz0 cz1 cz2
  refine wp_region_walk [(false, 0), (false, 1), (false, 2), (false, 3), (false, 4), (false, 5), (false, 6), (false, 7), (false, 8), (false, 9), (false, 10), (false, 11), (false, 12), (false, 13), (false, 14), (false, 15), (false, 16), (false, 17), (false, 18), (false, 19), (false, 20), (false, 21), (false, 22), (false, 23), (false, 24), (false, 25), (false, 26), (false, 27), (false, 28), (false, 29), (false, 30), (false, 31), (false, 32), (false, 33), (false, 34), (false, 35), (false, 36), (false, 37), (false, 38), (false, 39), (false, 40), (false, 41), (false, 42), (false, 43), (false, 44), (false, 45), (false, 46), (false, 47), (false, 48), (false, 49), (true, 50), (true, 52), (true, 53), (false, 51), (false, 54), (false, 55), (false, 56), (false, 57), (false, 58), (false, 59), (true, 60), (true, 62), (true, 65), (false, 61), (false, 63), (true, 64), (false, 66), (false, 67), (false, 68), (false, 69), (false, 70), (true, 71), (false, 72), (false, 73), (false, 74), (false, 75), (true, 76), (false, 77), (false, 78), (false, 79), (false, 80), (false, 81), (false, 82), (false, 83), (false, 84), (false, 85), (false, 86), (false, 87), (false, 88), (false, 89), (false, 90), (false, 91)] (inKA (fun _ => False) X0) (by kernel_rfl) (walkFk_ok (by kernel_rfl)) ?_
  have HKX : Hid (Keep (fun _ => False) X0 X0.drew) := Lib.hid (Keep.refl _ X0).drew
  generalize X0.drew = Y0 at *
  refine walkW_do rfl (inKA.of HKX.out) (fun K hK => ?_); go_simp; refine hK _ _ ?_; clear hK K
  refine walkW_do rfl (inKA.of HKX.out) (fun K hK => ?_)
  go_simp
  refine (HLIM2.out _ HKX.out).mono ?_
  rintro e Y1 ⟨rfl, kx⟩
  refine hK _ _ ?_; clear hK K
  replace HKX := Lib.hid (HKX.out.trans kx)
  clear kx
  refine walkW_do rfl (inKA.of HKX.out) (fun K hK => ?_); go_simp; refine hK _ _ ?_; clear hK K
  refine walkW_do rfl (inKA.of HKX.out) (fun K hK => ?_); go_simp; refine hK _ _ ?_; clear hK K
  refine walkW_do rfl (inKA.of HKX.out) (fun K hK => ?_); go_simp; refine hK _ _ ?_; clear hK K
  refine walkW_do rfl (inKA.of HKX.out) (fun K hK => ?_)
  go_simp
  refine (HLIM1.out _ HKX.out).mono ?_
  rintro e Y5 ⟨rfl, kx⟩
  refine hK _ _ ?_; clear hK K
  replace HKX := Lib.hid (HKX.out.trans kx)
  clear kx
  refine walkW_do rfl (inKA.of HKX.out) (fun K hK => ?_); go_simp; refine hK _ _ ?_; clear hK K
  refine walkW_do rfl (inKA.of HKX.out) (fun K hK => ?_); go_simp; refine hK _ _ ?_; clear hK K
  refine walkW_do rfl (inKA.of HKX.out) (fun K hK => ?_); go_simp; refine hK _ _ ?_; clear hK K
  refine walkW_do rfl (inKA.of HKX.out) (fun K hK => ?_); go_simp; refine hK _ _ ?_; clear hK K
  refine walkW_do rfl (inKA.of HKX.out) (fun K hK => ?_)
  go_simp
  refine (HLIM5.out _ HKX.out).mono ?_
  rintro e Y10 ⟨rfl, kx⟩
  refine hK _ _ ?_; clear hK K
  replace HKX := Lib.hid (HKX.out.trans kx)
  clear kx
  refine walkW_do rfl (inKA.of HKX.out) (fun K hK => ?_); go_simp; refine hK _ _ ?_; clear hK K
  refine walkW_do rfl (inKA.of HKX.out) (fun K hK => ?_); go_simp; refine hK _ _ ?_; clear hK K
  refine walkW_do rfl (inKA.of HKX.out) (fun K hK => ?_); go_simp; refine hK _ _ ?_; clear hK K
  refine walkW_do rfl (inKA.of HKX.out) (fun K hK => ?_); go_simp; refine hK _ _ ?_; clear hK K
  refine walkW_do rfl (inKA.of HKX.out) (fun K hK => ?_); go_simp; refine hK _ _ ?_; clear hK K
  refine walkW_do rfl (inKA.of HKX.out) (fun K hK => ?_); go_simp; refine hK _ _ ?_; clear hK K
  refine walkW_do rfl (inKA.of HKX.out) (fun K hK => ?_); go_simp; refine hK _ _ ?_; clear hK K
  refine walkW_do rfl (inKA.of HKX.out) (fun K hK => ?_); go_simp; refine hK _ _ ?_; clear hK K
  refine walkW_do rfl (inKA.of HKX.out) (fun K hK => ?_); go_simp; refine hK _ _ ?_; clear hK K
  refine walkW_do rfl (inKA.of HKX.out) (fun K hK => ?_); go_simp; refine hK _ _ ?_; clear hK K
  refine walkW_do rfl (inKA.of HKX.out) (fun K hK => ?_); go_simp; refine hK _ _ ?_; clear hK K
  refine walkW_do rfl (inKA.of HKX.out) (fun K hK => ?_); go_simp; refine hK _ _ ?_; clear hK K
  refine walkW_do rfl (inKA.of HKX.out) (fun K hK => ?_); go_simp; refine hK _ _ ?_; clear hK K
  refine walkW_do rfl (inKA.of HKX.out) (fun K hK => ?_); go_simp; refine hK _ _ ?_; clear hK K
  have c63 := HKX.out.cell HC.out (fun h => h)
  refine walkW_do rfl (inKA.of HKX.out) (fun K hK => ?_); go_simp; refine hK _ _ ?_; clear hK K
  clear c63
  refine walkW_do rfl (inKA.of HKX.out) (fun K hK => ?_); go_simp; refine hK _ _ ?_; clear hK K
  refine walkW_do rfl (inKA.of HKX.out) (fun K hK => ?_); go_simp; refine hK _ _ ?_; clear hK K
  refine walkW_do rfl (inKA.of HKX.out) (fun K hK => ?_); go_simp; refine hK _ _ ?_; clear hK K
  refine walkW_do rfl (inKA.of HKX.out) (fun K hK => ?_); go_simp; refine hK _ _ ?_; clear hK K
  refine walkW_do rfl (inKA.of HKX.out) (fun K hK => ?_); go_simp; refine hK _ _ ?_; clear hK K
  refine walkW_do rfl (inKA.of HKX.out) (fun K hK => ?_); go_simp; refine hK _ _ ?_; clear hK K
  refine walkW_do rfl (inKA.of HKX.out) (fun K hK => ?_); go_simp; refine hK _ _ ?_; clear hK K
  refine walkW_do rfl (inKA.of HKX.out) (fun K hK => ?_); go_simp; refine hK _ _ ?_; clear hK K
  refine walkW_do rfl (inKA.of HKX.out) (fun K hK => ?_); go_simp; refine hK _ _ ?_; clear hK K
  refine walkW_do rfl (inKA.of HKX.out) (fun K hK => ?_); go_simp; refine hK _ _ ?_; clear hK K
  refine walkW_do rfl (inKA.of HKX.out) (fun K hK => ?_); go_simp; refine hK _ _ ?_; clear hK K
  refine walkW_do rfl (inKA.of HKX.out) (fun K hK => ?_); go_simp; refine hK _ _ ?_; clear hK K
  have f0 := HKX.out.cell HF0.out (fun h => h)
  refine walkW_do rfl (inKA.of HKX.out) (fun K hK => ?_); go_simp; refine hK _ _ ?_; clear hK K
  clear f0
  refine walkW_do rfl (inKA.of HKX.out) (fun K hK => ?_); go_simp; refine hK _ _ ?_; clear hK K
  refine walkW_do rfl (inKA.of HKX.out) (fun K hK => ?_); go_simp; refine hK _ _ ?_; clear hK K
  refine walkW_do rfl (inKA.of HKX.out) (fun K hK => ?_); go_simp; refine hK _ _ ?_; clear hK K
  have f0 := HKX.out.cell HF0.out (fun h => h)
  have f1 := HKX.out.cell HF1.out (fun h => h)
  have f2 := HKX.out.cell HF2.out (fun h => h)
  refine walkW_do rfl (inKA.of HKX.out) (fun K hK => ?_); go_simp; refine hK _ _ ?_; clear hK K
  clear f0 f1 f2
  refine walkW_do rfl (inKA.of HKX.out) (fun K hK => ?_)
  go_simp
  refine (HVR.out _ HKX.out).mono ?_
  rintro e Y43 ⟨rfl, kx⟩
  refine hK _ _ ?_; clear hK K
  replace HKX := Lib.hid (HKX.out.trans kx)
  clear kx
  refine walkW_do rfl (inKA.of HKX.out) (fun K hK => ?_); go_simp; refine hK _ _ ?_; clear hK K
  refine walkW_do rfl (inKA.of HKX.out) (fun K hK => ?_); go_simp; refine hK _ _ ?_; clear hK K
  refine walkW_do rfl (inKA.of HKX.out) (fun K hK => ?_); go_simp; refine hK _ _ ?_; clear hK K
  refine walkW_do rfl (inKA.of HKX.out) (fun K hK => ?_); go_simp; refine hK _ _ ?_; clear hK K
  refine walkW_do rfl (inKA.of HKX.out) (fun K hK => ?_); go_simp; refine hK _ _ ?_; clear hK K
  refine walkW_do rfl (inKA.of HKX.out) (fun K hK => ?_); go_simp; refine hK _ _ ?_; clear hK K
  have cz0 := HCZ.out.1
  have cz1 := HCZ.out.2.1
  have cz2 := HCZ.out.2.2
  refine walkW_read rfl (fun K hK => ?_); go_simp; refine hK _ ?_; clear hK K
  clear cz0 cz1 cz2
  refine walkW_read rfl (fun K hK => ?_); go_simp; refine hK _ ?_; clear hK K
  have cz2 := HCZ.out.2.2
  refine walkW_read rfl (fun K hK => ?_); go_simp; refine hK _ ?_; clear hK K
  clear cz2
  refine walkW_do rfl (inKA.of HKX.out) (fun K hK => ?_)
  go_simp
  refine (HOW.out _ HKX.out).mono ?_
  rintro e Y51 ⟨rfl, kx⟩
  refine hK _ _ ?_; clear hK K
  replace HKX := Lib.hid (HKX.out.trans kx)
  clear kx
  refine walkW_do rfl (inKA.of HKX.out) (fun K hK => ?_)
  go_simp
  refine (HSLOT.out _ HKX.out).mono ?_
  rintro e Y54 ⟨rfl, kx⟩
  refine hK _ _ ?_; clear hK K
  replace HKX := Lib.hid (HKX.out.trans kx)
  clear kx
  refine walkW_do rfl (inKA.of HKX.out) (fun K hK => ?_); go_simp; refine hK _ _ ?_; clear hK K
  have cs := HKX.out.cell HCS.out (fun h => h)
  refine walkW_do rfl (inKA.of HKX.out) (fun K hK => ?_); go_simp; refine hK _ _ ?_; clear hK K
  clear cs
  refine walkW_do rfl (inKA.of HKX.out) (fun K hK => ?_); go_simp; refine hK _ _ ?_; clear hK K
  refine walkW_do rfl (inKA.of HKX.out) (fun K hK => ?_); go_simp; refine hK _ _ ?_; clear hK K
  refine walkW_do rfl (inKA.of HKX.out) (fun K hK => ?_); go_simp; refine hK _ _ ?_; clear hK K
  have cz0 := HCZ.out.1
  have cz1 := HCZ.out.2.1
  have cz2 := HCZ.out.2.2
  refine walkW_read rfl (fun K hK => ?_); go_simp; refine hK _ ?_; clear hK K
  clear cz0 cz1 cz2
  have cz0 := HCZ.out.1
  have cz1 := HCZ.out.2.1
  have cz2 := HCZ.out.2.2
  refine walkW_read rfl (fun K hK => ?_); go_simp; refine hK _ ?_; clear hK K
  clear cz0 cz1 cz2
  have cz0 := HCZ.out.1
  have cz1 := HCZ.out.2.1
  have cz2 := HCZ.out.2.2
  refine walkW_read rfl (fun K hK => ?_); go_simp; refine hK _ ?_; clear hK K
  clear cz0 cz1 cz2
  refine walkW_do rfl (inKA.of HKX.out) (fun K hK => ?_)
  go_simp
  refine (HLD0.out _ HKX.out).mono ?_
  rintro e Y61 ⟨rfl, kx⟩
  refine hK _ _ ?_; clear hK K
  replace HKX := Lib.hid (HKX.out.trans kx)
  clear kx
  refine walkW_do rfl (inKA.of HKX.out) (fun K hK => ?_)
  go_simp
  refine (HLD1.out _ HKX.out).mono ?_
  rintro e Y63 ⟨rfl, kx⟩
  refine hK _ _ ?_; clear hK K
  replace HKX := Lib.hid (HKX.out.trans kx)
  clear kx
  refine walkW_read rfl (fun K hK => ?_); go_simp; refine hK _ ?_; clear hK K
  refine walkW_do rfl (inKA.of HKX.out) (fun K hK => ?_)
  go_simp
  refine (HLD2.out _ HKX.out).mono ?_
  rintro e Y66 ⟨rfl, kx⟩
  refine hK _ _ ?_; clear hK K
  replace HKX := Lib.hid (HKX.out.trans kx)
  clear kx
  refine walkW_do rfl (inKA.of HKX.out) (fun K hK => ?_); go_simp; refine hK _ _ ?_; clear hK K
  refine walkW_do rfl (inKA.of HKX.out) (fun K hK => ?_); go_simp; refine hK _ _ ?_; clear hK K
  refine walkW_do rfl (inKA.of HKX.out) (fun K hK => ?_); go_simp; refine hK _ _ ?_; clear hK K
  refine walkW_do rfl (inKA.of HKX.out) (fun K hK => ?_); go_simp; refine hK _ _ ?_; clear hK K
  have cz0 := HCZ.out.1
  have cz1 := HCZ.out.2.1
  have cz2 := HCZ.out.2.2
  refine walkW_read rfl (fun K hK => ?_); go_simp; refine hK _ ?_; clear hK K
  clear cz0 cz1 cz2
  have f0 := HKX.out.cell HF0.out (fun h => h)
  have f1 := HKX.out.cell HF1.out (fun h => h)
  have f2 := HKX.out.cell HF2.out (fun h => h)
  refine walkW_do rfl (inKA.of HKX.out) (fun K hK => ?_); go_simp; refine hK _ _ ?_; clear hK K
  clear f0 f1 f2
  refine walkW_do rfl (inKA.of HKX.out) (fun K hK => ?_)
  go_simp
  refine (HSM.out _ HKX.out).mono ?_
  rintro e Y73 ⟨rfl, kx⟩
  refine hK _ _ ?_; clear hK K
  replace HKX := Lib.hid (HKX.out.trans kx)
  clear kx
  refine walkW_do rfl (inKA.of HKX.out) (fun K hK => ?_); go_simp; refine hK _ _ ?_; clear hK K
  refine walkW_do rfl (inKA.of HKX.out) (fun K hK => ?_); go_simp; refine hK _ _ ?_; clear hK K
  have cz0 := HCZ.out.1
  have cz1 := HCZ.out.2.1
  have cz2 := HCZ.out.2.2
  refine walkW_read rfl (fun K hK => ?_); go_simp; refine hK _ ?_; clear hK K
  clear cz0 cz1 cz2
  refine walkW_do rfl (inKA.of HKX.out) (fun K hK => ?_); go_simp; refine hK _ _ ?_; clear hK K
  refine walkW_do rfl (inKA.of HKX.out) (fun K hK => ?_)
  go_simp
  refine (HSZ.out _ HKX.out).mono ?_
  rintro e Y78 ⟨rfl, kx⟩
  refine hK _ _ ?_; clear hK K
  replace HKX := Lib.hid (HKX.out.trans kx)
  clear kx
  refine walkW_do rfl (inKA.of HKX.out) (fun K hK => ?_); go_simp; refine hK _ _ ?_; clear hK K
  refine walkW_do rfl (inKA.of HKX.out) (fun K hK => ?_); go_simp; refine hK _ _ ?_; clear hK K
  refine walkW_do rfl (inKA.of HKX.out) (fun K hK => ?_); go_simp; refine hK _ _ ?_; clear hK K
  refine walkW_do rfl (inKA.of HKX.out) (fun K hK => ?_); go_simp; refine hK _ _ ?_; clear hK K
  refine walkW_do rfl (inKA.of HKX.out) (fun K hK => ?_)
  go_simp
  refine (HVZ.out _ HKX.out).mono ?_
  rintro e Y83 ⟨rfl, kx⟩
  refine hK _ _ ?_; clear hK K
  replace HKX := Lib.hid (HKX.out.trans kx)
  clear kx
  refine walkW_do rfl (inKA.of HKX.out) (fun K hK => ?_); go_simp; refine hK _ _ ?_; clear hK K
  refine walkW_do rfl (inKA.of HKX.out) (fun K hK => ?_); go_simp; refine hK _ _ ?_; clear hK K
  refine walkW_do rfl (inKA.of HKX.out) (fun K hK => ?_); go_simp; refine hK _ _ ?_; clear hK K
  refine walkW_do rfl (inKA.of HKX.out) (fun K hK => ?_); go_simp; refine hK _ _ ?_; clear hK K
  refine walkW_do rfl (inKA.of HKX.out) (fun K hK => ?_)
  go_simp
  refine (HOZ.out _ HKX.out).mono ?_
  rintro e Y88 ⟨rfl, kx⟩
  refine hK _ _ ?_; clear hK K
  replace HKX := Lib.hid (HKX.out.trans kx)
  clear kx
  refine walkW_do rfl (inKA.of HKX.out) (fun K hK => ?_); go_simp; refine hK _ _ ?_; clear hK K
  refine walkW_do rfl (inKA.of HKX.out) (fun K hK => ?_); go_simp; refine hK _ _ ?_; clear hK K
  refine walkW_do rfl (inKA.of HKX.out) (fun K hK => ?_); go_simp; refine hK _ _ ?_; clear hK K
  refine ⟨inKA.of HKX.out, ?_⟩
  go_wp2_with fail
  go_ret
  exact ⟨rfl, HKW.out.trans HKX.out⟩
end Go.Proofs.YtplkmbfeeegaiaaDoor
