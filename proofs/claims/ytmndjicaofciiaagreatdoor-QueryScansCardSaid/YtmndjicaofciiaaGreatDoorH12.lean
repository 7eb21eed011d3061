/-
  Conditions on rows; chosen, Rows, Range of package store.
-/
import Derived.Test.YtmndjicaofciiaaGreatDoorH11
import Derived.Deep.LoopGhost
namespace Go.Proofs.YtmndjicaofciiaaGreatDoor
open Go.RowKit Go.Shelf
open Go.Sort (grow)

set_option maxRecDepth 100000 in
set_option maxHeartbeats 1000000 in
theorem rowsF_any (r : R5) (zt : Nat) (t : Int) (w : World) (h : w.cell? ⟨zt, 0, none⟩ = some (.int .i64 t)) : Calls Tryz.prog 20 #[rowV r, ptr zt] w fun e w' => e = .returned (.bool (ofT t r)) ∧ Keep (fun _ => False) w w' := by
  have HK := Lib.hid (keep_cells w (rowC r).toArray 37)
  have HB := Lib.hid (BoxL.new w (rowC r) 37)
  have HC := Lib.hid (HK.out.cell h (fun h => h))
  obtain ⟨b, hb⟩ : ∃ b, ofT t r = b := ⟨_, rfl⟩
  have HO := Lib.hid hb
  have hbe : (r.tb == t) = b := by rw [← hb]; rfl
  clear h hb
  obtain ⟨r0, r1, r2, r3, r4⟩ := r
  simp only [] at hbe
  go_enter Tryz.func20, Tryz.ntmps20
  go_upto_region 1 with (fail)
  have e1 : w.alloc (.cells #[.int .i64 r0, .int .i64 r1, .int .i64 r2, .int .i64 r3, .int .i64 r4] 37) = w.alloc (.cells (rowC ⟨r0, r1, r2, r3, r4⟩).toArray 37) := rfl
  rw [e1]
  clear e1
  generalize w.alloc (.cells (rowC ⟨r0, r1, r2, r3, r4⟩).toArray 37) = W at *
  generalize w.heap.size = z at *
  obtain ⟨c0, -, -, -, -⟩ := HB.out.row
  simp only [] at c0
  have c1 := HC.out
  go_wp2_with fail
  go_ret
  exact ⟨by rw [HO.out]; rfl, HK.out⟩
theorem inR_eq (t c lo hi : Int) (r : R5) : inR t c lo hi r = (decide (r.tb = t) && decide (lo ≤ r.val c) && decide (r.val c ≤ hi)) := rfl
set_option maxRecDepth 100000 in
set_option maxHeartbeats 1000000 in
theorem rangeF_any (r : R5) (zc zt zl zh : Nat) (c t lo hi : Int) (w : World) (h1 : w.cell? ⟨zc, 0, none⟩ = some (.int .i64 c)) (h2 : w.cell? ⟨zt, 0, none⟩ = some (.int .i64 t)) (h3 : w.cell? ⟨zl, 0, none⟩ = some (.int .i64 lo)) (h4 : w.cell? ⟨zh, 0, none⟩ = some (.int .i64 hi)) :
    Calls Tryz.prog 19 #[rowV r, ptr zc, ptr zt, ptr zl, ptr zh] w fun e w' => e = .returned (.bool (inR t c lo hi r)) ∧ Keep (fun _ => False) w w' := by
  have HK := Lib.hid (keep_cells w (rowC r).toArray 37)
  have HB := Lib.hid (BoxL.new w (rowC r) 37)
  have H1 := Lib.hid (HK.out.cell h1 (fun h => h))
  have H2 := Lib.hid (HK.out.cell h2 (fun h => h))
  have H3 := Lib.hid (HK.out.cell h3 (fun h => h))
  have H4 := Lib.hid (HK.out.cell h4 (fun h => h))
  have HV := Lib.hid (value_kept r c)
  have HO : Hid (inR t c lo hi r = ((r.tb == t) && decide (lo ≤ r.val c) && decide (r.val c ≤ hi))) := Lib.hid rfl
  clear h1 h2 h3 h4
  generalize r.val c = vl at *
  obtain ⟨r0, r1, r2, r3, r4⟩ := r
  have HO2 : Hid (inR t c lo hi ⟨r0, r1, r2, r3, r4⟩ = ((r0 == t) && decide (lo ≤ vl) && decide (vl ≤ hi))) := Lib.hid HO.out
  clear HO
  go_enter Tryz.func19, Tryz.ntmps19
  go_upto_region 1 with (fail)
  have e1 : w.alloc (.cells #[.int .i64 r0, .int .i64 r1, .int .i64 r2, .int .i64 r3, .int .i64 r4] 37) = w.alloc (.cells (rowC ⟨r0, r1, r2, r3, r4⟩).toArray 37) := rfl
  rw [e1]
  clear e1
  generalize w.alloc (.cells (rowC ⟨r0, r1, r2, r3, r4⟩).toArray 37) = W at *
  generalize w.heap.size = z at *
  obtain ⟨c0, c1, c2, c3, c4⟩ := HB.out.row
  simp only [] at c0 c1 c2 c3 c4
  have d1 := H1.out
  go_wp2_with fail
  clear c0 c1 c2 c3 c4 d1
  with_reducible refine (HV.out W).mono ?_
  rintro e W2 ⟨rfl, k, -⟩
  have HK2 := Lib.hid (HK.out.trans k)
  have c0 := (HB.out.kept k).row.1
  simp only [] at c0
  have d2 := k.cell H2.out (fun h => h)
  have d3 := k.cell H3.out (fun h => h)
  have d4 := k.cell H4.out (fun h => h)
  clear k
  by_cases g1 : r0 = t
  · have gb : (r0 == t) = true := by simpa using g1
    rw [gb] at HO2
    clear g1
    by_cases g2 : lo ≤ vl
    · have HO3 : Hid (inR t c lo hi ⟨r0, r1, r2, r3, r4⟩ = decide (vl ≤ hi)) := Lib.hid (by rw [HO2.out, decide_eq_true g2]; rfl)
      go_wp2_with fail
      go_ret
      exact ⟨by rw [HO3.out]; rfl, HK2.out⟩
    · have HO3 : Hid (inR t c lo hi ⟨r0, r1, r2, r3, r4⟩ = false) := Lib.hid (by rw [HO2.out, decide_eq_false g2]; rfl)
      go_wp2_with fail
      go_ret
      exact ⟨by rw [HO3.out]; rfl, HK2.out⟩
  · have gb : (r0 == t) = false := by simpa using g1
    rw [gb] at HO2
    clear g1
    go_wp2_with fail
    go_ret
    exact ⟨by rw [HO2.out]; rfl, HK2.out⟩

/-! ### chosen -/
def encI (r : R5) : Value × Value := (idV r.tb r.ky, rowV r)
theorem list_idRel {l : List R5} (hn : (l.map R5.rid).Nodup) {left : List (Value × Value)} (h1 : (left.map (·.1)).Nodup) (h2 : ∀ k v, (k, v) ∈ left ↔ idRel l k v) : left.Perm (l.map encI) := by
  have hl : (l.map encI).Nodup := by
    rw [List.nodup_iff_pairwise_ne, List.pairwise_map] at hn ⊢
    refine hn.imp ?_
    intro a b hne e
    unfold encI at e
    rw [Prod.mk.injEq] at e
    obtain ⟨e1, e2⟩ := idV_inj e.1
    exact hne (by unfold R5.rid; rw [e1, e2])
  have hl2 : left.Nodup := by
    rw [List.nodup_iff_pairwise_ne, List.pairwise_map] at h1
    rw [List.nodup_iff_pairwise_ne]
    exact h1.imp (fun h e => h (by rw [e]))
  rw [List.perm_ext_iff_of_nodup hl2 hl]
  rintro ⟨k, v⟩
  rw [h2, List.mem_map]
  unfold idRel encI
  constructor
  · rintro ⟨r, hr, rfl, rfl⟩
    exact ⟨r, hr, rfl⟩
  · rintro ⟨r, hr, e⟩
    cases e
    exact ⟨r, hr, rfl, rfl⟩
/-- What chosen answers. -/
def ChosenP (R0 : List R5) (w : World) (e : Ending) (w' : World) : Prop := ∃ R v, e = .returned v ∧ R.Perm R0 ∧ Rws w' v R ∧ Keep (fun _ => False) w w'

set_option maxRecDepth 100000 in
set_option maxHeartbeats 4000000 in
theorem chosenT_any (z mb : Nat) (l : List R5) (p c : Int) (zt : Nat) (t : Int) (w : World) (h : StA w z mb l p) (hl : l.length ≤ 100000) (hc : w.cell? ⟨zt, 0, none⟩ = some (.int .i64 t)) :
    Calls Tryz.prog 18 #[ptr z, .int .i64 c, .func (.func 20) #[] #[ptr zt]] w (ChosenP (l.filter (ofT t)) w) := by
  have k0 := keep_cells w #[.int .i64 c] 3
  have hs := h.kept k0
  obtain ⟨ob, left, hrun, hrg, hnd, hmem⟩ := hs.mp.range (t := 59) Tryz.underlying59
  rw [World.size_alloc] at hrg hrun
  have hrg' := hrg.perm (list_idRel hs.nd hnd hmem)
  have kal : Keep (fun _ => False) (w.alloc (.cells #[.int .i64 c] 3)) ((w.alloc (.cells #[.int .i64 c] 3)).alloc ob) := (Keep.refl _ _).alloc ob
  have HRG := Lib.hid hrg'
  have HMB : Hid (mb < ((w.alloc (.cells #[.int .i64 c] 3)).alloc ob).heap.size) := Lib.hid (hrg'.lt.2.1)
  have HK1 := Lib.hid (k0.trans kal)
  have HZ : Hid (w.heap.size ≤ w.heap.size + 1) := Lib.hid (by omega)
  have hbc := (BoxL.new w [.int .i64 c] 3).kept kal
  have HBC := Lib.hid hbc
  have c0 := hs.box.cell 0 _ rfl
  have HCL := Lib.hid (fun (r : R5) (W : World) (k : Keep (fun _ => False) w W) => rowsF_any r zt t W (k.cell hc (fun h => h)))
  clear h k0 hs hrg hrg' hnd hmem kal hbc
  go_enter Tryz.func18, Tryz.ntmps18
  go_wp2_with fail
  clear c0 hrun
  generalize (w.alloc (.cells #[.int .i64 c] 3)).alloc ob = W4 at *
  obtain ⟨zc0, hzc0⟩ : ∃ z, w.heap.size = z := ⟨_, rfl⟩
  have HZC0 := Lib.hid hzc0
  rw [hzc0] at HBC HRG ⊢
  try rw [hzc0] at hrun
  clear hzc0
  go_loopg [7] l.length (fun gh v7 wr => ∃ S T : List R5, T.length = gh ∧ Hid (l.Perm (S ++ T)) ∧ Ranging Tryz.prog 65 wr mb (zc0 + 1) (idRel l) (T.map encI) ∧ Keep (fun i => i = (zc0 + 1)) W4 wr ∧ wr.ownsRow W4.heap.size 37 5 v7 (S.filter (ofT t)).length (flatR (S.filter (ofT t))))
  case atStart => exact ⟨[], l, rfl, Lib.hid (List.Perm.refl _), HRG.out, Keep.refl _ _, by simpa [flatR] using World.ownsRow_nil W4 W4.heap.size 37 5⟩
  case round =>
    obtain ⟨S, T, hT, HP, hr, hkr, how⟩ := hrel
    have HOW := Lib.hid how
    have HKR := Lib.hid hkr
    have HZR4 : Hid ((zc0 + 1) < W4.heap.size) := Lib.hid HRG.out.lt.1
    have HPL : Hid ((S.filter (ofT t)).length ≤ 100000) := Lib.hid (by
      have h1 := HP.out.length_eq
      rw [List.length_append] at h1
      have h2 := List.length_filter_le (ofT t) S
      omega)
    have HKW := Lib.hid (HK1.out.trans' hkr (fun i hi => .inr (by have h5 : i = (zc0 + 1) := hi; have := HZ.out; have := HZC0.out; omega)))
    have HVN : Hid (∀ b, u7.ownBlock = some b → W4.heap.size ≤ b) := Lib.hid (fun b hb => (how.lt b hb).1)
    clear how hkr
    rcases hr.next 0 with ⟨h0, hrun⟩ | ⟨k, v, left', w', hp, hR, hrun, hrg', kk, hsz, hen⟩
    · have hl0 : T = [] := by simpa using h0
      subst hl0
      have HP2 : Hid ((S.filter (ofT t)).Perm (l.filter (ofT t))) := Lib.hid (by
        have h1 := HP.out
        rw [List.append_nil] at h1
        exact (h1.filter _).symm)
      have HCW := Lib.hid ((HBC.out.keep HKR.out (by show ¬ zc0 = zc0 + 1; omega)).cell 0 _ rfl)
      have HVN2 : Hid (∀ b, u7.ownBlock = some b → zc0 ≠ b) := Lib.hid (fun b hb => by
        have h1 := HVN.out b hb
        have h2 := HBC.out.lt
        omega)
      clear hr h0 hT
      go_wp2_with fail
      clear hrun
      with_reducible refine (sort_rows (c := c) (zb := zc0) HOW.out HPL.out HCW.out HVN2.out).mono ?_
      rintro e W6 ⟨rfl, s, hs1, hs2, k6⟩
      have HS1 := Lib.hid hs1
      have HS2 := Lib.hid hs2
      have HK6 := Lib.hid k6
      clear hs1 hs2 k6
      go_wp2_with fail
      go_ret
      exact ⟨s, _, rfl, HS1.out.trans HP2.out, HS2.out, HKW.out.trans' HK6.out (fun i hi => .inr (by
        have h1 := HVN.out i hi
        have h2 := HK1.out.size
        omega))⟩
    · obtain ⟨x, hxT, hxe⟩ := List.mem_map.1 (hp.mem_iff.2 (List.mem_cons_self))
      unfold encI at hxe
      obtain ⟨rfl, rfl⟩ := (Prod.mk.injEq _ _ _ _).mp hxe
      obtain ⟨X, Y, rfl⟩ := List.append_of_mem hxT
      have hp2 : ((X ++ Y).map encI).Perm left' := by
        have h1 : ((X ++ x :: Y).map encI).Perm (encI x :: (X ++ Y).map encI) := (List.perm_middle).map encI
        have h2 := h1.symm.trans hp
        exact List.Perm.cons_inv h2
      have HRG2 := Lib.hid (hrg'.perm hp2.symm)
      have HKR2 := Lib.hid (HKR.out.trans kk)
      have HKW2 := Lib.hid (HKW.out.trans' kk (fun i hi => .inr (by have h5 : i = (zc0 + 1) := hi; have := HZ.out; have := HZC0.out; omega)))
      have HOW2 := Lib.hid (ownsRow_keep HOW.out kk (fun b hb e => by have h1 := HVN.out b hb; have h5 : b = (zc0 + 1) := e; have := HZR4.out; omega))
      have HLEN : Hid ((X ++ Y).length + 1 = gk) := Lib.hid (by rw [← hT]; simp; omega)
      have HPP : Hid (l.Perm ((S ++ [x]) ++ (X ++ Y))) := Lib.hid (HP.out.trans (by
        rw [List.append_assoc]
        exact List.Perm.append_left S List.perm_middle))
      clear hr hp hp2 hrg' hxT hxe hR kk hT HOW HKR HKW HRG hsz
      obtain ⟨x0, x1, x2, x3, x4⟩ := x
      go_upto_region 7 with (fail)
      clear hrun hen
      have kb := keep_cells w' (rowC ⟨x0, x1, x2, x3, x4⟩).toArray 37
      have HB5 := Lib.hid (BoxL.new w' (rowC ⟨x0, x1, x2, x3, x4⟩) 37)
      have HRG5 := Lib.hid (HRG2.out.of_heap (kb.block _ HRG2.out.lt.2.1 (fun h => h)) (kb.block _ HRG2.out.lt.1 (fun h => h)))
      have HKR5 := Lib.hid (HKR2.out.trans (kb.mono (fun _ h => h.elim)))
      have HKW5 := Lib.hid (HKW2.out.trans kb)
      have HOW5 := Lib.hid (ownsRow_keep HOW2.out kb (fun _ _ h => h))
      have e1 : w'.alloc (.cells #[.int .i64 x0, .int .i64 x1, .int .i64 x2, .int .i64 x3, .int .i64 x4] 37) = w'.alloc (.cells (rowC ⟨x0, x1, x2, x3, x4⟩).toArray 37) := rfl
      rw [e1]
      clear e1 kb HRG2 HKR2 HKW2 HOW2
      generalize w'.alloc (.cells (rowC ⟨x0, x1, x2, x3, x4⟩).toArray 37) = W5 at *
      generalize w'.heap.size = zx at *
      have HCF := Lib.hid (HCL.out ⟨x0, x1, x2, x3, x4⟩ W5 HKW5.out)
      obtain ⟨c0, c1, c2, c3, c4⟩ := HB5.out.row
      simp only [] at c0 c1 c2 c3 c4
      go_wp2_with fail
      clear c0 c1 c2 c3 c4
      with_reducible refine HCF.out.mono ?_
      rintro e W6 ⟨rfl, k6⟩
      have HRG6 := Lib.hid (HRG5.out.of_heap (k6.block _ HRG5.out.lt.2.1 (fun h => h)) (k6.block _ HRG5.out.lt.1 (fun h => h)))
      have HKR6 := Lib.hid (HKR5.out.trans (k6.mono (fun _ h => h.elim)))
      have HKW6 := Lib.hid (HKW5.out.trans k6)
      have HOW6 := Lib.hid (ownsRow_keep HOW5.out k6 (fun _ _ h => h))
      have HB6 := Lib.hid (HB5.out.kept k6)
      clear k6 HRG5 HKR5 HKW5 HOW5 HB5 HCF
      cases hcx : (ofT t) (R5.mk x0 x1 x2 x3 x4) with
      | false =>
        have HFX : Hid ((S ++ [(R5.mk x0 x1 x2 x3 x4)]).filter (ofT t) = S.filter (ofT t)) := Lib.hid (by rw [List.filter_append, List.filter_cons, hcx]; simp)
        clear hcx
        go_wp2_with fail
        go_roundg (gk - 1)
        case rel => exact ⟨S ++ [(R5.mk x0 x1 x2 x3 x4)], X ++ Y, by have := HLEN.out; omega, HPP, HRG6.out, HKR6.out, by rw [HFX.out]; exact HOW6.out⟩
        case measure => have := HLEN.out; omega
      | true =>
        have HFX : Hid ((S ++ [(R5.mk x0 x1 x2 x3 x4)]).filter (ofT t) = S.filter (ofT t) ++ [(R5.mk x0 x1 x2 x3 x4)]) := Lib.hid (by rw [List.filter_append, List.filter_cons, hcx]; simp)
        clear hcx
        obtain ⟨v', w7, r1, r2, r3⟩ := app_row HOW6.out HKR6.out.size (R5.mk x0 x1 x2 x3 x4) HPL.out
        obtain ⟨c0, c1, c2, c3, c4⟩ := HB6.out.row
        simp only [] at c0 c1 c2 c3 c4
        have HRG7 := Lib.hid (HRG6.out.of_heap (r3.block _ HRG6.out.lt.2.1 (fun h => by have h1 := HVN.out _ h; have := HMB.out; omega)) (r3.block _ HRG6.out.lt.1 (fun h => by have h1 := HVN.out _ h; have := HZR4.out; omega)))
        have HKR7 := Lib.hid (HKR6.out.trans' r3 (fun i hi => .inr (HVN.out i hi)))
        have HOW7 := Lib.hid r2
        clear r2 r3
        go_wp2_with (at_builtin; refine wpList_app rfl (.tmp 25) (.tmp 27) 31 rfl rfl rfl r1 ?_)
        clear r1 c0 c1 c2 c3 c4
        go_roundg (gk - 1)
        case rel => exact ⟨S ++ [(R5.mk x0 x1 x2 x3 x4)], X ++ Y, by have := HLEN.out; omega, HPP, HRG7.out, HKR7.out, by rw [HFX.out]; exact HOW7.out⟩
        case measure => have := HLEN.out; omega

set_option maxRecDepth 100000 in
set_option maxHeartbeats 4000000 in
theorem chosenR_any (z mb : Nat) (l : List R5) (p c : Int) (zc zt zl zh : Nat) (cc t lo hi : Int) (w : World) (h : StA w z mb l p) (hl : l.length ≤ 100000) (h1 : w.cell? ⟨zc, 0, none⟩ = some (.int .i64 cc)) (h2 : w.cell? ⟨zt, 0, none⟩ = some (.int .i64 t)) (h3 : w.cell? ⟨zl, 0, none⟩ = some (.int .i64 lo)) (h4 : w.cell? ⟨zh, 0, none⟩ = some (.int .i64 hi)) :
    Calls Tryz.prog 18 #[ptr z, .int .i64 c, .func (.func 19) #[] #[ptr zc, ptr zt, ptr zl, ptr zh]] w (ChosenP (l.filter (inR t cc lo hi)) w) := by
  have k0 := keep_cells w #[.int .i64 c] 3
  have hs := h.kept k0
  obtain ⟨ob, left, hrun, hrg, hnd, hmem⟩ := hs.mp.range (t := 59) Tryz.underlying59
  rw [World.size_alloc] at hrg hrun
  have hrg' := hrg.perm (list_idRel hs.nd hnd hmem)
  have kal : Keep (fun _ => False) (w.alloc (.cells #[.int .i64 c] 3)) ((w.alloc (.cells #[.int .i64 c] 3)).alloc ob) := (Keep.refl _ _).alloc ob
  have HRG := Lib.hid hrg'
  have HMB : Hid (mb < ((w.alloc (.cells #[.int .i64 c] 3)).alloc ob).heap.size) := Lib.hid (hrg'.lt.2.1)
  have HK1 := Lib.hid (k0.trans kal)
  have HZ : Hid (w.heap.size ≤ w.heap.size + 1) := Lib.hid (by omega)
  have hbc := (BoxL.new w [.int .i64 c] 3).kept kal
  have HBC := Lib.hid hbc
  have c0 := hs.box.cell 0 _ rfl
  have HCL := Lib.hid (fun (r : R5) (W : World) (k : Keep (fun _ => False) w W) => rangeF_any r zc zt zl zh cc t lo hi W (k.cell h1 (fun h => h)) (k.cell h2 (fun h => h)) (k.cell h3 (fun h => h)) (k.cell h4 (fun h => h)))
  clear h k0 hs hrg hrg' hnd hmem kal hbc
  go_enter Tryz.func18, Tryz.ntmps18
  go_wp2_with fail
  clear c0 hrun
  generalize (w.alloc (.cells #[.int .i64 c] 3)).alloc ob = W4 at *
  obtain ⟨zc0, hzc0⟩ : ∃ z, w.heap.size = z := ⟨_, rfl⟩
  have HZC0 := Lib.hid hzc0
  rw [hzc0] at HBC HRG ⊢
  try rw [hzc0] at hrun
  clear hzc0
  go_loopg [7] l.length (fun gh v7 wr => ∃ S T : List R5, T.length = gh ∧ Hid (l.Perm (S ++ T)) ∧ Ranging Tryz.prog 65 wr mb (zc0 + 1) (idRel l) (T.map encI) ∧ Keep (fun i => i = (zc0 + 1)) W4 wr ∧ wr.ownsRow W4.heap.size 37 5 v7 (S.filter (inR t cc lo hi)).length (flatR (S.filter (inR t cc lo hi))))
  case atStart => exact ⟨[], l, rfl, Lib.hid (List.Perm.refl _), HRG.out, Keep.refl _ _, by simpa [flatR] using World.ownsRow_nil W4 W4.heap.size 37 5⟩
  case round =>
    obtain ⟨S, T, hT, HP, hr, hkr, how⟩ := hrel
    have HOW := Lib.hid how
    have HKR := Lib.hid hkr
    have HZR4 : Hid ((zc0 + 1) < W4.heap.size) := Lib.hid HRG.out.lt.1
    have HPL : Hid ((S.filter (inR t cc lo hi)).length ≤ 100000) := Lib.hid (by
      have h1 := HP.out.length_eq
      rw [List.length_append] at h1
      have h2 := List.length_filter_le (inR t cc lo hi) S
      omega)
    have HKW := Lib.hid (HK1.out.trans' hkr (fun i hi => .inr (by have h5 : i = (zc0 + 1) := hi; have := HZ.out; have := HZC0.out; omega)))
    have HVN : Hid (∀ b, u7.ownBlock = some b → W4.heap.size ≤ b) := Lib.hid (fun b hb => (how.lt b hb).1)
    clear how hkr
    rcases hr.next 0 with ⟨h0, hrun⟩ | ⟨k, v, left', w', hp, hR, hrun, hrg', kk, hsz, hen⟩
    · have hl0 : T = [] := by simpa using h0
      subst hl0
      have HP2 : Hid ((S.filter (inR t cc lo hi)).Perm (l.filter (inR t cc lo hi))) := Lib.hid (by
        have h1 := HP.out
        rw [List.append_nil] at h1
        exact (h1.filter _).symm)
      have HCW := Lib.hid ((HBC.out.keep HKR.out (by show ¬ zc0 = zc0 + 1; omega)).cell 0 _ rfl)
      have HVN2 : Hid (∀ b, u7.ownBlock = some b → zc0 ≠ b) := Lib.hid (fun b hb => by
        have h1 := HVN.out b hb
        have h2 := HBC.out.lt
        omega)
      clear hr h0 hT
      go_wp2_with fail
      clear hrun
      with_reducible refine (sort_rows (c := c) (zb := zc0) HOW.out HPL.out HCW.out HVN2.out).mono ?_
      rintro e W6 ⟨rfl, s, hs1, hs2, k6⟩
      have HS1 := Lib.hid hs1
      have HS2 := Lib.hid hs2
      have HK6 := Lib.hid k6
      clear hs1 hs2 k6
      go_wp2_with fail
      go_ret
      exact ⟨s, _, rfl, HS1.out.trans HP2.out, HS2.out, HKW.out.trans' HK6.out (fun i hi => .inr (by
        have h1 := HVN.out i hi
        have h2 := HK1.out.size
        omega))⟩
    · obtain ⟨x, hxT, hxe⟩ := List.mem_map.1 (hp.mem_iff.2 (List.mem_cons_self))
      unfold encI at hxe
      obtain ⟨rfl, rfl⟩ := (Prod.mk.injEq _ _ _ _).mp hxe
      obtain ⟨X, Y, rfl⟩ := List.append_of_mem hxT
      have hp2 : ((X ++ Y).map encI).Perm left' := by
        have h1 : ((X ++ x :: Y).map encI).Perm (encI x :: (X ++ Y).map encI) := (List.perm_middle).map encI
        have h2 := h1.symm.trans hp
        exact List.Perm.cons_inv h2
      have HRG2 := Lib.hid (hrg'.perm hp2.symm)
      have HKR2 := Lib.hid (HKR.out.trans kk)
      have HKW2 := Lib.hid (HKW.out.trans' kk (fun i hi => .inr (by have h5 : i = (zc0 + 1) := hi; have := HZ.out; have := HZC0.out; omega)))
      have HOW2 := Lib.hid (ownsRow_keep HOW.out kk (fun b hb e => by have h1 := HVN.out b hb; have h5 : b = (zc0 + 1) := e; have := HZR4.out; omega))
      have HLEN : Hid ((X ++ Y).length + 1 = gk) := Lib.hid (by rw [← hT]; simp; omega)
      have HPP : Hid (l.Perm ((S ++ [x]) ++ (X ++ Y))) := Lib.hid (HP.out.trans (by
        rw [List.append_assoc]
        exact List.Perm.append_left S List.perm_middle))
      clear hr hp hp2 hrg' hxT hxe hR kk hT HOW HKR HKW HRG hsz
      obtain ⟨x0, x1, x2, x3, x4⟩ := x
      go_upto_region 7 with (fail)
      clear hrun hen
      have kb := keep_cells w' (rowC ⟨x0, x1, x2, x3, x4⟩).toArray 37
      have HB5 := Lib.hid (BoxL.new w' (rowC ⟨x0, x1, x2, x3, x4⟩) 37)
      have HRG5 := Lib.hid (HRG2.out.of_heap (kb.block _ HRG2.out.lt.2.1 (fun h => h)) (kb.block _ HRG2.out.lt.1 (fun h => h)))
      have HKR5 := Lib.hid (HKR2.out.trans (kb.mono (fun _ h => h.elim)))
      have HKW5 := Lib.hid (HKW2.out.trans kb)
      have HOW5 := Lib.hid (ownsRow_keep HOW2.out kb (fun _ _ h => h))
      have e1 : w'.alloc (.cells #[.int .i64 x0, .int .i64 x1, .int .i64 x2, .int .i64 x3, .int .i64 x4] 37) = w'.alloc (.cells (rowC ⟨x0, x1, x2, x3, x4⟩).toArray 37) := rfl
      rw [e1]
      clear e1 kb HRG2 HKR2 HKW2 HOW2
      generalize w'.alloc (.cells (rowC ⟨x0, x1, x2, x3, x4⟩).toArray 37) = W5 at *
      generalize w'.heap.size = zx at *
      have HCF := Lib.hid (HCL.out ⟨x0, x1, x2, x3, x4⟩ W5 HKW5.out)
      obtain ⟨c0, c1, c2, c3, c4⟩ := HB5.out.row
      simp only [] at c0 c1 c2 c3 c4
      go_wp2_with fail
      clear c0 c1 c2 c3 c4
      with_reducible refine HCF.out.mono ?_
      rintro e W6 ⟨rfl, k6⟩
      have HRG6 := Lib.hid (HRG5.out.of_heap (k6.block _ HRG5.out.lt.2.1 (fun h => h)) (k6.block _ HRG5.out.lt.1 (fun h => h)))
      have HKR6 := Lib.hid (HKR5.out.trans (k6.mono (fun _ h => h.elim)))
      have HKW6 := Lib.hid (HKW5.out.trans k6)
      have HOW6 := Lib.hid (ownsRow_keep HOW5.out k6 (fun _ _ h => h))
      have HB6 := Lib.hid (HB5.out.kept k6)
      clear k6 HRG5 HKR5 HKW5 HOW5 HB5 HCF
      cases hcx : (inR t cc lo hi) (R5.mk x0 x1 x2 x3 x4) with
      | false =>
        have HFX : Hid ((S ++ [(R5.mk x0 x1 x2 x3 x4)]).filter (inR t cc lo hi) = S.filter (inR t cc lo hi)) := Lib.hid (by rw [List.filter_append, List.filter_cons, hcx]; simp)
        clear hcx
        go_wp2_with fail
        go_roundg (gk - 1)
        case rel => exact ⟨S ++ [(R5.mk x0 x1 x2 x3 x4)], X ++ Y, by have := HLEN.out; omega, HPP, HRG6.out, HKR6.out, by rw [HFX.out]; exact HOW6.out⟩
        case measure => have := HLEN.out; omega
      | true =>
        have HFX : Hid ((S ++ [(R5.mk x0 x1 x2 x3 x4)]).filter (inR t cc lo hi) = S.filter (inR t cc lo hi) ++ [(R5.mk x0 x1 x2 x3 x4)]) := Lib.hid (by rw [List.filter_append, List.filter_cons, hcx]; simp)
        clear hcx
        obtain ⟨v', w7, r1, r2, r3⟩ := app_row HOW6.out HKR6.out.size (R5.mk x0 x1 x2 x3 x4) HPL.out
        obtain ⟨c0, c1, c2, c3, c4⟩ := HB6.out.row
        simp only [] at c0 c1 c2 c3 c4
        have HRG7 := Lib.hid (HRG6.out.of_heap (r3.block _ HRG6.out.lt.2.1 (fun h => by have h1 := HVN.out _ h; have := HMB.out; omega)) (r3.block _ HRG6.out.lt.1 (fun h => by have h1 := HVN.out _ h; have := HZR4.out; omega)))
        have HKR7 := Lib.hid (HKR6.out.trans' r3 (fun i hi => .inr (HVN.out i hi)))
        have HOW7 := Lib.hid r2
        clear r2 r3
        go_wp2_with (at_builtin; refine wpList_app rfl (.tmp 25) (.tmp 27) 31 rfl rfl rfl r1 ?_)
        clear r1 c0 c1 c2 c3 c4
        go_roundg (gk - 1)
        case rel => exact ⟨S ++ [(R5.mk x0 x1 x2 x3 x4)], X ++ Y, by have := HLEN.out; omega, HPP, HRG7.out, HKR7.out, by rw [HFX.out]; exact HOW7.out⟩
        case measure => have := HLEN.out; omega

set_option maxRecDepth 100000 in
set_option maxHeartbeats 1000000 in
theorem rows_any (z mb : Nat) (l : List R5) (p t : Int) (w : World) (h : StA w z mb l p) (hl : l.length ≤ 100000) : Calls Tryz.prog 9 #[ptr z, .int .i64 t] w (ChosenP (l.filter (ofT t)) w) := by
  have K := Lib.hid (keep_cells w #[.int .i64 t] 3)
  have HC := Lib.hid (chosenT_any z mb l p 0 w.heap.size t _ (h.kept K.out) hl (one_cell w (.int .i64 t) 3))
  unfold ChosenP at HC ⊢
  go_enter Tryz.func9, Tryz.ntmps9
  go_wp2_with fail
  with_reducible refine HC.out.mono ?_
  rintro e W1 ⟨R, v, rfl, h1, h2, h3⟩
  have H := Lib.hid (And.intro h1 (And.intro h2 h3))
  clear h1 h2 h3
  go_wp2_with fail
  go_ret
  exact ⟨R, v, rfl, H.out.1, H.out.2.1, K.out.trans H.out.2.2⟩
set_option maxRecDepth 100000 in
set_option maxHeartbeats 1000000 in
theorem range_any (z mb : Nat) (l : List R5) (p t c lo hi : Int) (w : World) (h : StA w z mb l p) (hl : l.length ≤ 100000) (hc : 0 ≤ c ∧ c < 4) : Calls Tryz.prog 8 #[ptr z, .int .i64 t, .int .i64 c, .int .i64 lo, .int .i64 hi] w (ChosenP (l.filter (inR t c lo hi)) w) := by
  have k1 := keep_cells w #[.int .i64 t] 3
  have k2 := keep_cells (w.alloc (.cells #[.int .i64 t] 3)) #[.int .i64 c] 3
  have k3 := keep_cells ((w.alloc (.cells #[.int .i64 t] 3)).alloc (.cells #[.int .i64 c] 3)) #[.int .i64 lo] 3
  have k4 := keep_cells (((w.alloc (.cells #[.int .i64 t] 3)).alloc (.cells #[.int .i64 c] 3)).alloc (.cells #[.int .i64 lo] 3)) #[.int .i64 hi] 3
  have b1 := one_cell w (.int .i64 t) 3
  have b2 := one_cell (w.alloc (.cells #[.int .i64 t] 3)) (.int .i64 c) 3
  have b3 := one_cell ((w.alloc (.cells #[.int .i64 t] 3)).alloc (.cells #[.int .i64 c] 3)) (.int .i64 lo) 3
  have b4 := one_cell (((w.alloc (.cells #[.int .i64 t] 3)).alloc (.cells #[.int .i64 c] 3)).alloc (.cells #[.int .i64 lo] 3)) (.int .i64 hi) 3
  have e1 := (k4.cell (k3.cell (k2.cell b1 (fun h => h)) (fun h => h)) (fun h => h))
  have e2 := (k4.cell (k3.cell b2 (fun h => h)) (fun h => h))
  have e3 := (k4.cell b3 (fun h => h))
  simp only [World.size_alloc] at e1 e2 e3 b4
  have K := Lib.hid (((k1.trans k2).trans k3).trans k4)
  have HC := Lib.hid (chosenR_any z mb l p c (w.heap.size + 1) w.heap.size (w.heap.size + 1 + 1) (w.heap.size + 1 + 1 + 1) c t lo hi _ (h.kept K.out) hl e2 e1 e3 b4)
  have E2 := Lib.hid e2
  unfold ChosenP at HC ⊢
  clear k1 k2 k3 k4 b1 b2 b3 b4 e1 e2 e3 h
  obtain ⟨hc1, hc2⟩ := hc
  go_enter Tryz.func8, Tryz.ntmps8
  go_upto_region 1 with (fail)
  generalize (((w.alloc (.cells #[.int .i64 t] 3)).alloc (.cells #[.int .i64 c] 3)).alloc (.cells #[.int .i64 lo] 3)).alloc (.cells #[.int .i64 hi] 3) = W0 at *
  generalize w.heap.size + 1 + 1 + 1 = z4 at *
  generalize w.heap.size + 1 + 1 = z3 at *
  generalize w.heap.size + 1 = z2 at *
  generalize w.heap.size = z1 at *
  have r0 := E2.out
  go_wp2_with fail
  clear r0
  with_reducible refine HC.out.mono ?_
  rintro e W1 ⟨R, v, rfl, h1, h2, h3⟩
  have H := Lib.hid (And.intro h1 (And.intro h2 h3))
  clear h1 h2 h3
  go_wp2_with fail
  go_ret
  exact ⟨R, v, rfl, H.out.1, H.out.2.1, K.out.trans H.out.2.2⟩
end Go.Proofs.YtmndjicaofciiaaGreatDoor
