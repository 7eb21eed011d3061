/-
  Several texts in one, each under its own heading below (merged by a program of ours): the contracts of the functions that the law reaches, part 5 of 6.
-/
import Derived.Test.YtplkmbfeeegaiaaGreatDoorZ1
import Derived.Test.YtplkmbfeeegaiaaGreatDoorZ2
import Derived.Test.YtplkmbfeeegaiaaGreatDoorZ3
import Derived.Test.YtplkmbfeeegaiaaGreatDoorZ4
import Derived.Shelf.SlIter.Collect
import Derived.RangeFuncBox
import Derived.Deep.LoopGhost
import Derived.BigRegion
import Derived.Maps.AppendAt
import Derived.OwnWalk

/-
  The reference's New.
-/
namespace Go.Proofs.YtplkmbfeeegaiaaGreatDoor
open Go.RowKit Go.Shelf

theorem lit_app2 (W : World) (v : Value) (l : List Mb) (h : Mbs W v l) (hne : 0 < l.length) (hl : l.length ≤ 1000) :
    ∃ g c W', (Builtin.append_ #[25, 25] 25 #[.slice (some ⟨W.heap.size, 0, none⟩) 0 0, v]).run Tryz.prog (W.alloc (.cells #[] 35)) = .ok (.slice (some ⟨g, 0, none⟩) l.length c) W' ∧ Keep (fun _ => False) W W' ∧ W'.ownsRow W.heap.size 35 3 (.slice (some ⟨g, 0, none⟩) l.length c) l.length (flatB l) := by
  have k1 : Keep (fun _ => False) W (W.alloc (.cells #[] 35)) := (Keep.refl _ W).alloc _
  obtain ⟨v', W2, hr, hown, hkp, hob⟩ := app_mbs (W.alloc (.cells #[] 35)) 25 W.heap.size (.slice (some ⟨W.heap.size, 0, none⟩) 0 0) v [] l (World.ownsRow_lit W #[] 0 (Nat.le_refl _) (by decide) rfl) (h.kept k1) hne (by simp; omega) (by simp)
  rw [List.nil_append] at hown
  have hown' := hown
  rcases hown.2 with ⟨_, e0⟩ | ⟨g, c, cur, rfl, _⟩
  · omega
  · exact ⟨g, c, W2, hr, k1.trans' hkp (fun j e => by cases e; exact .inr (Nat.le_refl _)), hown'⟩

set_option maxRecDepth 100000 in
set_option maxHeartbeats 2000000 in
theorem refNew_ok (ep : Int) (v : Value) (l : List Mb) (w : World) (h : Mbs w v l) (hv : VL l) (he : 1 ≤ ep ∧ ep ≤ 1000000) : Calls Tryz.prog 80 #[.int .i64 ep, v] w (NewPost ep l w) := by
  have HAS : Hid (∀ W, Keep (fun _ => False) w W → Calls Tryz.prog 114 #[v] W (AsgPost l W)) := Lib.hid (fun W k => refAssign_ok v l W (h.kept k) hv)
  have HM := Lib.hid h
  have HNE : Hid (0 < l.length ∧ l.length ≤ 24) := Lib.hid ⟨List.length_pos_iff.2 hv.ne, hv.len⟩
  obtain ⟨va, vn, vc, rfl⟩ : ∃ a n c, v = .slice a n c := by
    obtain ⟨a, c, b, off, h1, _⟩ := h.at_
    exact ⟨_, _, _, h1⟩
  have HEP := Lib.hid (decide_eq_true he)
  clear h hv he
  have HK0 : Hid (Keep (fun _ => False) w (w.alloc (.cells #[.int .i64 0, .slice none 0 0, .slice none 0 0] 27))) := Lib.hid ((Keep.refl _ w).alloc _)
  have HT3 := Lib.hid (three_cell w (.int .i64 0) (.slice none 0 0) (.slice none 0 0) 27)
  go_enter Tryz.func80, Tryz.ntmps80
  go_wp2_with fail
  generalize w.alloc (.cells #[.int .i64 0, .slice none 0 0, .slice none 0 0] 27) = W0 at *
  generalize hz : w.heap.size = z at HT3
  have HZ := Lib.hid hz
  clear hz
  with_reducible refine (HAS.out _ HK0.out).mono ?_
  rintro e W1 ⟨vo, rfl, how, k1⟩
  have HK1 := Lib.hid (HK0.out.trans k1)
  have HSZ1 := Lib.hid k1.size
  have HOW := Lib.hid how
  have HT1 := Lib.hid (And.intro (k1.cell HT3.out.1 (fun h => h)) (And.intro (k1.cell HT3.out.2.1 (fun h => h)) (And.intro (k1.cell HT3.out.2.2.1 (fun h => h)) (fun o => (k1.frozen (World.block_lt_of_cell? _ _ HT3.out.1) (fun h => h) o).trans (HT3.out.2.2.2 o)))))
  clear k1 how
  go_wp2_with fail
  with_reducible refine (rwithin_b ep 1 1000000 true HEP.out _).mono ?_
  rintro e w' ⟨rfl, rfl⟩
  obtain ⟨gm, cm, W2, hr, hom⟩ := lit_app2 W1 _ l (HM.out.kept HK1.out) HNE.out.1 (by have := HNE.out; omega)
  have k2 := hom.1
  have hmb := hom.2
  have HR := Lib.hid hr
  clear hr hom
  have hform : ∃ a n c, vo = .slice a n c := by
    rcases HOW.out.2 with ⟨rfl, _⟩ | ⟨g, cap, cur, rfl, _⟩ <;> exact ⟨_, _, _, rfl⟩
  obtain ⟨oa, on, oc, rfl⟩ := hform
  have f0 := k2.cell HT1.out.1 (fun h => h)
  have f1 := k2.cell HT1.out.2.1 (fun h => h)
  have f2 := k2.cell HT1.out.2.2.1 (fun h => h)
  have ff : ∀ o, W2.frozen? ⟨z, o, none⟩ = false := fun o => (k2.frozen (World.block_lt_of_cell? _ _ HT1.out.1) (fun h => h) o).trans (HT1.out.2.2.2 o)
  have HK2 := Lib.hid (HK1.out.trans k2)
  have HOW2 := Lib.hid (ownsRow_keep HOW.out k2 (fun _ _ h => h))
  have HMB := Lib.hid hmb
  have HLT := Lib.hid (fun b (e : (Value.slice oa on oc).ownBlock = some b) => (HOW.out.lt b e))
  clear k2 hmb HOW
  go_wp2_with (at_builtin; refine wpList_app rfl (.tmp 22) (.tmp 23) 25 rfl rfl rfl HR.out ?_)
  have g0 : (((W2.setCell ⟨z, 0, none⟩ (.int .i64 ep)).setCell ⟨z, 1, none⟩ (.slice (some ⟨gm, 0, none⟩) l.length cm)).setCell ⟨z, 2, none⟩ (.slice oa on oc)).cell? ⟨z, 0, none⟩ = some (.int .i64 ep) := (cell_set_off (by decide)).trans ((cell_set_off (by decide)).trans (cell_set_same f0))
  have g1 : (((W2.setCell ⟨z, 0, none⟩ (.int .i64 ep)).setCell ⟨z, 1, none⟩ (.slice (some ⟨gm, 0, none⟩) l.length cm)).setCell ⟨z, 2, none⟩ (.slice oa on oc)).cell? ⟨z, 1, none⟩ = some (.slice (some ⟨gm, 0, none⟩) l.length cm) := (cell_set_off (by decide)).trans (cell_set_same ((cell_set_off (by decide)).trans f1))
  have g2 : (((W2.setCell ⟨z, 0, none⟩ (.int .i64 ep)).setCell ⟨z, 1, none⟩ (.slice (some ⟨gm, 0, none⟩) l.length cm)).setCell ⟨z, 2, none⟩ (.slice oa on oc)).cell? ⟨z, 2, none⟩ = some (.slice oa on oc) := cell_set_same ((cell_set_off (by decide)).trans ((cell_set_off (by decide)).trans f2))
  have HKS : Hid (Keep (fun j => j = z) W2 (((W2.setCell ⟨z, 0, none⟩ (.int .i64 ep)).setCell ⟨z, 1, none⟩ (.slice (some ⟨gm, 0, none⟩) l.length cm)).setCell ⟨z, 2, none⟩ (.slice oa on oc))) := Lib.hid ((((Keep.refl (fun j => j = z) W2).setCell (p := ⟨z, 0, none⟩) _ (.inl rfl)).setCell (p := ⟨z, 1, none⟩) _ (.inl rfl)).setCell (p := ⟨z, 2, none⟩) _ (.inl rfl))
  generalize ((W2.setCell ⟨z, 0, none⟩ (.int .i64 ep)).setCell ⟨z, 1, none⟩ (.slice (some ⟨gm, 0, none⟩) l.length cm)).setCell ⟨z, 2, none⟩ (.slice oa on oc) = W3 at *
  refine bodyPost_ret (v := .tuple #[ringV ep (.slice (some ⟨gm, 0, none⟩) l.length cm) (.slice oa on oc), .int .i64 0]) (by simp [results, Tryz.results80, go_sem, g0, g1, g2]) rfl ?_
  have hz0 : w.heap.size = z := HZ.out
  have hW0 := World.block_lt_of_cell? _ _ HT3.out.1
  simp only [] at hW0
  have hW1 := HK1.out.size
  refine ⟨_, _, rfl, ownsRow_lo (ownsRow_keep HMB.out HKS.out (fun b hb e => ?_)) hW1, ownsRow_lo (ownsRow_keep HOW2.out HKS.out (fun b hb e => ?_)) HK0.out.size, fun b hb hm => ?_, HK2.out.trans' HKS.out (fun i e => .inr (by omega))⟩
  · have := (HMB.out.lt b hb).1
    have h3 : W0.heap.size ≤ W1.heap.size := HSZ1.out
    omega
  · have := (HOW2.out.lt b hb).1; omega
  · have h1 := (HMB.out.lt b hm).1
    have h2 := (HLT.out b hb).2
    omega
end Go.Proofs.YtplkmbfeeegaiaaGreatDoor

/-
  New refuses members that are not valid.
-/
namespace Go.Proofs.YtplkmbfeeegaiaaGreatDoor
open Go.RowKit Go.Shelf

set_option maxRecDepth 100000 in
set_option maxHeartbeats 2000000 in
theorem new_bad (ep : Int) (v : Value) (l : List Mb) (w : World) (h : Mbs w v l) (hv : ¬ VL l) : Calls Tryz.prog 13 #[.int .i64 ep, v] w (NewBad w) := by
  have HAS : Hid (∀ W, Keep (fun _ => False) w W → Calls Tryz.prog 52 #[v] W fun e w' => e = .returned (.tuple #[.slice none 0 0, .int .i64 120]) ∧ Keep (fun _ => False) W w') := Lib.hid (fun W k => assign_bad v l W (h.kept k) hv)
  clear h hv
  have HK0 : Hid (Keep (fun _ => False) w (w.alloc (.cells #[.int .i64 0, .slice none 0 0, .slice none 0 0] 27))) := Lib.hid ((Keep.refl _ w).alloc _)
  have HT3 := Lib.hid (three_cell w (.int .i64 0) (.slice none 0 0) (.slice none 0 0) 27)
  go_enter Tryz.func13, Tryz.ntmps13
  go_wp2_with fail
  generalize w.alloc (.cells #[.int .i64 0, .slice none 0 0, .slice none 0 0] 27) = W0 at *
  generalize hz : w.heap.size = z at HT3
  have HZ := Lib.hid hz
  clear hz
  with_reducible refine (HAS.out _ HK0.out).mono ?_
  rintro e W1 ⟨rfl, k1⟩
  have HK1 := Lib.hid (HK0.out.trans k1)
  have f0 := k1.cell HT3.out.1 (fun h => h)
  have f1 := k1.cell HT3.out.2.1 (fun h => h)
  have f2 := k1.cell HT3.out.2.2.1 (fun h => h)
  have ff : ∀ o, W1.frozen? ⟨z, o, none⟩ = false := fun o => (k1.frozen (World.block_lt_of_cell? _ _ HT3.out.1) (fun h => h) o).trans (HT3.out.2.2.2 o)
  clear k1
  go_wp2_with fail
  have g0 : (((W1.setCell ⟨z, 0, none⟩ (.int .i64 0)).setCell ⟨z, 1, none⟩ (.slice none 0 0)).setCell ⟨z, 2, none⟩ (.slice none 0 0)).cell? ⟨z, 0, none⟩ = some (.int .i64 0) := (cell_set_off (by decide)).trans ((cell_set_off (by decide)).trans (cell_set_same f0))
  have g1 : (((W1.setCell ⟨z, 0, none⟩ (.int .i64 0)).setCell ⟨z, 1, none⟩ (.slice none 0 0)).setCell ⟨z, 2, none⟩ (.slice none 0 0)).cell? ⟨z, 1, none⟩ = some (.slice none 0 0) := (cell_set_off (by decide)).trans (cell_set_same ((cell_set_off (by decide)).trans f1))
  have g2 : (((W1.setCell ⟨z, 0, none⟩ (.int .i64 0)).setCell ⟨z, 1, none⟩ (.slice none 0 0)).setCell ⟨z, 2, none⟩ (.slice none 0 0)).cell? ⟨z, 2, none⟩ = some (.slice none 0 0) := cell_set_same ((cell_set_off (by decide)).trans ((cell_set_off (by decide)).trans f2))
  have HKS : Hid (Keep (fun j => j = z) W1 (((W1.setCell ⟨z, 0, none⟩ (.int .i64 0)).setCell ⟨z, 1, none⟩ (.slice none 0 0)).setCell ⟨z, 2, none⟩ (.slice none 0 0))) := Lib.hid ((((Keep.refl (fun j => j = z) W1).setCell (p := ⟨z, 0, none⟩) _ (.inl rfl)).setCell (p := ⟨z, 1, none⟩) _ (.inl rfl)).setCell (p := ⟨z, 2, none⟩) _ (.inl rfl))
  generalize ((W1.setCell ⟨z, 0, none⟩ (.int .i64 0)).setCell ⟨z, 1, none⟩ (.slice none 0 0)).setCell ⟨z, 2, none⟩ (.slice none 0 0) = W3 at *
  refine bodyPost_ret (v := .tuple #[ringV 0 (.slice none 0 0) (.slice none 0 0), .int .i64 120]) (by simp [results, Tryz.results13, go_sem, g0, g1, g2]) rfl ?_
  exact ⟨rfl, HK1.out.trans' HKS.out (fun j e => .inr (by rw [e, HZ.out]; exact Nat.le_refl _))⟩
end Go.Proofs.YtplkmbfeeegaiaaGreatDoor

/-
  pick, some of the laws of package replicate.
-/
namespace Go.Proofs.YtplkmbfeeegaiaaGreatDoor
open Go.RowKit Go.Shelf

set_option maxRecDepth 100000 in
set_option maxHeartbeats 400000 in
theorem pick15_any (c n : Int) (w : World) (hc : I64 c) (hn : 1 ≤ n ∧ n ≤ 9223372036854775807) : Calls Tryz.prog 34 #[.int .i64 c, .int .i64 n] w fun e w' => e = .returned (.int .i64 (pk c n)) ∧ w = w' := by
  unfold I64 at hc
  by_cases h : c < 0
  · have HP : Hid (pk c n = (-(c + 1)) % n) := Lib.hid (by unfold pk; rw [if_pos h])
    have h0 : 0 ≤ -(c + 1) := by omega
    have h1 : -(c + 1) ≤ 9223372036854775807 := by omega
    go_enter Tryz.func34, Tryz.ntmps34
    go_wp2
    go_ret
    refine ⟨?_, rfl⟩
    show Ending.returned (.int .i64 (-(c + 1).tmod n)) = _
    rw [HP.out, ← Int.neg_tmod, Int.tmod_eq_emod_of_nonneg (by omega)]
  · have HP : Hid (pk c n = c % n) := Lib.hid (by unfold pk; rw [if_neg h])
    go_enter Tryz.func34, Tryz.ntmps34
    go_wp2
    go_ret
    exact ⟨by rw [HP.out]; rfl, rfl⟩

theorem tdiv_bd15 {x : Int} (h : I64 x) {y : Int} (hy : 1 ≤ y) : I64 (x.tdiv y) := by
  unfold I64 at *
  by_cases h0 : 0 ≤ x
  · rw [Int.tdiv_eq_ediv_of_nonneg h0]
    have h1 : 0 ≤ x / y := Int.ediv_nonneg h0 (by omega)
    have h2 := Int.ediv_le_self y h0
    omega
  · have e : x.tdiv y = -((-x) / y) := by
      rw [← Int.tdiv_eq_ediv_of_nonneg (by omega : 0 ≤ -x), Int.neg_tdiv, Int.neg_neg]
    rw [e]
    have h1 : 0 ≤ (-x) / y := Int.ediv_nonneg (by omega) (by omega)
    have h2 := Int.ediv_le_self y (by omega : 0 ≤ -x)
    omega

/-- The member of the k-th integer. -/
def someM15 (k : Nat) (x : Int) : Mb := ⟨2 * (k : Int) + pk x 2, pk (x.tdiv 3) 4, 1 + pk (x.tdiv 12) 4⟩
def someK15 (xs : List Int) : Nat → List Mb
  | 0 => []
  | k + 1 => someK15 xs k ++ (match xs[k]? with | some x => if 0 < pk x 3 then [someM15 k x] else [] | none => [])
def someL15 (xs : List Int) : List Mb := if (someK15 xs 8).length = 0 then [⟨5, 0, 2⟩] else someK15 xs 8
theorem someK15_len (xs : List Int) : ∀ k, (someK15 xs k).length ≤ k
  | 0 => by simp [someK15]
  | k + 1 => by
    have := someK15_len xs k
    simp only [someK15, List.length_append]
    split
    · split <;> simp <;> omega
    · simp; omega
theorem someK15_mem (xs : List Int) : ∀ k m, m ∈ someK15 xs k → ∃ i x, i < k ∧ m = someM15 i x
  | 0, m, h => by simp [someK15] at h
  | k + 1, m, h => by
    simp only [someK15, List.mem_append] at h
    rcases h with h | h
    · obtain ⟨i, x, hi, e⟩ := someK15_mem xs k m h
      exact ⟨i, x, by omega, e⟩
    · split at h
      · rename_i x hx
        split at h
        · simp at h; exact ⟨k, x, by omega, h⟩
        · simp at h
      · simp at h
theorem someK15_asc (xs : List Int) : ∀ k, (someK15 xs k).Pairwise (fun a b => a.node < b.node)
  | 0 => List.Pairwise.nil
  | k + 1 => by
    simp only [someK15]
    rw [List.pairwise_append]
    refine ⟨someK15_asc xs k, ?_, fun a ha b hb => ?_⟩
    · split
      · split <;> simp
      · simp
    · obtain ⟨i, x, hi, rfl⟩ := someK15_mem xs k a ha
      split at hb
      · split at hb
        · simp at hb; subst hb; simp only [someM15]; have h3 := pk_bd x 2 (by decide); rename_i y _ _; have h4 := pk_bd y 2 (by decide); omega
        · simp at hb
      · simp at hb
theorem someL15_ok (xs : List Int) : VL (someL15 xs) := by
  unfold someL15
  split
  · exact ⟨by intro m hm; simp at hm; subst hm; unfold okMb; decide, by simp, by simp⟩
  · rename_i h
    refine ⟨fun m hm => ?_, someK15_asc xs 8, fun e => h (by rw [e]; rfl)⟩
    obtain ⟨i, x, hi, rfl⟩ := someK15_mem xs 8 m hm
    have h1 := pk_bd (x.tdiv 3) 4 (by decide)
    have h2 := pk_bd (x.tdiv 12) 4 (by decide)
    have h3 := pk_bd x 2 (by decide)
    unfold okMb someM15
    simp only []
    omega
theorem someL15_len (xs : List Int) : (someL15 xs).length ≤ 8 := by
  unfold someL15
  split
  · simp
  · exact someK15_len xs 8
/-- The owners of the ring that integers determine. -/
def ow15 (xs : List Int) : List Int := ownersL PN QS (someL15 xs)
theorem ok15 (xs : List Int) : okRing 1 (someL15 xs) (ow15 xs) := ok_new PN QS (someL15_ok xs) (by decide)
theorem rng_keep {W W' : World} {A : Nat → Prop} {ep : Int} {a b : Value} {l : List Mb} {ow : List Int} (h : Rng W (.agg #[.int .i64 ep, a, b]) ep l ow) (k : Keep A W W') (ha : ∀ j, a.ownBlock = some j → ¬ A j) (hb : ∀ j, b.ownBlock = some j → ¬ A j) : Rng W' (.agg #[.int .i64 ep, a, b]) ep l ow := by
  obtain ⟨h0, vm, vo, e, h1, h2⟩ := h
  cases e
  exact ⟨h0, _, _, rfl, h1.keep k ha, h2.keep k hb⟩
/-- New, and where its blocks lie. -/
def GoodAt (ep : Int) (l : List Mb) (ow : List Int) (w : World) (e : Ending) (w' : World) : Prop := ∃ am cm ao co, e = .returned (.tuple #[.agg #[.int .i64 ep, .slice am l.length cm, .slice ao 64 co], .int .i64 0]) ∧ (Rng w' (.agg #[.int .i64 ep, .slice am l.length cm, .slice ao 64 co]) ep l ow ∧ (∀ j, (Value.slice am l.length cm).ownBlock = some j → w.heap.size ≤ j) ∧ ∀ j, (Value.slice ao 64 co).ownBlock = some j → w.heap.size ≤ j) ∧ Keep (fun _ => False) w w'
theorem NewPost.at {ep : Int} {l : List Mb} {w : World} {e : Ending} {w' : World} (h : NewPost ep l w e w') (hv : VL l) (hep : I64 ep) : GoodAt ep l (ownersL PN QS l) w e w' := by
  obtain ⟨vm, vo, rfl, h2, h3, -, h4⟩ := h
  obtain ⟨am, cm, rfl⟩ := own_form h2
  obtain ⟨ao, co, rfl⟩ := own_form h3
  have h5 := its_owns h3 (by rw [(owners_ok PN QS hv).1]; decide) hv.obd
  have h6 := fun j e => (h2.lt j e).1
  have h7 := fun j e => (h3.lt j e).1
  have hl := (owners_ok PN QS hv).1
  rw [hl] at h5 h7 ⊢
  exact ⟨am, cm, ao, co, rfl, ⟨⟨hep, _, _, rfl, mbs_owns h2 (by have := hv.len; omega) hv.bd, h5⟩, h6, h7⟩, h4⟩
/-- New. -/
def GoodN (ep : Int) (l : List Mb) (ow : List Int) (w : World) (e : Ending) (w' : World) : Prop := ∃ am cm ao co, e = .returned (.tuple #[.agg #[.int .i64 ep, .slice am l.length cm, .slice ao 64 co], .int .i64 0]) ∧ Rng w' (.agg #[.int .i64 ep, .slice am l.length cm, .slice ao 64 co]) ep l ow ∧ Keep (fun _ => False) w w'
theorem NewPost.good {ep : Int} {l : List Mb} {w : World} {e : Ending} {w' : World} (h : NewPost ep l w e w') (hv : VL l) (hep : I64 ep) : GoodN ep l (ownersL PN QS l) w e w' := by
  obtain ⟨am, cm, ao, co, h1, h2, h3⟩ := h.at hv hep
  exact ⟨am, cm, ao, co, h1, h2.1, h3⟩
/-- A ring that comes back. -/
def RingBack (ep : Int) (l : List Mb) (ow : List Int) (w : World) (e : Ending) (w' : World) : Prop := ∃ am cm ao co, e = .returned (.agg #[.int .i64 ep, .slice am l.length cm, .slice ao 64 co]) ∧ Rng w' (.agg #[.int .i64 ep, .slice am l.length cm, .slice ao 64 co]) ep l ow ∧ Keep (fun _ => False) w w'

set_option maxRecDepth 100000 in
set_option maxHeartbeats 4000000 in
theorem some15_any (v : Value) (xs : List Int) (w : World) (h : Its w v xs) : Calls Tryz.prog 33 #[v] w (RingBack 1 (someL15 xs) (ow15 xs) w) := by
  obtain ⟨hn, hbd, a, c, b, off, rfl, hc, ha, hcell⟩ := h
  have HC := Lib.hid hcell
  have HA := Lib.hid ha
  have HBD := Lib.hid hbd
  clear hcell ha hbd
  obtain ⟨n, hn'⟩ : ∃ n, xs.length = n := ⟨_, rfl⟩
  have HL := Lib.hid hn'
  rw [hn'] at hn hc ⊢
  clear hn'
  obtain ⟨z, hz⟩ : ∃ z, w.heap.size = z := ⟨_, rfl⟩
  have HZ := Lib.hid hz
  have HBX := Lib.hid (Box3.new w (.int .i64 0) (.slice none 0 0) (.slice none 0 0) 27)
  have HK00 : Hid (Keep (fun _ => False) w (w.alloc (.cells #[.int .i64 0, .slice none 0 0, .slice none 0 0] 27))) := Lib.hid ((Keep.refl _ w).alloc _)
  rw [hz] at HBX
  go_enter Tryz.func33, Tryz.ntmps33
  go_upto_region 1 with (fail)
  try rw [hz]
  clear hz
  generalize w.alloc (.cells #[.int .i64 0, .slice none 0 0, .slice none 0 0] 27) = W00 at *
  go_wp2_with fail
  go_loopg [3, 4] 8 (fun gh v3 v wr => ∃ (k : Nat), gh + k = 8 ∧ v = .int .i64 k ∧ OwnB W00 (someK15 xs k) v3 wr)
  case atStart => exact ⟨0, by omega, rfl, OwnB.nil (Keep.refl _ _)⟩
  case round =>
    obtain ⟨k, hk, rfl, how⟩ := hrel
    have HOW := Lib.hid how
    clear how
    by_cases h8 : k < 8
    · have h8z : (k : Int) < 8 := by omega
      have hk0 : (0 : Int) ≤ (k : Int) := by omega
      by_cases hlt : k < n
      · obtain ⟨x, hx⟩ : ∃ x, xs[k]? = some x := ⟨_, List.getElem?_eq_getElem (by have := HL.out; omega)⟩
        obtain rfl := HA.out (by have := HL.out; omega)
        have c1 := (HK00.out.trans HOW.out.1).cell (HC.out k x hx) (fun h => h)
        have hxb := HBD.out x (List.mem_of_getElem? hx)
        have HXB := Lib.hid hxb
        have HX := Lib.hid hx
        clear hx hxb
        have hkz : (k : Int) < (n : Int) := by omega
        go_wp2_with fail
        with_reducible refine (pick15_any x 3 _ HXB.out (by decide)).mono ?_
        rintro e w' ⟨rfl, rfl⟩
        by_cases hp : 0 < pk x 3
        · have HS : Hid (someK15 xs (k + 1) = someK15 xs k ++ [someM15 k x]) := Lib.hid (by simp only [someK15]; rw [HX.out]; simp only []; rw [if_pos hp])
          generalize pk x 3 = p3 at *
          go_upto_region 6 with (fail)
          obtain ⟨d3, hd3⟩ : ∃ d3, x.tdiv 3 = d3 := ⟨_, rfl⟩
          obtain ⟨d12, hd12⟩ : ∃ d12, x.tdiv 12 = d12 := ⟨_, rfl⟩
          have e3 : IntKind.i64.wrap (x.tdiv 3) = d3 := by rw [wrapI (tdiv_bd15 HXB.out (by decide)), hd3]
          have e12 : IntKind.i64.wrap (x.tdiv 12) = d12 := by rw [wrapI (tdiv_bd15 HXB.out (by decide)), hd12]
          have HD3 : Hid (I64 d3) := Lib.hid (by rw [← hd3]; exact tdiv_bd15 HXB.out (by decide))
          have HD12 : Hid (I64 d12) := Lib.hid (by rw [← hd12]; exact tdiv_bd15 HXB.out (by decide))
          have HSM : Hid (someM15 k x = ⟨2 * (k : Int) + pk x 2, pk d3 4, 1 + pk d12 4⟩) := Lib.hid (by unfold someM15; rw [hd3, hd12])
          clear hd3 hd12
          have cz : ∀ q : KA (fun j => u3.ownBlock = some j) wr, q.val.cell? ⟨b, off + k, none⟩ = some (.int .i64 x) := fun q => q.k.cell c1 (fun e => by
            have h1 := (HOW.out.2.lt b e).1
            have h2 := World.block_lt_of_cell? _ _ (HC.out k x HX.out)
            have h3 := HK00.out.size
            simp only [] at h2
            omega)
          have hw2 := wrapI (n := 2 * (k : Int)) (by unfold I64; omega)
          refine wp_region_walk [(true, 0), (true, 1), (true, 2), (true, 3), (true, 4), (true, 5), (true, 6), (true, 9), (true, 10), (true, 11), (true, 12), (true, 13), (true, 15), (true, 16), (true, 17), (true, 18), (true, 19), (false, 7), (true, 8), (false, 14), (false, 20), (false, 21), (false, 22), (false, 23), (false, 24), (false, 25)] (inKA (fun j => u3.ownBlock = some j) wr) (by kernel_rfl) (by kernel_rfl) ?_
          iterate 17 (refine walkW_read rfl (fun K hK => ?_); go_simp; refine hK _ ?_; clear hK K)
          clear cz
          have HKR : Hid (Keep (fun j => u3.ownBlock = some j) wr wr.drew) := Lib.hid (Keep.refl _ wr).drew
          have HKF : Hid (Keep (fun _ => False) wr wr.drew) := Lib.hid (Keep.refl _ wr).drew
          obtain ⟨v', W3, hr, how3, hk3, -⟩ := (HOW.out.keep HKF.out).snoc (someM15 k x) (by have := someK15_len xs k; omega)
          rw [HSM.out] at hr
          simp only [] at hr
          have HN : Hid (OwnB W00 (someK15 xs (k + 1)) v' W3) := Lib.hid (by rw [HS.out]; exact how3)
          have HK3 : Hid (Keep (fun j => u3.ownBlock = some j) wr W3) := Lib.hid (HKR.out.trans hk3)
          have HR := Lib.hid hr
          clear how3 hk3 hr
          have hp2 := pk_bd x 2 (by decide)
          have hp4 := pk_bd d3 4 (by decide)
          have hp5 := pk_bd d12 4 (by decide)
          refine walkW_do rfl (inKA.of HKR.out) (fun K hK => ?_)
          go_simp
          refine (pick15_any x 2 _ HXB.out (by decide)).mono ?_
          rintro e w' ⟨rfl, rfl⟩
          refine hK _ _ ?_; clear hK K
          have HX2 := Lib.hid hp2
          generalize pk x 2 = p2 at *
          have hw21 := wrapI (n := 2 * (k : Int) + p2) (by unfold I64; omega)
          refine walkW_read rfl (fun K hK => ?_); go_simp; refine hK _ ?_; clear hK K
          refine walkW_do rfl (inKA.of HKR.out) (fun K hK => ?_)
          go_simp
          refine (pick15_any d3 4 _ HD3.out (by decide)).mono ?_
          rintro e w' ⟨rfl, rfl⟩
          refine hK _ _ ?_; clear hK K
          refine walkW_do rfl (inKA.of HKR.out) (fun K hK => ?_)
          go_simp
          refine (pick15_any d12 4 _ HD12.out (by decide)).mono ?_
          rintro e w' ⟨rfl, rfl⟩
          refine hK _ _ ?_; clear hK K
          generalize pk d3 4 = p4 at *
          generalize pk d12 4 = p5 at *
          have hw5 := wrapI (n := 1 + p5) (by unfold I64; omega)
          iterate 3 (refine walkW_do rfl (inKA.of HKR.out) (fun K hK => ?_); go_simp; refine hK _ _ ?_; clear hK K)
          refine walkW_do rfl (inKA.of (HKR.out.alloc _)) (fun K hK => ?_)
          rw [if_pos (by first | rfl | simp [Region.wanted])]
          refine wp_app (.tmp 23) (.tmp 46) 25 rfl rfl rfl HR.out (hK _ _ ?_); clear hK K
          refine walkW_do rfl (inKA.of HK3.out) (fun K hK => ?_)
          go_simp
          refine hK _ _ ?_; clear hK K
          refine ⟨inKA.of HK3.out, ?_⟩
          go_wp2_with fail
          go_roundg (gk - 1)
          case rel => exact ⟨k + 1, by omega, by go_num, HN.out⟩
          case measure => omega
        · have HS : Hid (someK15 xs (k + 1) = someK15 xs k) := Lib.hid (by simp only [someK15]; rw [HX.out]; simp only []; rw [if_neg hp, List.append_nil])
          generalize pk x 3 = p3 at *
          go_wp2_with fail
          go_roundg (gk - 1)
          case rel => exact ⟨k + 1, by omega, by go_num, by rw [HS.out]; exact HOW.out⟩
          case measure => omega
      · have HS : Hid (someK15 xs (k + 1) = someK15 xs k) := Lib.hid (by simp only [someK15]; rw [List.getElem?_eq_none (by have := HL.out; omega)]; simp)
        have hkz : ¬ ((k : Int) < (n : Int)) := by omega
        go_wp2_with fail
        go_roundg (gk - 1)
        case rel => exact ⟨k + 1, by omega, by go_num, by rw [HS.out]; exact HOW.out⟩
        case measure => omega
    · obtain rfl : k = 8 := by omega
      obtain ⟨q, hq⟩ : ∃ q, (someK15 xs 8).length = q := ⟨_, rfl⟩
      have HQ := Lib.hid hq
      have HQ8 : Hid (q ≤ 8) := Lib.hid (by rw [← hq]; exact someK15_len xs 8)
      clear hq
      have hv3 : ∃ a n c, u3 = .slice a n c ∧ n = q := by
        have h2 := HOW.out.2
        rw [HQ.out] at h2
        rcases h2.2 with ⟨rfl, e⟩ | ⟨g, c, cur, rfl, -⟩
        · exact ⟨_, _, _, rfl, e.symm⟩
        · exact ⟨_, _, _, rfl, rfl⟩
      obtain ⟨a3, n3, c3, rfl, rfl⟩ := hv3
      have HNEW : Hid (∀ W v, Keep (fun _ => False) w W → Mbs W v (someL15 xs) → Calls Tryz.prog 80 #[.int .i64 1, v] W (GoodAt 1 (someL15 xs) (ow15 xs) W)) := Lib.hid (fun W v k hm => (refNew_ok 1 v (someL15 xs) W hm (someL15_ok xs) (by decide)).mono fun e w' h => h.at (someL15_ok xs) (by unfold I64; decide))
      obtain ⟨ll, hll⟩ : ∃ n, (someL15 xs).length = n := ⟨_, rfl⟩
      have HBK : Hid (∀ W, Keep (fun _ => False) w W → ∀ am cm ao co, Rng W (.agg #[.int .i64 1, .slice am ll cm, .slice ao 64 co]) 1 (someL15 xs) (ow15 xs) → RingBack 1 (someL15 xs) (ow15 xs) w (.returned (.agg #[.int .i64 1, .slice am ll cm, .slice ao 64 co])) W) := Lib.hid (fun W k am cm ao co hr => by subst hll; exact ⟨am, cm, ao, co, rfl, hr, k⟩)
      unfold GoodAt at HNEW
      rw [hll] at HNEW
      clear hll
      have HKO : Hid (Keep (fun _ => False) W00 wr) := Lib.hid HOW.out.1
      have HZ00 : Hid (z < W00.heap.size) := Lib.hid HBX.out.lt
      by_cases hq0 : n3 = 0
      · subst hq0
        have HL5 : Hid (someL15 xs = [⟨5, 0, 2⟩]) := Lib.hid (by unfold someL15; rw [if_pos HQ.out])
        have HMS : Hid (Mbs (wr.alloc (.cells #[.int .i64 5, .int .i64 0, .int .i64 2] 35)) (.slice (some ⟨wr.heap.size, 0, none⟩) 1 1) (someL15 xs)) := Lib.hid (by
          rw [HL5.out]
          exact mbs_owns (lo := wr.heap.size) (World.ownsRow_lit wr _ 1 (Nat.le_refl _) (by decide) rfl) (by simp) (by intro m hm; simp at hm; subst hm; unfold I64; decide))
        have HKM : Hid (Keep (fun _ => False) wr (wr.alloc (.cells #[.int .i64 5, .int .i64 0, .int .i64 2] 35))) := Lib.hid ((Keep.refl _ wr).alloc _)
        go_upto_region 9 with (fail)
        generalize wr.alloc (.cells #[.int .i64 5, .int .i64 0, .int .i64 2] 35) = Wm at *
        go_wp2_with fail
        with_reducible refine (HNEW.out _ _ (HK00.out.trans (HKO.out.trans HKM.out)) HMS.out).mono ?_
        rintro e Wn ⟨am, cm, ao, co, rfl, ⟨hrg, hja, hjo⟩, kn⟩
        have HRN := Lib.hid hrg
        have HJA : Hid (∀ j, (Value.slice am ll cm).ownBlock = some j → ¬ j = z) := Lib.hid (fun j e => by have h1 := hja j e; have h2 := HZ00.out; have h3 := (HKO.out.trans HKM.out).size; omega)
        have HJO : Hid (∀ j, (Value.slice ao 64 co).ownBlock = some j → ¬ j = z) := Lib.hid (fun j e => by have h1 := hjo j e; have h2 := HZ00.out; have h3 := (HKO.out.trans HKM.out).size; omega)
        have HKN : Hid (Keep (fun _ => False) W00 Wn) := Lib.hid ((HKO.out.trans HKM.out).trans kn)
        have HBN := Lib.hid (HBX.out.kept HKN.out)
        clear hrg kn hja hjo
        have HB5 := Lib.hid (Box3.new Wn (.int .i64 1) (.slice am ll cm) (.slice ao 64 co) 27)
        have HK5 : Hid (Keep (fun _ => False) Wn (Wn.alloc (.cells #[.int .i64 1, .slice am ll cm, .slice ao 64 co] 27))) := Lib.hid ((Keep.refl _ Wn).alloc _)
        have HBN5 := Lib.hid (HBN.out.kept HK5.out)
        go_upto_region 10 with (fail)
        generalize Wn.alloc (.cells #[.int .i64 1, .slice am ll cm, .slice ao 64 co] 27) = W5 at *
        generalize Wn.heap.size = z5 at *
        obtain ⟨y0, y1, y2, yf⟩ := HB5.out
        obtain ⟨x0, x1, x2, xf⟩ := HBN5.out
        have HBF := Lib.hid (((HBN5.out.set0 (.int .i64 1)).set1 (.slice am ll cm)).set2 (.slice ao 64 co))
        have HKF : Hid (Keep (fun j => j = z) W5 (((W5.setCell ⟨z, 0, none⟩ (.int .i64 1)).setCell ⟨z, 1, none⟩ (.slice am ll cm)).setCell ⟨z, 2, none⟩ (.slice ao 64 co))) := Lib.hid ((((Keep.refl (fun j => j = z) W5).setCell (p := ⟨z, 0, none⟩) _ (.inl rfl)).setCell (p := ⟨z, 1, none⟩) _ (.inl rfl)).setCell (p := ⟨z, 2, none⟩) _ (.inl rfl))
        have HFIN : Hid (RingBack 1 (someL15 xs) (ow15 xs) w (.returned (.agg #[.int .i64 1, .slice am ll cm, .slice ao 64 co])) (((W5.setCell ⟨z, 0, none⟩ (.int .i64 1)).setCell ⟨z, 1, none⟩ (.slice am ll cm)).setCell ⟨z, 2, none⟩ (.slice ao 64 co))) := Lib.hid (HBK.out _ ((HK00.out.trans (HKN.out.trans HK5.out)).trans' HKF.out (fun j e => .inr (by have h5 : j = z := e; have := HZ.out; omega))) am cm ao co (rng_keep (HRN.out.kept HK5.out) HKF.out HJA.out HJO.out))
        go_wp2_with fail
        clear x0 x1 x2 xf y0 y1 y2 yf
        generalize ((W5.setCell ⟨z, 0, none⟩ (.int .i64 1)).setCell ⟨z, 1, none⟩ (.slice am ll cm)).setCell ⟨z, 2, none⟩ (.slice ao 64 co) = W6 at *
        obtain ⟨g0, g1, g2, -⟩ := HBF.out
        refine bodyPost_ret (v := .agg #[.int .i64 1, .slice am ll cm, .slice ao 64 co]) (by simp [results, Tryz.results33, go_sem, g0, g1, g2]) rfl ?_
        exact HFIN.out
      · have hqz : ¬ (n3 : Int) = 0 := by omega
        have HL5 : Hid (someL15 xs = someK15 xs 8) := Lib.hid (by unfold someL15; rw [if_neg (by rw [HQ.out]; exact hq0)])
        have HMS : Hid (Mbs wr (.slice a3 n3 c3) (someL15 xs)) := Lib.hid (by
          rw [HL5.out]
          exact mbs_owns HOW.out.2 (by rw [HQ.out]; have := HQ8.out; omega) (by rw [← HL5.out]; exact (someL15_ok xs).bd))
        go_wp2_with fail
        with_reducible refine (HNEW.out _ _ (HK00.out.trans HKO.out) HMS.out).mono ?_
        rintro e Wn ⟨am, cm, ao, co, rfl, ⟨hrg, hja, hjo⟩, kn⟩
        have HRN := Lib.hid hrg
        have HJA : Hid (∀ j, (Value.slice am ll cm).ownBlock = some j → ¬ j = z) := Lib.hid (fun j e => by have h1 := hja j e; have h2 := HZ00.out; have h3 := (HKO.out).size; omega)
        have HJO : Hid (∀ j, (Value.slice ao 64 co).ownBlock = some j → ¬ j = z) := Lib.hid (fun j e => by have h1 := hjo j e; have h2 := HZ00.out; have h3 := (HKO.out).size; omega)
        have HKN : Hid (Keep (fun _ => False) W00 Wn) := Lib.hid (HKO.out.trans kn)
        have HBN := Lib.hid (HBX.out.kept HKN.out)
        clear hrg kn hja hjo
        have HB5 := Lib.hid (Box3.new Wn (.int .i64 1) (.slice am ll cm) (.slice ao 64 co) 27)
        have HK5 : Hid (Keep (fun _ => False) Wn (Wn.alloc (.cells #[.int .i64 1, .slice am ll cm, .slice ao 64 co] 27))) := Lib.hid ((Keep.refl _ Wn).alloc _)
        have HBN5 := Lib.hid (HBN.out.kept HK5.out)
        go_upto_region 10 with (fail)
        generalize Wn.alloc (.cells #[.int .i64 1, .slice am ll cm, .slice ao 64 co] 27) = W5 at *
        generalize Wn.heap.size = z5 at *
        obtain ⟨y0, y1, y2, yf⟩ := HB5.out
        obtain ⟨x0, x1, x2, xf⟩ := HBN5.out
        have HBF := Lib.hid (((HBN5.out.set0 (.int .i64 1)).set1 (.slice am ll cm)).set2 (.slice ao 64 co))
        have HKF : Hid (Keep (fun j => j = z) W5 (((W5.setCell ⟨z, 0, none⟩ (.int .i64 1)).setCell ⟨z, 1, none⟩ (.slice am ll cm)).setCell ⟨z, 2, none⟩ (.slice ao 64 co))) := Lib.hid ((((Keep.refl (fun j => j = z) W5).setCell (p := ⟨z, 0, none⟩) _ (.inl rfl)).setCell (p := ⟨z, 1, none⟩) _ (.inl rfl)).setCell (p := ⟨z, 2, none⟩) _ (.inl rfl))
        have HFIN : Hid (RingBack 1 (someL15 xs) (ow15 xs) w (.returned (.agg #[.int .i64 1, .slice am ll cm, .slice ao 64 co])) (((W5.setCell ⟨z, 0, none⟩ (.int .i64 1)).setCell ⟨z, 1, none⟩ (.slice am ll cm)).setCell ⟨z, 2, none⟩ (.slice ao 64 co))) := Lib.hid (HBK.out _ ((HK00.out.trans (HKN.out.trans HK5.out)).trans' HKF.out (fun j e => .inr (by have h5 : j = z := e; have := HZ.out; omega))) am cm ao co (rng_keep (HRN.out.kept HK5.out) HKF.out HJA.out HJO.out))
        go_wp2_with fail
        clear x0 x1 x2 xf y0 y1 y2 yf
        generalize ((W5.setCell ⟨z, 0, none⟩ (.int .i64 1)).setCell ⟨z, 1, none⟩ (.slice am ll cm)).setCell ⟨z, 2, none⟩ (.slice ao 64 co) = W6 at *
        obtain ⟨g0, g1, g2, -⟩ := HBF.out
        refine bodyPost_ret (v := .agg #[.int .i64 1, .slice am ll cm, .slice ao 64 co]) (by simp [results, Tryz.results33, go_sem, g0, g1, g2]) rfl ?_
        exact HFIN.out
end Go.Proofs.YtplkmbfeeegaiaaGreatDoor

/-
  The plain law: counters in their order, and what each call makes of them.
-/
namespace Go.Proofs.YtplkmbfeeegaiaaGreatDoor.Sk
open Go.RowKit

/-- x comes before y. -/
def BefC (x y : C) : Prop := y.hi < x.hi ∨ (y.hi = x.hi ∧ x.key.data.toList < y.key.data.toList)
instance (x y : C) : Decidable (BefC x y) := inferInstanceAs (Decidable (y.hi < x.hi ∨ (y.hi = x.hi ∧ x.key.data.toList < y.key.data.toList)))

theorem data_inj {s t : ByteArray} (e : s.data.toList = t.data.toList) : s = t := toList_inj (by rw [ByteArray.toList_eq, ByteArray.toList_eq]; exact e)
theorem BefC.trans {x y z : C} (h1 : BefC x y) (h2 : BefC y z) : BefC x z := by
  unfold BefC at *
  rcases h1 with h1 | ⟨h1, g1⟩
  · rcases h2 with h2 | ⟨h2, g2⟩
    · left; omega
    · left; omega
  · rcases h2 with h2 | ⟨h2, g2⟩
    · left; omega
    · right; exact ⟨by omega, lt_tr g1 g2⟩
theorem BefC.irrefl {x : C} (h : BefC x x) : False := by
  unfold BefC at h
  rcases h with h | ⟨_, h⟩
  · omega
  · exact lt_irr _ h
theorem BefC.total {x y : C} (h : x.key ≠ y.key) : BefC x y ∨ BefC y x := by
  unfold BefC
  rcases Int.lt_trichotomy x.hi y.hi with h1 | h1 | h1
  · exact .inr (.inl h1)
  · rcases lt_total x.key.data.toList y.key.data.toList with h2 | h2 | h2
    · exact .inl (.inr ⟨h1.symm, h2⟩)
    · exact absurd (data_inj h2) h
    · exact .inr (.inr ⟨h1, h2⟩)
  · exact .inl (.inl h1)

def insC (x : C) : List C → List C
  | [] => [x]
  | y :: r => if BefC y x then y :: insC x r else x :: y :: r
def ordC (l : List C) : List C := l.foldr insC []

theorem insC_perm (x : C) : ∀ l : List C, (insC x l).Perm (x :: l)
  | [] => List.Perm.refl _
  | y :: r => by
    unfold insC
    split
    · exact ((insC_perm x r).cons y).trans (List.Perm.swap x y r)
    · exact List.Perm.refl _
theorem insC_sorted {x : C} : ∀ {l : List C}, l.Pairwise BefC → (∀ y ∈ l, y.key ≠ x.key) → (insC x l).Pairwise BefC
  | [], _, _ => by simp [insC]
  | y :: r, h, hk => by
    rw [List.pairwise_cons] at h
    unfold insC
    split
    · rename_i hb
      rw [List.pairwise_cons]
      refine ⟨fun z hz => ?_, insC_sorted h.2 (fun z hz => hk z (by simp [hz]))⟩
      rcases List.mem_cons.1 ((insC_perm x r).mem_iff.1 hz) with rfl | hz
      · exact hb
      · exact h.1 z hz
    · rename_i hb
      have hxy : BefC x y := (BefC.total (hk y (by simp))).resolve_left hb
      rw [List.pairwise_cons]
      refine ⟨fun z hz => ?_, List.pairwise_cons.2 h⟩
      rcases List.mem_cons.1 hz with rfl | hz
      · exact hxy
      · exact hxy.trans (h.1 z hz)
theorem ordC_perm : ∀ l : List C, (ordC l).Perm l
  | [] => List.Perm.refl _
  | x :: r => (insC_perm x (ordC r)).trans ((ordC_perm r).cons x)
theorem ordC_sorted : ∀ {l : List C}, (l.map C.key).Nodup → (ordC l).Pairwise BefC
  | [], _ => List.Pairwise.nil
  | x :: r, h => by
    rw [List.map_cons, List.nodup_cons] at h
    exact insC_sorted (ordC_sorted h.2) (fun y hy e => h.1 (e ▸ List.mem_map_of_mem ((ordC_perm r).mem_iff.1 hy)))
theorem sorted_eq {A B : List C} (hp : A.Perm B) (hA : A.Pairwise BefC) (hB : B.Pairwise BefC) : A = B :=
  hp.eq_of_pairwise (fun _ _ _ _ h1 h2 => absurd (h1.trans h2) (fun h => h.irrefl)) hA hB
theorem ordC_of_perm {A B : List C} (hp : A.Perm B) (hA : (A.map C.key).Nodup) : ordC A = ordC B :=
  sorted_eq (((ordC_perm A).trans hp).trans (ordC_perm B).symm) (ordC_sorted hA) (ordC_sorted ((hp.map C.key).nodup_iff.1 hA))
theorem ordC_of_sorted {A B : List C} (hp : A.Perm B) (hA : A.Pairwise BefC) (hk : (A.map C.key).Nodup) : A = ordC B :=
  sorted_eq (hp.trans (ordC_perm B).symm) hA (ordC_sorted ((hp.map C.key).nodup_iff.1 hk))

/-- The sum of the upper bounds. -/
def sumH : List C → Int
  | [] => 0
  | x :: r => x.hi + sumH r
theorem sumH_append : ∀ a b : List C, sumH (a ++ b) = sumH a + sumH b
  | [], b => by simp [sumH]
  | x :: r, b => by simp only [List.cons_append, sumH]; rw [sumH_append r b]; omega
theorem sumH_perm {A B : List C} (h : A.Perm B) : sumH A = sumH B := by
  induction h with
  | nil => rfl
  | cons x _ ih => simp only [sumH]; rw [ih]
  | swap x y l => simp only [sumH]; omega
  | trans _ _ ih1 ih2 => rw [ih1, ih2]
theorem sumH_nonneg : ∀ {L : List C}, (∀ x ∈ L, 0 ≤ x.hi) → 0 ≤ sumH L
  | [], _ => by simp [sumH]
  | x :: r, h => by simp only [sumH]; have := h x (by simp); have := sumH_nonneg (L := r) (fun y hy => h y (by simp [hy])); omega
theorem sumH_mem {L : List C} (h : ∀ x ∈ L, 0 ≤ x.hi) {x : C} (hx : x ∈ L) : x.hi ≤ sumH L := by
  obtain ⟨X, Y, rfl⟩ := List.append_of_mem hx
  have h1 := sumH_nonneg (L := X) (fun y hy => h y (by simp [hy]))
  have h2 := sumH_nonneg (L := Y) (fun y hy => h y (by simp [hy]))
  rw [sumH_append]; simp only [sumH]; omega

/-- Without the counter of a key. -/
def delC (L : List C) (key : ByteArray) : List C := L.filter (fun x => decide (x.key ≠ key))
theorem mem_delC {L : List C} {key : ByteArray} {x : C} : x ∈ delC L key ↔ x ∈ L ∧ x.key ≠ key := by unfold delC; simp
theorem delC_keys {L : List C} (h : (L.map C.key).Nodup) (key : ByteArray) : ((delC L key).map C.key).Nodup := h.sublist ((List.filter_sublist).map _)
theorem delC_none {L : List C} {key : ByteArray} (h : atC L key = none) : delC L key = L := by
  unfold delC
  rw [List.filter_eq_self]
  intro x hx
  simpa using atC_none h x hx
theorem atC_of_mem {L : List C} (h : (L.map C.key).Nodup) {x : C} (hx : x ∈ L) : atC L x.key = some x := by
  cases e : atC L x.key with
  | none => exact absurd rfl (atC_none e x hx)
  | some y =>
    obtain ⟨h1, h2⟩ := atC_some e
    obtain ⟨i, hi⟩ := List.mem_iff_getElem?.1 hx
    obtain ⟨j, hj⟩ := List.mem_iff_getElem?.1 h1
    have := nodup_idx h hi hj h2.symm
    subst this
    rw [hi] at hj; exact hj.symm
theorem atC_perm {A B : List C} (hp : A.Perm B) (h : (A.map C.key).Nodup) (key : ByteArray) : atC A key = atC B key := by
  have hB := (hp.map C.key).nodup_iff.1 h
  cases e : atC B key with
  | none =>
    cases e2 : atC A key with
    | none => rfl
    | some y => obtain ⟨h1, h2⟩ := atC_some e2; exact absurd h2 (atC_none e y (hp.mem_iff.1 h1))
  | some y => obtain ⟨h1, h2⟩ := atC_some e; rw [← h2]; exact atC_of_mem h (hp.mem_iff.2 h1)
theorem delC_split {L : List C} (h : (L.map C.key).Nodup) {x : C} (hx : x ∈ L) : L.Perm (x :: delC L x.key) := by
  obtain ⟨X, Y, rfl⟩ := List.append_of_mem hx
  have e : delC (X ++ x :: Y) x.key = X ++ Y := by
    rw [List.map_append, List.map_cons, List.nodup_append, List.nodup_cons] at h
    unfold delC
    rw [List.filter_append, List.filter_cons]
    rw [List.filter_eq_self.2 (fun y hy => by simpa using fun e : y.key = x.key => h.2.2 y.key (List.mem_map_of_mem hy) x.key (by simp) e), List.filter_eq_self.2 (fun y hy => by simpa using fun e : y.key = x.key => h.2.1.1 (e ▸ List.mem_map_of_mem hy))]
    simp
  rw [e]
  exact List.perm_middle
theorem sumH_del {L : List C} (h : (L.map C.key).Nodup) (key : ByteArray) : sumH (delC L key) = sumH L - hiOf L key := by
  unfold hiOf
  cases e : atC L key with
  | none => rw [delC_none e]; simp
  | some x =>
    obtain ⟨h1, h2⟩ := atC_some e
    have := sumH_perm (delC_split h h1)
    rw [h2] at this
    simp only [sumH] at this
    simp only []
    omega
theorem len_del {L : List C} (h : (L.map C.key).Nodup) {x : C} (hx : x ∈ L) : L.length = (delC L x.key).length + 1 := by
  have := (delC_split h hx).length_eq
  simpa using this

/-- With new bounds of a key. -/
def putC (L : List C) (x : C) : List C := x :: delC L x.key
theorem putC_keys {L : List C} (h : (L.map C.key).Nodup) (x : C) : ((putC L x).map C.key).Nodup := by
  unfold putC
  rw [List.map_cons, List.nodup_cons]
  refine ⟨fun hm => ?_, delC_keys h _⟩
  obtain ⟨y, hy, e⟩ := List.mem_map.1 hm
  exact (mem_delC.1 hy).2 e
theorem sumH_put {L : List C} (h : (L.map C.key).Nodup) (x : C) : sumH (putC L x) = sumH L + (x.hi - hiOf L x.key) := by
  unfold putC
  simp only [sumH]
  rw [sumH_del h]; omega

theorem hiOf_mem {L : List C} (h : (L.map C.key).Nodup) {x : C} (hx : x ∈ L) : hiOf L x.key = x.hi := by unfold hiOf; rw [atC_of_mem h hx]
theorem loOf_mem {L : List C} (h : (L.map C.key).Nodup) {x : C} (hx : x ∈ L) : loOf L x.key = x.lo := by unfold loOf; rw [atC_of_mem h hx]
theorem bef_iff {L : List C} (h : (L.map C.key).Nodup) {x y : C} (hx : x ∈ L) (hy : y ∈ L) : Bef L x.key y.key ↔ BefC x y := by
  unfold Bef BefC
  rw [hiOf_mem h hx, hiOf_mem h hy, ByteArray.toList_eq, ByteArray.toList_eq]

/-- The last one. -/
theorem isLast_eq {L : List C} (h : (L.map C.key).Nodup) (hs : L.Pairwise BefC) {out : ByteArray} (hl : IsLast L L out) : ∃ x, L.getLast? = some x ∧ x.key = out := by
  obtain ⟨hm, hb⟩ := hl
  obtain ⟨y, hy, rfl⟩ := List.mem_map.1 hm
  obtain ⟨X, x, rfl⟩ : ∃ X x, L = X ++ [x] := by
    rcases List.eq_nil_or_concat L with rfl | ⟨X, x, e⟩
    · cases hy
    · exact ⟨X, x, by simpa using e⟩
  refine ⟨x, by simp, ?_⟩
  rcases List.mem_append.1 hy with hy' | hy'
  · have h1 : BefC y x := (List.pairwise_append.1 hs).2.2 y hy' x (by simp)
    have h2 := hb x (by simp)
    have h3 := cmpK_pos.2 ((bef_iff h hy (show x ∈ X ++ [x] by simp)).2 h1)
    omega
  · rw [List.mem_singleton] at hy'; rw [hy']

/-- What holds of a sketch's counters. -/
structure OkL (cap : Nat) (L : List C) : Prop where
  cap1 : 1 ≤ cap
  cap64 : cap ≤ 64
  len : L.length ≤ cap
  sorted : L.Pairwise BefC
  keys : (L.map C.key).Nodup
  ks : ∀ x ∈ L, x.key.size ≤ maxLen
  pos : ∀ x ∈ L, 0 ≤ x.lo ∧ x.lo ≤ x.hi ∧ 1 ≤ x.hi
  sum : sumH L ≤ 4611686018427387903

theorem OkL.nil {cap : Nat} (h1 : 1 ≤ cap) (h2 : cap ≤ 64) : OkL cap [] := ⟨h1, h2, by simp, List.Pairwise.nil, by simp, by simp, by simp, by simp [sumH]⟩
theorem OkL.mem {cap : Nat} {L : List C} (h : OkL cap L) {x : C} (hx : x ∈ L) : x.hi ≤ sumH L := sumH_mem (fun y hy => by have := h.pos y hy; omega) hx
theorem OkL.hi0 {cap : Nat} {L : List C} (h : OkL cap L) (key : ByteArray) : 0 ≤ hiOf L key ∧ hiOf L key ≤ sumH L ∧ 0 ≤ loOf L key ∧ loOf L key ≤ hiOf L key := by
  have h0 := sumH_nonneg (L := L) (fun y hy => by have := h.pos y hy; omega)
  unfold hiOf loOf
  cases e : atC L key with
  | none => exact ⟨by simp, h0, by simp, by simp⟩
  | some x =>
    obtain ⟨h1, _⟩ := atC_some e
    have := h.pos x h1
    have := h.mem h1
    exact ⟨by simp only []; omega, this, by simp only []; omega, by simp only []; omega⟩

/-- The least count. -/
def leastC (cap : Nat) (L : List C) : Int := if L.length < cap then 0 else match L.getLast? with | none => 0 | some x => x.hi

theorem OkL.least {cap : Nat} {L : List C} (h : OkL cap L) : 0 ≤ leastC cap L ∧ leastC cap L ≤ sumH L := by
  have h0 := sumH_nonneg (L := L) (fun y hy => by have := h.pos y hy; omega)
  unfold leastC
  split
  · exact ⟨by omega, h0⟩
  · cases e : L.getLast? with
    | none => exact ⟨by simp, h0⟩
    | some x =>
      have hx := List.mem_of_getLast? e
      have := h.pos x hx
      exact ⟨by simp only []; omega, h.mem hx⟩

/-- Add. -/
def addC (cap : Nat) (L : List C) (key : ByteArray) (n : Int) : List C :=
  match atC L key with
  | some x => insC ⟨key, x.lo + n, x.hi + n⟩ (delC L key)
  | none => if L.length = cap then insC ⟨key, n, leastC cap L + n⟩ L.dropLast else insC ⟨key, n, n⟩ L

theorem OkL.ins {cap : Nat} {L : List C} {x : C} (h1 : 1 ≤ cap) (h2 : cap ≤ 64) (hl : L.length + 1 ≤ cap) (hs : L.Pairwise BefC) (hk : (L.map C.key).Nodup) (hks : ∀ y ∈ L, y.key.size ≤ maxLen) (hp : ∀ y ∈ L, 0 ≤ y.lo ∧ y.lo ≤ y.hi ∧ 1 ≤ y.hi)
    (hx : x.key.size ≤ maxLen) (hxp : 0 ≤ x.lo ∧ x.lo ≤ x.hi ∧ 1 ≤ x.hi) (hne : ∀ y ∈ L, y.key ≠ x.key) (hsum : x.hi + sumH L ≤ 4611686018427387903) : OkL cap (insC x L) := by
  have hp' := insC_perm x L
  refine ⟨h1, h2, by rw [hp'.length_eq]; simpa using hl, insC_sorted hs hne, ?_, ?_, ?_, by rw [sumH_perm hp']; simpa [sumH] using hsum⟩
  · rw [(hp'.map C.key).nodup_iff, List.map_cons, List.nodup_cons]
    exact ⟨fun hm => by obtain ⟨y, hy, e⟩ := List.mem_map.1 hm; exact hne y hy e, hk⟩
  · intro y hy
    rcases List.mem_cons.1 (hp'.mem_iff.1 hy) with rfl | hy
    · exact hx
    · exact hks y hy
  · intro y hy
    rcases List.mem_cons.1 (hp'.mem_iff.1 hy) with rfl | hy
    · exact hxp
    · exact hp y hy

theorem sumH_dropLast {L : List C} {x : C} (e : L.getLast? = some x) : sumH L.dropLast + x.hi = sumH L := by
  obtain ⟨X, rfl⟩ := List.getLast?_eq_some_iff.1 e
  rw [List.dropLast_concat, sumH_append]
  simp [sumH]

theorem addC_sum {cap : Nat} {L : List C} (h : OkL cap L) (key : ByteArray) (n : Int) : sumH (addC cap L key n) = sumH L + n := by
  unfold addC
  cases e : atC L key with
  | some x =>
    obtain ⟨h1, h2⟩ := atC_some e
    simp only []
    rw [sumH_perm (insC_perm _ _)]
    have := sumH_perm (delC_split h.keys h1)
    rw [h2] at this
    simp only [sumH] at this ⊢
    omega
  | none =>
    simp only []
    split
    · rename_i hl
      rw [sumH_perm (insC_perm _ _)]
      simp only [sumH]
      unfold leastC
      rw [if_neg (by omega)]
      cases e2 : L.getLast? with
      | none =>
        rw [List.getLast?_eq_none_iff] at e2
        have := h.cap1
        rw [e2] at hl; simp at hl; omega
      | some x =>
        have := sumH_dropLast e2
        simp only []
        omega
    · rw [sumH_perm (insC_perm _ _)]
      simp only [sumH]
      omega

theorem addC_ok {cap : Nat} {L : List C} (h : OkL cap L) {key : ByteArray} {n : Int} (hk : key.size ≤ maxLen) (hn : 1 ≤ n) (hs : sumH L + n ≤ 4611686018427387903) : OkL cap (addC cap L key n) := by
  have hsum := addC_sum h key n
  have hl0 := h.least
  unfold addC at hsum ⊢
  cases e : atC L key with
  | some x =>
    rw [e] at hsum
    obtain ⟨h1, h2⟩ := atC_some e
    simp only [] at hsum ⊢
    rw [sumH_perm (insC_perm _ _)] at hsum
    simp only [sumH] at hsum
    have hp := h.pos x h1
    have hlen := len_del h.keys h1
    rw [h2] at hlen
    have := h.len
    exact OkL.ins h.cap1 h.cap64 (by omega) (h.sorted.sublist List.filter_sublist) (delC_keys h.keys _) (fun y hy => h.ks y (mem_delC.1 hy).1) (fun y hy => h.pos y (mem_delC.1 hy).1) hk ⟨by simp only []; omega, by simp only []; omega, by simp only []; omega⟩ (fun y hy => (mem_delC.1 hy).2) (by simp only []; omega)
  | none =>
    rw [e] at hsum
    simp only [] at hsum ⊢
    have hne := atC_none e
    split
    · rename_i hl
      rw [if_pos hl, sumH_perm (insC_perm _ _)] at hsum
      simp only [sumH] at hsum
      have hsub : L.dropLast.Sublist L := List.dropLast_sublist L
      have := h.cap1
      exact OkL.ins h.cap1 h.cap64 (by rw [List.length_dropLast]; omega) (h.sorted.sublist hsub) (h.keys.sublist (hsub.map _)) (fun y hy => h.ks y (hsub.mem hy)) (fun y hy => h.pos y (hsub.mem hy)) hk ⟨by simp only []; omega, by simp only []; omega, by simp only []; omega⟩ (fun y hy => hne y (hsub.mem hy)) (by simp only []; omega)
    · rename_i hl
      rw [if_neg hl, sumH_perm (insC_perm _ _)] at hsum
      simp only [sumH] at hsum
      have := h.len
      exact OkL.ins h.cap1 h.cap64 (by omega) h.sorted h.keys h.ks h.pos hk ⟨by simp only []; omega, by simp only []; omega, by simp only []; omega⟩ hne (by simp only []; omega)

/-- Halve. -/
def halfC (x : C) : C := ⟨x.key, x.lo / 2, (x.hi + 1) / 2⟩
def halveC (L : List C) : List C := ordC (L.map halfC)
theorem half_keys (L : List C) : (L.map halfC).map C.key = L.map C.key := by rw [List.map_map]; rfl
theorem sumH_half : ∀ {L : List C}, (∀ x ∈ L, 1 ≤ x.hi) → sumH (L.map halfC) ≤ sumH L
  | [], _ => by simp [sumH]
  | x :: r, h => by
    simp only [List.map_cons, sumH, halfC]
    have := h x (by simp)
    have h2 := sumH_half (L := r) (fun y hy => h y (by simp [hy]))
    omega
theorem halveC_ok {cap : Nat} {L : List C} (h : OkL cap L) : OkL cap (halveC L) := by
  have hp := ordC_perm (L.map halfC)
  have hkk : ((L.map halfC).map C.key).Nodup := by rw [half_keys]; exact h.keys
  refine ⟨h.cap1, h.cap64, by unfold halveC; rw [hp.length_eq, List.length_map]; exact h.len, ordC_sorted hkk, (hp.map C.key).nodup_iff.2 hkk, ?_, ?_, ?_⟩
  · intro y hy
    obtain ⟨x, hx, rfl⟩ := List.mem_map.1 (hp.mem_iff.1 hy)
    exact h.ks x hx
  · intro y hy
    obtain ⟨x, hx, rfl⟩ := List.mem_map.1 (hp.mem_iff.1 hy)
    have := h.pos x hx
    show 0 ≤ x.lo / 2 ∧ x.lo / 2 ≤ (x.hi + 1) / 2 ∧ 1 ≤ (x.hi + 1) / 2
    omega
  · unfold halveC
    rw [sumH_perm hp]
    have := sumH_half (L := L) (fun x hx => by have := h.pos x hx; omega)
    have := h.sum
    omega
end Go.Proofs.YtplkmbfeeegaiaaGreatDoor.Sk

/-
  put, drop, least.
-/
namespace Go.Proofs.YtplkmbfeeegaiaaGreatDoor.Sk
open Go.RowKit

theorem CRel.put {L : List C} {x : C} (k v : Value) : CRel (putC L x) k v ↔ (k = .string x.key ∧ v = bnd x.lo x.hi) ∨ (k ≠ .string x.key ∧ CRel L k v) := by
  unfold CRel putC
  constructor
  · rintro ⟨y, hy, rfl, rfl⟩
    rcases List.mem_cons.1 hy with rfl | hy
    · exact .inl ⟨rfl, rfl⟩
    · obtain ⟨h1, h2⟩ := mem_delC.1 hy
      exact .inr ⟨fun e => h2 (Value.string.inj e), y, h1, rfl, rfl⟩
  · rintro (⟨rfl, rfl⟩ | ⟨hne, y, hy, rfl, rfl⟩)
    · exact ⟨x, by simp, rfl, rfl⟩
    · exact ⟨y, List.mem_cons_of_mem _ (mem_delC.2 ⟨hy, fun e => hne (by rw [e])⟩), rfl, rfl⟩
theorem CRel.del {L : List C} {key : ByteArray} (k v : Value) : CRel (delC L key) k v ↔ (k ≠ .string key ∧ CRel L k v) := by
  unfold CRel
  constructor
  · rintro ⟨y, hy, rfl, rfl⟩
    obtain ⟨h1, h2⟩ := mem_delC.1 hy
    exact ⟨fun e => h2 (Value.string.inj e), y, h1, rfl, rfl⟩
  · rintro ⟨hne, y, hy, rfl, rfl⟩
    exact ⟨y, mem_delC.2 ⟨hy, fun e => hne (by rw [e])⟩, rfl, rfl⟩
theorem CRel.perm {L M : List C} (h : L.Perm M) (k v : Value) : CRel M k v ↔ CRel L k v := by
  unfold CRel
  exact ⟨fun ⟨x, hx, r⟩ => ⟨x, h.mem_iff.2 hx, r⟩, fun ⟨x, hx, r⟩ => ⟨x, h.mem_iff.1 hx, r⟩⟩
theorem SkAt.perm {w : World} {s bm : Nat} {cap tot : Int} {L M : List C} (h : SkAt w s bm cap tot L) (hp : L.Perm M) : SkAt w s bm cap tot M :=
  ⟨h.c0, h.c1, h.c2, h.fz, h.map.congr (CRel.perm hp), (hp.map C.key).nodup_iff.1 h.keys, fun x hx => h.ks x (hp.mem_iff.2 hx)⟩
theorem SkAt.len {w : World} {s bm : Nat} {cap tot : Int} {L : List C} (h : SkAt w s bm cap tot L) (ty : TypeId) : (Builtin.len_ #[109] ty #[.map (some bm)]).run Tryz.prog w = .ok (.int .i64 L.length) w := by
  obtain ⟨left, h1, h2, h3⟩ := h.map.len (t := 109) Tryz.underlying109
  have := (list_of_rel h.keys h1 h2).length_eq
  rw [List.length_map] at this
  rw [this]
  exact h3 ty

theorem two_cell (W : World) (x y : Value) (t : TypeId) : (W.alloc (.cells #[x, y] t)).cell? ⟨W.heap.size, 0, none⟩ = some x ∧ (W.alloc (.cells #[x, y] t)).cell? ⟨W.heap.size, 1, none⟩ = some y ∧ ∀ o, (W.alloc (.cells #[x, y] t)).frozen? ⟨W.heap.size, o, none⟩ = false := by
  have hh : (W.alloc (.cells #[x, y] t)).heap[W.heap.size]? = some (.cells #[x, y] t) := World.alloc_heap_new _ _
  refine ⟨?_, ?_, fun o => ?_⟩
  · unfold World.cell?; simp only [hh]; rfl
  · unfold World.cell?; simp only [hh]; rfl
  · unfold World.frozen?; simp only [hh]; simp

def PutPost (w : World) (s bm : Nat) (cap tot : Int) (L : List C) (x : C) (e : Ending) (w' : World) : Prop :=
  e = .returned (.tuple #[]) ∧ SkAt w' s bm cap (tot + (x.hi - hiOf L x.key)) (putC L x) ∧ Keep (fun k => k = s ∨ k = bm) w w' ∧
    ∀ r left, Ranging Tryz.prog 9 w bm r (CRel L) left → (∀ p ∈ left, p.1 ≠ .string x.key) → (∃ y ∈ L, y.key = x.key) → r ≠ s → Ranging Tryz.prog 9 w' bm r (CRel (putC L x)) left

set_option maxRecDepth 100000 in
set_option maxHeartbeats 2000000 in
theorem put_sk {w : World} {s bm : Nat} {cap tot : Int} {L : List C} (h : SkAt w s bm cap tot L) (x : C) (hk : x.key.size ≤ maxLen) (h1 : -4611686018427387904 ≤ x.hi - hiOf L x.key ∧ x.hi - hiOf L x.key ≤ 4611686018427387904) (h2 : 0 ≤ tot ∧ tot ≤ 4611686018427387903) :
    Calls Tryz.prog 89 #[ptr s, .string x.key, bnd x.lo x.hi] w (PutPost w s bm cap tot L x) := by
  obtain ⟨b0, b1, bf⟩ := two_cell w (.int .i64 x.lo) (.int .i64 x.hi) 116
  have ks := (Keep.refl (fun _ => False) w).alloc (.cells #[.int .i64 x.lo, .int .i64 x.hi] 116)
  have hs := h.keep ks (fun h => h) (fun h => h)
  have H := Lib.hid h
  have HKS := Lib.hid ks
  have hsw := h.lt.1
  have hbw := h.lt.2
  clear h ks
  go_enter Tryz.func89, Tryz.ntmps89
  go_wp2_with fail
  have hws : (w.alloc (.cells #[.int .i64 x.lo, .int .i64 x.hi] 116)).heap.size = w.heap.size + 1 := by simp
  generalize w.alloc (.cells #[.int .i64 x.lo, .int .i64 x.hi] 116) = W at *
  have b0' : W.drew.cell? ⟨w.heap.size, 0, none⟩ = some (.int .i64 x.lo) := b0
  have b1' : W.drew.cell? ⟨w.heap.size, 1, none⟩ = some (.int .i64 x.hi) := b1
  have c1' : W.drew.cell? ⟨s, 1, none⟩ = some (.int .i64 tot) := hs.c1
  have c2' : W.drew.cell? ⟨s, 2, none⟩ = some (.map (some bm)) := hs.c2
  have fz := hs.fz 1
  have lk := look_one (w := W.drew) (hs.map.of_heap rfl) hk
  have fd := field_hi (loOf L x.key) (hiOf L x.key) W.drew
  have HS := Lib.hid hs
  have HB := Lib.hid (And.intro b0 (And.intro b1 bf))
  have HLT := Lib.hid (And.intro hsw hbw)
  have HWS := Lib.hid hws
  clear hs b0 b1 bf hsw hbw hws
  refine wp_region_still_tail 17 (by kernel_rfl) (by kernel_rfl) ?_
  simp only [List.take_succ_cons, List.take_zero, List.drop_succ_cons, List.drop_zero]
  change wpStill _ _ W.drew _ _ _
  iterate 17 still_step
  refine wpStill_nil ?_
  go_wp2_with fail
  clear lk fd c1' c2' b0' b1' fz
  have hne := HS.out.ne
  have kset : Keep (fun k => k = s) W (W.setCell ⟨s, 1, none⟩ (.int .i64 (tot + (x.hi - hiOf L x.key)))).drew := ((Keep.refl (fun k => k = s) W).setCell _ (.inl rfl)).drew
  have g0 : (W.setCell ⟨s, 1, none⟩ (.int .i64 (tot + (x.hi - hiOf L x.key)))).drew.cell? ⟨s, 0, none⟩ = some (.int .i64 cap) := (cell_set_off (by decide)).trans HS.out.c0
  have g1 : (W.setCell ⟨s, 1, none⟩ (.int .i64 (tot + (x.hi - hiOf L x.key)))).drew.cell? ⟨s, 1, none⟩ = some (.int .i64 (tot + (x.hi - hiOf L x.key))) := cell_set_same HS.out.c1
  have g2 : (W.setCell ⟨s, 1, none⟩ (.int .i64 (tot + (x.hi - hiOf L x.key)))).drew.cell? ⟨s, 2, none⟩ = some (.map (some bm)) := (cell_set_off (by decide)).trans HS.out.c2
  have gf : ∀ o, (W.setCell ⟨s, 1, none⟩ (.int .i64 (tot + (x.hi - hiOf L x.key)))).drew.frozen? ⟨s, o, none⟩ = false := fun o => (World.frozen?_setCell _ _ _ _).trans (HS.out.fz o)
  have gm : MapRel Tryz.prog 9 (W.setCell ⟨s, 1, none⟩ (.int .i64 (tot + (x.hi - hiOf L x.key)))).drew bm (CRel L) := HS.out.map.of_heap (heap_set_ne (Ne.symm hne))
  have gb0 := kset.cell HB.out.1 (by have := HLT.out.1; omega)
  have gb1 := kset.cell HB.out.2.1 (by have := HLT.out.1; omega)
  generalize (W.setCell ⟨s, 1, none⟩ (.int .i64 (tot + (x.hi - hiOf L x.key)))).drew = V at *
  obtain ⟨es', cl', hup, hmr⟩ := (gm.of_heap (w' := V.drew) rfl).update (t := 109) strKeyed Tryz.underlying109 (keyStr hk) (bnd x.lo x.hi)
  have gb0' : V.drew.cell? ⟨w.heap.size, 0, none⟩ = some (.int .i64 x.lo) := gb0
  have gb1' : V.drew.cell? ⟨w.heap.size, 1, none⟩ = some (.int .i64 x.hi) := gb1
  have g2' : V.drew.cell? ⟨s, 2, none⟩ = some (.map (some bm)) := g2
  have HG := Lib.hid (And.intro g0 (And.intro g1 (And.intro g2 (And.intro gf (And.intro gm (And.intro kset (And.intro hmr (And.intro hne hup))))))))
  clear g0 g1 g2 gf gm kset gb0 gb1 hmr hne
  refine wp_region_still_tail 6 (by kernel_rfl) (by kernel_rfl) ?_
  simp only [List.take_succ_cons, List.take_zero, List.drop_succ_cons, List.drop_zero]
  change wpStill _ _ V.drew _ _ _
  iterate 6 still_step
  refine wpStill_nil ?_
  go_wp2_with fail
  refine bodyPost_ret (results_none rfl _ _ _) rfl ?_
  obtain ⟨g0, g1, g2, gf, gm, kset, hmr, hne, hup⟩ := HG.out
  have kput := (Keep.refl (fun k => k = bm) V.drew).putObj (b := bm) (.map es' cl') (.inl rfl)
  have kk : Keep (fun k => k = s ∨ k = bm) w (V.drew.putObj bm (.map es' cl')) := ((HKS.out.mono (fun _ h => h.elim)).trans ((kset.mono (fun _ h => .inl h)).drew)).trans (kput.mono (fun _ h => .inr h))
  refine ⟨rfl, ⟨kput.cell g0 hne, kput.cell g1 hne, kput.cell g2 hne, fun o => (frozen_put hne).trans (gf o), hmr.congr (fun k v => CRel.put k v), putC_keys H.out.keys x, fun y hy => ?_⟩, kk, fun r left hr hl hy hrs => ?_⟩
  · rcases List.mem_cons.1 hy with rfl | hy
    · exact hk
    · exact H.out.ks y (mem_delC.1 hy).1
  · obtain ⟨y, hy, hyk⟩ := hy
    have hrw := hr.lt.1
    have hr2 : Ranging Tryz.prog 9 V.drew bm r (CRel L) left := hr.of_heap ((kset.drew.block _ (by have := HLT.out.2; have := HWS.out; omega) (fun e => hne e.symm)).trans (HKS.out.block _ HLT.out.2 (fun h => h))) ((kset.drew.block _ (by have := HWS.out; omega) hrs).trans (HKS.out.block _ hrw (fun h => h)))
    have := hr2.update strKeyed Tryz.underlying109 (keyStr hk) (bnd x.lo x.hi) (v0 := bnd y.lo y.hi) ⟨y, hy, by rw [hyk], rfl⟩ hl hup
    obtain ⟨es, clock, since, seen, c0, a1, a2, a3, a4, a5⟩ := this
    exact ⟨es, clock, since, seen, c0, a1, a2, a3, fun k v => (CRel.put k v).trans (a4 k v), a5⟩
end Go.Proofs.YtplkmbfeeegaiaaGreatDoor.Sk

/-
  drop, least, bounds.add.
-/
namespace Go.Proofs.YtplkmbfeeegaiaaGreatDoor.Sk
open Go.RowKit

set_option maxRecDepth 100000 in
set_option maxHeartbeats 2000000 in
theorem drop_sk {w : World} {s bm : Nat} {cap tot : Int} {L : List C} (h : SkAt w s bm cap tot L) (key : ByteArray) (hk : key.size ≤ maxLen) (h1 : 0 ≤ hiOf L key ∧ hiOf L key ≤ 4611686018427387904) (h2 : 0 ≤ tot ∧ tot ≤ 4611686018427387903) :
    Calls Tryz.prog 87 #[ptr s, .string key] w fun e w' => e = .returned (.tuple #[]) ∧ SkAt w' s bm cap (tot - hiOf L key) (delC L key) ∧ Keep (fun k => k = s ∨ k = bm) w w' := by
  have c1' : w.drew.cell? ⟨s, 1, none⟩ = some (.int .i64 tot) := h.c1
  have c2' : w.drew.cell? ⟨s, 2, none⟩ = some (.map (some bm)) := h.c2
  have fz := h.fz 1
  have lk := look_one (w := w.drew) (h.map.of_heap rfl) hk
  have fd := field_hi (loOf L key) (hiOf L key) w.drew
  have H := Lib.hid h
  clear h
  go_enter Tryz.func87, Tryz.ntmps87
  go_wp2_with fail
  refine wp_region_still_tail 14 (by kernel_rfl) (by kernel_rfl) ?_
  simp only [List.take_succ_cons, List.take_zero, List.drop_succ_cons, List.drop_zero]
  change wpStill _ _ w.drew _ _ _
  iterate 14 still_step
  refine wpStill_nil ?_
  have hne := H.out.ne
  have kset : Keep (fun k => k = s) w (w.setCell ⟨s, 1, none⟩ (.int .i64 (tot - hiOf L key))).drew := ((Keep.refl (fun k => k = s) w).setCell _ (.inl rfl)).drew
  have g0 : (w.setCell ⟨s, 1, none⟩ (.int .i64 (tot - hiOf L key))).drew.cell? ⟨s, 0, none⟩ = some (.int .i64 cap) := (cell_set_off (by decide)).trans H.out.c0
  have g1 : (w.setCell ⟨s, 1, none⟩ (.int .i64 (tot - hiOf L key))).drew.cell? ⟨s, 1, none⟩ = some (.int .i64 (tot - hiOf L key)) := cell_set_same H.out.c1
  have g2 : (w.setCell ⟨s, 1, none⟩ (.int .i64 (tot - hiOf L key))).drew.cell? ⟨s, 2, none⟩ = some (.map (some bm)) := (cell_set_off (by decide)).trans H.out.c2
  have gf : ∀ o, (w.setCell ⟨s, 1, none⟩ (.int .i64 (tot - hiOf L key))).drew.frozen? ⟨s, o, none⟩ = false := fun o => (World.frozen?_setCell _ _ _ _).trans (H.out.fz o)
  have gm : MapRel Tryz.prog 9 (w.setCell ⟨s, 1, none⟩ (.int .i64 (tot - hiOf L key))).drew bm (CRel L) := H.out.map.of_heap (heap_set_ne (Ne.symm hne))
  obtain ⟨es', ck', hdel, hm2⟩ := gm.delete (t := 109) (et := 116) strKeyed Tryz.underlying109 (keyStr hk) 0
  have HG := Lib.hid (And.intro g0 (And.intro g1 (And.intro gf (And.intro kset (And.intro hm2 hne)))))
  clear g0 g1 gf gm kset hm2 hne
  go_wp2_with fail
  go_end0
  obtain ⟨g0, g1, gf, kset, hm2, hne⟩ := HG.out
  generalize (w.setCell ⟨s, 1, none⟩ (.int .i64 (tot - hiOf L key))).drew = V at *
  have kput := (Keep.refl (fun k => k = bm) V).putObj (b := bm) (.map es' ck') (.inl rfl)
  exact ⟨rfl, ⟨kput.cell g0 hne, kput.cell g1 hne, kput.cell g2 hne, fun o => (frozen_put hne).trans (gf o), hm2.congr (fun k v => CRel.del k v), delC_keys H.out.keys _, fun y hy => H.out.ks y (mem_delC.1 hy).1⟩, (kset.mono (fun _ h => .inl h)).trans (kput.mono (fun _ h => .inr h))⟩

/-- The last key. -/
def lastK (L : List C) : ByteArray := match L.getLast? with | none => ⟨#[]⟩ | some x => x.key

theorem last_key {w : World} {s bm : Nat} {cap tot : Int} {L : List C} (h : SkAt w s bm cap tot L) (hs : L.Pairwise BefC) (hL : L ≠ []) :
    Calls Tryz.prog 88 #[ptr s] w fun e w' => e = .returned (.string (lastK L)) ∧ Keep (fun _ => False) w w' :=
  (last_sk h).mono fun e w' ⟨out, he, hk, hl, _⟩ => by
    obtain ⟨x, hx, hxk⟩ := isLast_eq h.keys hs (hl hL)
    refine ⟨?_, hk⟩
    unfold lastK
    rw [he, hx, ← hxk]

/-- A sketch, its counters in their order. -/
structure Sk (w : World) (s bm cap : Nat) (L : List C) : Prop where
  at_ : SkAt w s bm cap (sumH L) L
  ok : OkL cap L

theorem Sk.keep {w w' : World} {s bm cap : Nat} {L : List C} {A : Nat → Prop} (h : Sk w s bm cap L) (k : Keep A w w') (h1 : ¬ A s) (h2 : ¬ A bm) : Sk w' s bm cap L := ⟨h.at_.keep k h1 h2, h.ok⟩

theorem last_size {cap : Nat} {L : List C} (h : OkL cap L) : (lastK L).size ≤ maxLen := by
  unfold lastK
  cases e : L.getLast? with
  | none => simp [maxLen, ByteArray.size]
  | some x => exact h.ks x (List.mem_of_getLast? e)
theorem hiOf_last {cap : Nat} {L : List C} (h : OkL cap L) (hl : ¬ L.length < cap) : hiOf L (lastK L) = leastC cap L := by
  have hc := h.cap1
  unfold lastK leastC
  rw [if_neg hl]
  cases e : L.getLast? with
  | none =>
    rw [List.getLast?_eq_none_iff] at e
    rw [e] at hl
    simp at hl
    omega
  | some x => simp only []; exact hiOf_mem h.keys (List.mem_of_getLast? e)

set_option maxRecDepth 100000 in
set_option maxHeartbeats 2000000 in
theorem least_sk {w : World} {s bm cap : Nat} {L : List C} (h : Sk w s bm cap L) :
    Calls Tryz.prog 86 #[ptr s] w fun e w' => e = .returned (.int .i64 (leastC cap L)) ∧ Keep (fun _ => False) w w' := by
  have hlen : ∀ (n : Nat) ty, (Builtin.len_ #[109] ty #[.map (some bm)]).run Tryz.prog (w.drewN n) = .ok (.int .i64 L.length) (w.drewN n) := fun n ty => (h.at_.keep ((Keep.refl (fun _ => False) w).drewN n) (fun h => h) (fun h => h)).len ty
  have c0 := h.at_.c0
  have c2 := h.at_.c2
  have H := Lib.hid h
  have h1 := h.ok.cap64
  have h2 := h.ok.len
  clear h
  by_cases hl : L.length < cap
  · have hd : decide ((L.length : Int) < (cap : Int)) = true := by simp; omega
    have HC : Hid (leastC cap L = 0) := Lib.hid (by unfold leastC; rw [if_pos hl])
    go_enter Tryz.func86, Tryz.ntmps86
    go_wp2_with fail
    go_quiet (fail)
    go_wp2_with fail
    go_ret
    exact ⟨by rw [HC.out]; rfl, (Keep.refl _ _).drewN _⟩
  · have hd : decide ((L.length : Int) < (cap : Int)) = false := by simp; omega
    have HC : Hid (hiOf L (lastK L) = leastC cap L) := Lib.hid (hiOf_last H.out.ok hl)
    have HNE : Hid (L ≠ []) := Lib.hid (fun e => by rw [e] at hl; have := H.out.ok.cap1; simp at hl; omega)
    go_enter Tryz.func86, Tryz.ntmps86
    go_wp2_with fail
    go_quiet (fail)
    go_wp2_with fail
    have H1 := Lib.hid (H.out.keep ((Keep.refl (fun _ => False) w).drewN nq) (fun h => h) (fun h => h))
    have HK := Lib.hid ((Keep.refl (fun _ => False) w).drewN nq)
    generalize w.drewN nq = W at *
    have c2' : ∀ p : KW W, p.val.cell? ⟨s, 2, none⟩ = some (.map (some bm)) := fun p => p.k.cell H1.out.at_.c2 (fun h => h)
    have lk : ∀ p : KW W, (Instr.lookup 109 (.map (some bm)) (.string (lastK L)) false).run Tryz.prog p.val = .ok (bnd (loOf L (lastK L)) (hiOf L (lastK L))) p.val := fun p => look_one (H1.out.keep p.k (fun h => h) (fun h => h)).at_.map (last_size H1.out.ok)
    have fd : ∀ p : KW W, (Instr.field 116 (bnd (loOf L (lastK L)) (hiOf L (lastK L))) 1).run Tryz.prog p.val = .ok (.int .i64 (hiOf L (lastK L))) p.val := fun p => field_hi _ _ _
    clear c0 c2 hlen
    refine wp_region_quiet_kept (by kernel_rfl) (by kernel_rfl) ?_
    repeat (quiet_step ((go_at_call 88; refine Calls.kept_of (last_key (H1.out.keep (KW.k _) (fun h => h) (fun h => h)).at_ H.out.ok.sorted HNE.out))))
    refine wpQuiet_nil ?_
    rintro _ ⟨p, rfl⟩
    go_wp2_with fail
    go_ret
    exact ⟨by rw [HC.out]; rfl, HK.out.trans p.k⟩
end Go.Proofs.YtplkmbfeeegaiaaGreatDoor.Sk

/-
  bounds.add, Add.
-/
namespace Go.Proofs.YtplkmbfeeegaiaaGreatDoor.Sk
open Go.RowKit

set_option maxRecDepth 100000 in
set_option maxHeartbeats 400000 in
theorem add_bounds (a b c d : Int) (w : World) (h1 : 0 ≤ a ∧ a ≤ 4611686018427387903) (h2 : 0 ≤ b ∧ b ≤ 4611686018427387903) (h3 : 0 ≤ c ∧ c ≤ 4611686018427387903) (h4 : 0 ≤ d ∧ d ≤ 4611686018427387903) :
    Calls Tryz.prog 90 #[bnd a b, bnd c d] w fun e w' => e = .returned (bnd (a + c) (b + d)) ∧ Keep (fun _ => False) w w' := by
  obtain ⟨a1, a2⟩ := h1
  obtain ⟨b1, b2⟩ := h2
  obtain ⟨c1, c2⟩ := h3
  obtain ⟨d1, d2⟩ := h4
  go_enter Tryz.func90, Tryz.ntmps90
  go_wp2_with fail
  refine bodyPost_ret (v := bnd (a + c) (b + d)) (by simp [results, Tryz.results90, go_sem]) rfl ⟨rfl, ?_⟩
  exact (((Keep.refl _ w).alloc _).alloc _).alloc _

/-- Add's answer. -/
def addE (L : List C) (n : Int) : Int := if n < 1 ∨ 1000000000 < n ∨ 4611686018427387903 - n < sumH L then 140 else 0

set_option maxRecDepth 100000 in
set_option maxHeartbeats 400000 in
theorem add_nil (key : ByteArray) (n : Int) (w : World) : Calls Tryz.prog 43 #[.pointer none, .string key, .int .i64 n] w fun e w' => e = .returned (.int .i64 1) ∧ w = w' := by
  go_enter Tryz.func43, Tryz.ntmps43
  go_wp2_with fail
  go_ret
  exact ⟨rfl, rfl⟩
set_option maxRecDepth 100000 in
set_option maxHeartbeats 400000 in
theorem add_bad {w : World} {s bm cap : Nat} {L : List C} (h : Sk w s bm cap L) (key : ByteArray) (n : Int) (hn : n < 1 ∨ 1000000000 < n ∨ 4611686018427387903 - n < sumH L) : Calls Tryz.prog 43 #[ptr s, .string key, .int .i64 n] w fun e w' => e = .returned (.int .i64 140) ∧ w = w' := by
  have c1 := h.at_.c1
  have H := Lib.hid h
  clear h
  by_cases h1 : n < 1
  · clear hn
    go_enter Tryz.func43, Tryz.ntmps43
    go_wp2_with fail
    go_ret
    exact ⟨rfl, rfl⟩
  · by_cases h2 : 1000000000 < n
    · clear hn
      go_enter Tryz.func43, Tryz.ntmps43
      go_wp2_with fail
      go_ret
      exact ⟨rfl, rfl⟩
    · have h3 : 4611686018427387903 - n < sumH L := by omega
      clear hn
      go_enter Tryz.func43, Tryz.ntmps43
      go_wp2_with fail
      go_ret
      exact ⟨rfl, rfl⟩

set_option maxRecDepth 100000 in
set_option maxHeartbeats 1000000 in
theorem add_known {w : World} {s bm cap : Nat} {L : List C} (h : Sk w s bm cap L) (key : ByteArray) (hk : key.size ≤ maxLen) (n : Int) (h1 : ¬ n < 1) (h2 : ¬ 1000000000 < n) (h3 : ¬ 4611686018427387903 - n < sumH L) (hat : (atC L key).isSome = true) :
    Calls Tryz.prog 43 #[ptr s, .string key, .int .i64 n] w fun e w' => e = .returned (.int .i64 0) ∧ SkAt w' s bm cap (sumH L + n) (putC L ⟨key, loOf L key + n, hiOf L key + n⟩) ∧ Keep (fun k => k = s ∨ k = bm) w w' := by
  have c1 := h.at_.c1
  have c2 := h.at_.c2
  have lk := look_two (w := w) h.at_.map hk
  rw [hat] at lk
  obtain ⟨hb1, hb2, hb3, hb4⟩ := h.ok.hi0 key
  have hs := h.ok.sum
  have H := Lib.hid h
  clear h
  go_enter Tryz.func43, Tryz.ntmps43
  go_wp2_with fail
  obtain ⟨b0, b1, bf⟩ := two_cell w (.int .i64 (loOf L key)) (.int .i64 (hiOf L key)) 116
  have kal := (Keep.refl (fun _ => False) w).alloc (.cells #[.int .i64 (loOf L key), .int .i64 (hiOf L key)] 116)
  have hs1 := H.out.keep kal (fun h => h) (fun h => h)
  generalize w.alloc (.cells #[.int .i64 (loOf L key), .int .i64 (hiOf L key)] 116) = W at *
  have HK := Lib.hid kal
  have HS1 := Lib.hid hs1
  clear kal hs1 c1 c2 lk bf
  go_quiet (fail)
  go_wp2_with fail
  with_reducible refine (add_bounds _ _ _ _ _ (by omega) (by omega) (by omega) (by omega)).mono ?_
  rintro e W2 ⟨rfl, k2⟩
  have HS2 := Lib.hid ((HS1.out.keep ((Keep.refl (fun _ => False) W).drewN nq) (fun h => h) (fun h => h)).keep k2 (fun h => h) (fun h => h))
  have HK2 := Lib.hid ((HK.out.drewN nq).trans k2)
  clear k2 b0 b1
  go_wp2_with fail
  with_reducible refine (put_sk HS2.out.at_ ⟨key, loOf L key + n, hiOf L key + n⟩ hk (by simp only []; omega) (by omega)).mono ?_
  rintro e W3 ⟨rfl, hsk, k3, -⟩
  have HS3 := Lib.hid hsk
  have HK3 := Lib.hid k3
  clear hsk k3
  go_wp2_with fail
  go_ret
  refine ⟨rfl, ?_, (HK2.out.mono (fun _ h => h.elim)).trans HK3.out⟩
  have := HS3.out
  rwa [show sumH L + ((⟨key, loOf L key + n, hiOf L key + n⟩ : C).hi - hiOf L (⟨key, loOf L key + n, hiOf L key + n⟩ : C).key) = sumH L + n by simp only []; omega] at this

set_option maxRecDepth 100000 in
set_option maxHeartbeats 1000000 in
theorem add_free {w : World} {s bm cap : Nat} {L : List C} (h : Sk w s bm cap L) (key : ByteArray) (hk : key.size ≤ maxLen) (n : Int) (h1 : ¬ n < 1) (h2 : ¬ 1000000000 < n) (h3 : ¬ 4611686018427387903 - n < sumH L) (hat : atC L key = none) (hlen : ¬ L.length = cap) :
    Calls Tryz.prog 43 #[ptr s, .string key, .int .i64 n] w fun e w' => e = .returned (.int .i64 0) ∧ SkAt w' s bm cap (sumH L + n) (putC L ⟨key, n, n⟩) ∧ Keep (fun k => k = s ∨ k = bm) w w' := by
  have c1 := h.at_.c1
  have c2 := h.at_.c2
  have lk := look_two (w := w) h.at_.map hk
  have eh : hiOf L key = 0 := by unfold hiOf; rw [hat]
  have el : loOf L key = 0 := by unfold loOf; rw [hat]
  rw [hat, eh, el] at lk
  simp only [Option.isSome_none] at lk
  have HEH := Lib.hid eh
  have hs := h.ok.sum
  have h0 := (h.ok.hi0 key).2.1
  rw [eh] at h0
  have H := Lib.hid h
  have hd : ((L.length : Int) == (cap : Int)) = false := by simp; omega
  have HAT := Lib.hid hat
  have HL := Lib.hid hlen
  clear h hat eh el hlen
  go_enter Tryz.func43, Tryz.ntmps43
  go_wp2_with fail
  obtain ⟨b0, b1, bf⟩ := two_cell w (.int .i64 0) (.int .i64 0) 116
  have kal := (Keep.refl (fun _ => False) w).alloc (.cells #[.int .i64 0, .int .i64 0] 116)
  have hs1 := H.out.keep kal (fun h => h) (fun h => h)
  generalize w.alloc (.cells #[.int .i64 0, .int .i64 0] 116) = W at *
  have HK := Lib.hid kal
  have HS1 := Lib.hid hs1
  clear kal hs1 c1 c2 lk bf
  have hln : ∀ (n : Nat) ty, (Builtin.len_ #[109] ty #[.map (some bm)]).run Tryz.prog (W.drewN n) = .ok (.int .i64 L.length) (W.drewN n) := fun n ty => (HS1.out.keep ((Keep.refl (fun _ => False) W).drewN n) (fun h => h) (fun h => h)).at_.len ty
  have c0 := HS1.out.at_.c0
  have c2 := HS1.out.at_.c2
  have hlen := HL.out
  go_quiet (fail)
  clear hln c0 c2 hlen
  go_wp2_with fail
  with_reducible refine (add_bounds _ _ _ _ _ (by omega) (by omega) (by omega) (by omega)).mono ?_
  rintro e W2 ⟨rfl, k2⟩
  have HS2 := Lib.hid ((HS1.out.keep ((Keep.refl (fun _ => False) W).drewN nq) (fun h => h) (fun h => h)).keep k2 (fun h => h) (fun h => h))
  have HK2 := Lib.hid ((HK.out.drewN nq).trans k2)
  clear k2 b0 b1
  rw [Int.zero_add]
  go_wp2_with fail
  with_reducible refine (put_sk HS2.out.at_ ⟨key, n, n⟩ hk (by have := HEH.out; simp only []; omega) (by omega)).mono ?_
  rintro e W3 ⟨rfl, hsk, k3, -⟩
  have HS3 := Lib.hid hsk
  have HK3 := Lib.hid k3
  clear hsk k3
  go_wp2_with fail
  go_ret
  refine ⟨rfl, ?_, (HK2.out.mono (fun _ h => h.elim)).trans HK3.out⟩
  have := HS3.out
  have e0 := HEH.out
  rwa [show sumH L + ((⟨key, n, n⟩ : C).hi - hiOf L (⟨key, n, n⟩ : C).key) = sumH L + n by simp only []; omega] at this

set_option maxRecDepth 100000 in
set_option maxHeartbeats 1000000 in
theorem add_full {w : World} {s bm cap : Nat} {L : List C} (h : Sk w s bm cap L) (key : ByteArray) (hk : key.size ≤ maxLen) (n : Int) (h1 : ¬ n < 1) (h2 : ¬ 1000000000 < n) (h3 : ¬ 4611686018427387903 - n < sumH L) (hat : atC L key = none) (hlen : L.length = cap) :
    Calls Tryz.prog 43 #[ptr s, .string key, .int .i64 n] w fun e w' => e = .returned (.int .i64 0) ∧ SkAt w' s bm cap (sumH L + n) (putC (delC L (lastK L)) ⟨key, n, leastC cap L + n⟩) ∧ Keep (fun k => k = s ∨ k = bm) w w' := by
  have c1 := h.at_.c1
  have c2 := h.at_.c2
  have lk := look_two (w := w) h.at_.map hk
  have eh : hiOf L key = 0 := by unfold hiOf; rw [hat]
  have el : loOf L key = 0 := by unfold loOf; rw [hat]
  rw [hat, eh, el] at lk
  simp only [Option.isSome_none] at lk
  have HEH := Lib.hid eh
  have hs := h.ok.sum
  have h0 := (h.ok.hi0 key).2.1
  rw [eh] at h0
  obtain ⟨hl0, hl1⟩ := h.ok.least
  have H := Lib.hid h
  have hd : ((L.length : Int) == (cap : Int)) = true := by simp; omega
  have HNE : Hid (L ≠ []) := Lib.hid (fun e => by rw [e] at hlen; have := h.ok.cap1; simp at hlen; omega)
  have HAT := Lib.hid hat
  have HLA := Lib.hid (hiOf_last h.ok (by omega))
  have HL := Lib.hid hlen
  clear h hat eh el hlen
  go_enter Tryz.func43, Tryz.ntmps43
  go_wp2_with fail
  obtain ⟨b0, b1, bf⟩ := two_cell w (.int .i64 0) (.int .i64 0) 116
  have kal := (Keep.refl (fun _ => False) w).alloc (.cells #[.int .i64 0, .int .i64 0] 116)
  have hs1 := H.out.keep kal (fun h => h) (fun h => h)
  have HSB := Lib.hid (H.out.at_.lt)
  have HWS : Hid ((w.alloc (.cells #[.int .i64 0, .int .i64 0] 116)).heap.size = w.heap.size + 1) := Lib.hid (by simp)
  generalize w.alloc (.cells #[.int .i64 0, .int .i64 0] 116) = W at *
  have HK := Lib.hid kal
  have HS1 := Lib.hid hs1
  have HB := Lib.hid (And.intro b0 (And.intro b1 bf))
  clear kal hs1 c1 c2 lk bf b0 b1
  have hln : ∀ (n : Nat) ty, (Builtin.len_ #[109] ty #[.map (some bm)]).run Tryz.prog (W.drewN n) = .ok (.int .i64 L.length) (W.drewN n) := fun n ty => (HS1.out.keep ((Keep.refl (fun _ => False) W).drewN n) (fun h => h) (fun h => h)).at_.len ty
  have c0 := HS1.out.at_.c0
  have c2 := HS1.out.at_.c2
  have hlen := HL.out
  go_quiet (fail)
  clear hln c0 c2 hlen
  go_wp2_with fail
  have HKD := Lib.hid ((Keep.refl (fun _ => False) W).drewN nq)
  generalize W.drewN nq = W1 at *
  have HS2 := Lib.hid (HS1.out.keep HKD.out (fun h => h) (fun h => h))
  with_reducible refine (least_sk HS2.out).mono ?_
  rintro e W2 ⟨rfl, k2⟩
  have HS3 := Lib.hid (HS2.out.keep k2 (fun h => h) (fun h => h))
  have HK2 := Lib.hid (HKD.out.trans k2)
  have b0 := HK2.out.cell HB.out.1 (fun h => h)
  have b1 := HK2.out.cell HB.out.2.1 (fun h => h)
  have bf := (HK2.out.frozen (b := w.heap.size) (by have := HWS.out; omega) (fun h => h) 1).trans (HB.out.2.2 1)
  clear k2
  go_wp2_with fail
  have kse : Keep (fun k => k = w.heap.size) W2 (W2.setCell ⟨w.heap.size, 1, none⟩ (.int .i64 (leastC cap L))) := (Keep.refl _ _).setCell _ (.inl rfl)
  have HS4 := Lib.hid (HS3.out.keep kse (fun e => by have := HSB.out.1; omega) (fun e => by have := HSB.out.2; omega))
  have HKS := Lib.hid kse
  have HB4 : Hid ((W2.setCell ⟨w.heap.size, 1, none⟩ (.int .i64 (leastC cap L))).cell? ⟨w.heap.size, 0, none⟩ = some (.int .i64 0) ∧ (W2.setCell ⟨w.heap.size, 1, none⟩ (.int .i64 (leastC cap L))).cell? ⟨w.heap.size, 1, none⟩ = some (.int .i64 (leastC cap L))) := Lib.hid ⟨(cell_set_off (by decide)).trans b0, cell_set_same b1⟩
  generalize W2.setCell ⟨w.heap.size, 1, none⟩ (.int .i64 (leastC cap L)) = W3 at *
  clear kse b0 b1 bf
  with_reducible refine (last_key HS4.out.at_ HS4.out.ok.sorted HNE.out).mono ?_
  rintro e W4 ⟨rfl, k4⟩
  have HS5 := Lib.hid (HS4.out.keep k4 (fun h => h) (fun h => h))
  have HK4 := Lib.hid k4
  clear k4
  go_wp2_with fail
  with_reducible refine (drop_sk HS5.out.at_ (lastK L) (last_size HS5.out.ok) (by have := HLA.out; omega) (by omega)).mono ?_
  rintro e W5 ⟨rfl, hsk, k5⟩
  have HS6 := Lib.hid hsk
  have HK5 := Lib.hid k5
  have b0 := k5.cell (HK4.out.cell HB4.out.1 (fun h => h)) (fun e => by have := HSB.out; omega)
  have b1 := k5.cell (HK4.out.cell HB4.out.2 (fun h => h)) (fun e => by have := HSB.out; omega)
  clear hsk k5
  go_wp2_with fail
  with_reducible refine (add_bounds _ _ _ _ _ (by omega) (by omega) (by omega) (by omega)).mono ?_
  rintro e W6 ⟨rfl, k6⟩
  have HS7 := Lib.hid (HS6.out.keep k6 (fun h => h) (fun h => h))
  have HK6 := Lib.hid k6
  clear k6 b0 b1
  rw [Int.zero_add]
  go_wp2_with fail
  have HH : Hid (hiOf (delC L (lastK L)) key = 0) := Lib.hid (by
    have hn := atC_none HAT.out
    unfold hiOf
    cases e : atC (delC L (lastK L)) key with
    | none => rfl
    | some x => obtain ⟨h1, h2⟩ := atC_some e; exact absurd h2 (hn x (mem_delC.1 h1).1))
  with_reducible refine (put_sk HS7.out ⟨key, n, leastC cap L + n⟩ hk (by have := HH.out; simp only []; omega) (by have := HLA.out; omega)).mono ?_
  rintro e W7 ⟨rfl, hsk, k7, -⟩
  have HS8 := Lib.hid hsk
  have HK7 := Lib.hid k7
  clear hsk k7
  go_wp2_with fail
  go_ret
  refine ⟨rfl, ?_, ?_⟩
  · have := HS8.out
    have e0 := HH.out
    have e1 := HLA.out
    rwa [show sumH L - hiOf L (lastK L) + ((⟨key, n, leastC cap L + n⟩ : C).hi - hiOf (delC L (lastK L)) (⟨key, n, leastC cap L + n⟩ : C).key) = sumH L + n by simp only []; omega] at this
  · have k1 : Keep (fun k => k = s ∨ k = bm) w W2 := (HK.out.trans HK2.out).mono (fun _ h => h.elim)
    have k2 : Keep (fun k => k = s ∨ k = bm) w W3 := k1.trans' HKS.out (fun i e => .inr (by omega))
    exact (((k2.trans (HK4.out.mono (fun _ h => h.elim))).trans HK5.out).trans (HK6.out.mono (fun _ h => h.elim))).trans HK7.out

theorem lastK_del {L : List C} (hk : (L.map C.key).Nodup) (hne : L ≠ []) : delC L (lastK L) = L.dropLast := by
  obtain ⟨X, x, rfl⟩ : ∃ X x, L = X ++ [x] := by
    rcases List.eq_nil_or_concat L with rfl | ⟨X, x, e⟩
    · exact absurd rfl hne
    · exact ⟨X, x, by simpa using e⟩
  have e : lastK (X ++ [x]) = x.key := by unfold lastK; simp
  rw [e, List.dropLast_concat]
  rw [List.map_append, List.nodup_append] at hk
  unfold delC
  rw [List.filter_append]
  rw [List.filter_eq_self.2 (fun y hy => by simpa using fun e : y.key = x.key => hk.2.2 y.key (List.mem_map_of_mem hy) x.key (by simp) e)]
  simp

/-- Add. -/
theorem add_ok {w : World} {s bm cap : Nat} {L : List C} (h : Sk w s bm cap L) (key : ByteArray) (hk : key.size ≤ maxLen) (n : Int) (h1 : ¬ n < 1) (h2 : ¬ 1000000000 < n) (h3 : ¬ 4611686018427387903 - n < sumH L) :
    Calls Tryz.prog 43 #[ptr s, .string key, .int .i64 n] w fun e w' => e = .returned (.int .i64 0) ∧ Sk w' s bm cap (addC cap L key n) ∧ Keep (fun k => k = s ∨ k = bm) w w' := by
  have hok := addC_ok h.ok hk (show 1 ≤ n by omega) (show sumH L + n ≤ 4611686018427387903 by omega)
  have hsum := addC_sum h.ok key n
  cases hat : atC L key with
  | some x =>
    refine (add_known h key hk n h1 h2 h3 (by rw [hat]; rfl)).mono fun e w' ⟨he, hsk, hkp⟩ => ⟨he, ⟨?_, hok⟩, hkp⟩
    rw [hsum]
    refine hsk.perm ?_
    unfold addC putC
    have e1 : loOf L key = x.lo := by unfold loOf; rw [hat]
    have e2 : hiOf L key = x.hi := by unfold hiOf; rw [hat]
    rw [hat, e1, e2]
    exact (insC_perm _ _).symm
  | none =>
    by_cases hl : L.length = cap
    · refine (add_full h key hk n h1 h2 h3 hat hl).mono fun e w' ⟨he, hsk, hkp⟩ => ⟨he, ⟨?_, hok⟩, hkp⟩
      rw [hsum]
      refine hsk.perm ?_
      have hne : L ≠ [] := fun e => by rw [e] at hl; have := h.ok.cap1; simp at hl; omega
      unfold addC putC
      rw [hat]
      simp only []
      rw [if_pos hl, lastK_del h.ok.keys hne]
      refine List.Perm.trans ?_ (insC_perm _ _).symm
      rw [delC_none]
      cases e : atC L.dropLast key with
      | none => rfl
      | some x => obtain ⟨a1, a2⟩ := atC_some e; exact absurd a2 (atC_none hat x ((List.dropLast_sublist L).mem a1))
    · refine (add_free h key hk n h1 h2 h3 hat hl).mono fun e w' ⟨he, hsk, hkp⟩ => ⟨he, ⟨?_, hok⟩, hkp⟩
      rw [hsum]
      refine hsk.perm ?_
      unfold addC putC
      rw [hat]
      simp only []
      rw [if_neg hl, delC_none hat]
      exact (insC_perm _ _).symm
end Go.Proofs.YtplkmbfeeegaiaaGreatDoor.Sk

/-
  counter, Get, of, Total, New.
-/
namespace Go.Proofs.YtplkmbfeeegaiaaGreatDoor.Sk
open Go.RowKit

/-- A counter as a value. -/
abbrev ctrV (key : ByteArray) (n e : Int) : Value := .agg #[.string key, .int .i64 n, .int .i64 e]

set_option maxRecDepth 100000 in
set_option maxHeartbeats 400000 in
theorem counter_sk {w : World} {s bm cap : Nat} {L : List C} (h : Sk w s bm cap L) (key : ByteArray) (hk : key.size ≤ maxLen) :
    Calls Tryz.prog 127 #[ptr s, .string key] w fun e w' => e = .returned (ctrV key (hiOf L key) (hiOf L key - loOf L key)) ∧ Keep (fun _ => False) w w' := by
  have kal := (Keep.refl (fun _ => False) w).alloc (.cells #[.string ⟨#[]⟩, .int .i64 0, .int .i64 0] 124)
  have hs1 := h.keep kal (fun h => h) (fun h => h)
  have c2 := hs1.at_.c2
  have lk := look_one hs1.at_.map hk
  obtain ⟨hb1, hb2, hb3, hb4⟩ := h.ok.hi0 key
  have hs := h.ok.sum
  have H := Lib.hid h
  have HS := Lib.hid hs1
  have HK := Lib.hid kal
  clear h hs1 kal
  go_enter Tryz.func127, Tryz.ntmps127
  go_wp2_with fail
  refine bodyPost_ret (v := ctrV key (hiOf L key) (hiOf L key - loOf L key)) (by simp [results, Tryz.results127, go_sem]) rfl ⟨rfl, ?_⟩
  exact ((Keep.refl _ w).alloc _).alloc _

set_option maxRecDepth 100000 in
set_option maxHeartbeats 400000 in
theorem total_nil (w : World) : Calls Tryz.prog 94 #[.pointer none] w fun e w' => e = .returned (.int .i64 0) ∧ w = w' := by
  go_enter Tryz.func94, Tryz.ntmps94
  go_wp2_with fail
  go_ret
  exact ⟨rfl, rfl⟩
set_option maxRecDepth 100000 in
set_option maxHeartbeats 400000 in
theorem total_sk {w : World} {s bm cap : Nat} {L : List C} (h : Sk w s bm cap L) : Calls Tryz.prog 94 #[ptr s] w fun e w' => e = .returned (.int .i64 (sumH L)) ∧ w = w' := by
  have c1 := h.at_.c1
  clear h
  go_enter Tryz.func94, Tryz.ntmps94
  go_wp2_with fail
  go_ret
  exact ⟨rfl, rfl⟩

set_option maxRecDepth 100000 in
set_option maxHeartbeats 400000 in
theorem new_bad (k : Int) (hk : k < 1 ∨ 64 < k) (w : World) : Calls Tryz.prog 41 #[.int .i64 k] w fun e w' => e = .returned (.tuple #[.pointer none, .int .i64 140]) ∧ w = w' := by
  by_cases h1 : k < 1
  · clear hk
    go_enter Tryz.func41, Tryz.ntmps41
    go_wp2_with fail
    exact bodyPost_ret (v := .tuple #[.pointer none, .int .i64 140]) (by simp [results, Tryz.results41, go_sem]) rfl ⟨rfl, rfl⟩
  · have h2 : 64 < k := by omega
    clear hk
    go_enter Tryz.func41, Tryz.ntmps41
    go_wp2_with fail
    exact bodyPost_ret (v := .tuple #[.pointer none, .int .i64 140]) (by simp [results, Tryz.results41, go_sem]) rfl ⟨rfl, rfl⟩
theorem three_cell (W : World) (x y z : Value) (t : TypeId) : (W.alloc (.cells #[x, y, z] t)).cell? ⟨W.heap.size, 0, none⟩ = some x ∧ (W.alloc (.cells #[x, y, z] t)).cell? ⟨W.heap.size, 1, none⟩ = some y ∧ (W.alloc (.cells #[x, y, z] t)).cell? ⟨W.heap.size, 2, none⟩ = some z ∧ ∀ o, (W.alloc (.cells #[x, y, z] t)).frozen? ⟨W.heap.size, o, none⟩ = false := by
  have hh : (W.alloc (.cells #[x, y, z] t)).heap[W.heap.size]? = some (.cells #[x, y, z] t) := World.alloc_heap_new _ _
  refine ⟨?_, ?_, ?_, fun o => ?_⟩
  · unfold World.cell?; simp only [hh]; rfl
  · unfold World.cell?; simp only [hh]; rfl
  · unfold World.cell?; simp only [hh]; rfl
  · unfold World.frozen?; simp only [hh]; simp
/-- A sketch that is made. -/
theorem new_at (w : World) (k : Int) : SkAt ((w.alloc (.map #[] 0)).alloc (.cells #[.int .i64 k, .int .i64 0, .map (some w.heap.size)] 111)) (w.heap.size + 1) w.heap.size k 0 [] := by
  obtain ⟨h0, h1, h2, hf⟩ := three_cell (w.alloc (.map #[] 0)) (.int .i64 k) (.int .i64 0) (.map (some w.heap.size)) 111
  rw [World.size_alloc] at h0 h1 h2 hf
  refine ⟨h0, h1, h2, hf, ?_, by simp, by simp⟩
  have := (MapRel.made Tryz.prog 9 w).of_heap (w' := (w.alloc (.map #[] 0)).alloc (.cells #[.int .i64 k, .int .i64 0, .map (some w.heap.size)] 111)) (Below.heap_alloc _ _ _ (by simp))
  exact this.congr (fun k v => by unfold CRel; simp)

def NewPost (k : Nat) (w : World) (e : Ending) (w' : World) : Prop := ∃ s bm, e = .returned (.tuple #[ptr s, .int .i64 0]) ∧ Sk w' s bm k [] ∧ Keep (fun _ => False) w w' ∧ w.heap.size ≤ s ∧ w.heap.size ≤ bm

set_option maxRecDepth 100000 in
set_option maxHeartbeats 400000 in
theorem new_ok (k : Nat) (h1 : 1 ≤ k) (h2 : k ≤ 64) (w : World) : Calls Tryz.prog 41 #[.int .i64 k] w (NewPost k w) := by
  have h3 : ¬ (k : Int) < 1 := by omega
  have h4 : ¬ 64 < (k : Int) := by omega
  have hmm := @run_makeMap Tryz.prog
  go_enter Tryz.func41, Tryz.ntmps41
  go_wp2_with fail
  refine bodyPost_ret (v := .tuple #[ptr (w.heap.size + 1), .int .i64 0]) (by simp [results, Tryz.results41, go_sem]) rfl ?_
  exact ⟨_, _, rfl, ⟨new_at w k, OkL.nil h1 h2⟩, ((Keep.refl _ w).alloc _).alloc _, by omega, Nat.le_refl _⟩
end Go.Proofs.YtplkmbfeeegaiaaGreatDoor.Sk

/-
  maps.Keys, slices.Collect.
-/
namespace Go.Proofs.YtplkmbfeeegaiaaGreatDoor.Sk
open Go.RowKit Go.Shelf

def apRen : Go.Shelf.Ren := ⟨fun | 11 => 196 | n => n, fun | 0 => 0 | 24 => 67 | 26 => 9 | 28 => 183 | 33 => 160 | n => n, fun n => n⟩
theorem apLays : SlLaysZ.n11 Tryz.prog apRen := {
  mixed := by kernel_rfl
  f11 := ⟨Tryz.f196.name, by decide, Tryz.func196.trans (congrArg some (by kernel_rfl))⟩
  t0 := Tryz.underlying0
  a0 := Tryz.isAgg0
  z0 := Tryz.sizeOf0
  v0 := Tryz.zeroValue0
  t24 := Tryz.underlying67
  a24 := Tryz.isAgg67
  z24 := Tryz.sizeOf67
  v24 := Tryz.zeroValue67
  t26 := Tryz.underlying9
  a26 := Tryz.isAgg9
  z26 := Tryz.sizeOf9
  v26 := Tryz.zeroValue9
  t28 := Tryz.underlying183
  a28 := Tryz.isAgg183
  z28 := Tryz.sizeOf183
  v28 := Tryz.zeroValue183
  i26 := by kernel_rfl }

theorem _root_.Go.Proofs.YtplkmbfeeegaiaaGreatDoor.Ranging.walks {P : Program} {kt : TypeId} {w w' : World} {b r : Nat} {R : Value → Value → Prop} {left : List (Value × Value)} (h : Ranging P kt w b r R left) (hk : KeepsWalks w w') : Ranging P kt w' b r R left := by
  obtain ⟨es, clock, since, seen, c0, h1, h2, h3, h4, h5, h6, h7, r⟩ := h
  exact ⟨es, clock, since, seen, c0, hk.same b _ h1 rfl, h2, h3, h4, h5, h6, hk.same _ _ h7 rfl, r⟩
theorem _root_.Go.Proofs.YtplkmbfeeegaiaaGreatDoor.Ranging.iter {P : Program} {kt : TypeId} {w : World} {b r : Nat} {R : Value → Value → Prop} {left : List (Value × Value)} (h : Ranging P kt w b r R left) : ∃ o : Obj, w.heap[r]? = some o ∧ o.isWalk = true := by
  obtain ⟨es, clock, since, seen, c0, h1, h2, h3, h4, h5, h6, h7, r⟩ := h
  exact ⟨_, h7, rfl⟩

/-- The keys come, each once, in some order. -/
def KeysOf (L : List C) (ss : List (List UInt8)) : Prop := ss.Perm (L.map fun x => x.key.data.toList)

theorem enc_key (s : ByteArray) : encStr s.data.toList = .string s := by
  cases s
  simp [encStr]

set_option maxRecDepth 100000 in
set_option maxHeartbeats 1000000 in
theorem keys_gives {w : World} {s bm Bm : Nat} {cap tot : Int} {L : List C} (h : SkAt w s bm cap tot L) (hB : Bm < w.heap.size) (hm : w.cell? ⟨Bm, 0, none⟩ = some (.map (some bm))) (F : Fence) (n : Nat) (h52 : F.fn 174) (hro : F.round = none) (hn : 1 ≤ n) :
    SeqGives F n Tryz.prog 174 #[ptr Bm] encStr (KeysOf L) L.length w := fun l J W hW hJ hY h0 => by
  have hbm := h.lt.2
  have hmap : MapRel Tryz.prog 9 W bm (CRel L) := h.map.of_heap (hW.block _ hbm)
  have hcm : W.cell? ⟨Bm, 0, none⟩ = some (.map (some bm)) := (hW.cell (p := ⟨Bm, 0, none⟩) hB).trans hm
  obtain ⟨ob, left, hrun, hrg, hnd, hmem⟩ := hmap.range (t := 109) Tryz.underlying109
  have hrg' := hrg.perm (list_of_rel h.keys hnd hmem).symm
  have hg0 : W.grownBy (W.alloc ob) none := World.grownBy_alloc _ _ _
  have HJ0 := Lib.hid (hJ [] W (W.alloc ob) none h0 hg0 (fun r e => by cases e))
  have HRG := Lib.hid hrg'
  have HH := Lib.hid h
  clear h hrg hrg' hnd hmem hg0 h0 hmap
  refine callsIn_of_wp Tryz.func174 rfl h52 ?_ hro
  simp only [Tryz.ntmps174, List.size_toArray, List.length_cons, List.length_nil, Nat.reduceAdd, Nat.reduceSub, Array.replicate_succ, Array.replicate_zero, List.push_toArray, List.append_toArray, List.nil_append, List.cons_append]
  gi_wp2_with fail
  generalize hW5 : W.alloc ob = W5 at *
  have HW5 := Lib.hid hW5
  clear hrun hcm hW5
  gi_loopw [3] (fun _ wr => ∃ S k, L.Perm (S ++ k) ∧ Ranging Tryz.prog 9 wr bm W.heap.size (CRel L) (k.map encC) ∧ J (S.map fun x => x.key.data.toList) wr) (fun _ wr => wr.rangeLeft bm W.heap.size)
  case atStart => exact ⟨[], L, List.Perm.refl _, HRG.out, HJ0.out⟩
  case round =>
    obtain ⟨S, k, pm, rg, hJs⟩ := hrel
    have HRR := Lib.hid rg
    have HPM := Lib.hid pm
    rcases rg.next 0 with ⟨hk0, hrun⟩ | ⟨key, v, left', w', hp, hR, hrun, hrg', kk, hsz, hen⟩
    · have hl : k = [] := by simpa using hk0
      subst hl
      clear rg hk0 pm
      have HJS := Lib.hid hJs
      clear hJs
      gi_wp2_with fail
      go_end0
      have hpm := HPM.out
      rw [List.append_nil] at hpm
      exact ⟨⟨_, rfl⟩, _, (hpm.map _).symm, HJS.out⟩
    · obtain ⟨x, hxl, hxe⟩ := List.mem_map.1 (hp.mem_iff.2 (List.mem_cons_self))
      obtain ⟨rfl, rfl⟩ := encC_key hxe
      obtain ⟨X, Y, rfl⟩ := List.append_of_mem hxl
      have hp2 : ((X ++ Y).map encC).Perm left' := by
        have h1 : ((X ++ x :: Y).map encC).Perm (encC x :: (X ++ Y).map encC) := (List.perm_middle).map encC
        have h2 := h1.symm.trans hp
        exact List.Perm.cons_inv h2
      have hrg2 := hrg'.perm hp2.symm
      have hJ2 : J (S.map fun x => x.key.data.toList) w' := hJ _ wr w' (some W.heap.size) hJs ⟨kk.os, kk.tape, kk.output, kk.size, fun i hi hn => kk.block i hi (fun e => hn (by rw [e]))⟩ (fun r e => by cases e; exact ⟨Nat.le_refl _, rg.iter⟩)
      have hlen : (S.map fun x => x.key.data.toList).length < L.length := by
        have := pm.length_eq
        rw [List.length_map, this]; simp; omega
      obtain ⟨fn, tmps, assign, body, hy, hRo⟩ := hY _ x.key.data.toList w' hJ2 hlen
      rw [enc_key] at hy
      have HRG2 := Lib.hid hrg2
      clear rg pm hp hp2 hrg' hrg2 hxl hxe hR kk hJs hJ2 hlen
      gi_wp2_with fail
      refine hRo.mono ?_
      rintro e W3 ⟨rfl, hJ3, hk3⟩
      have HJ3 := Lib.hid hJ3
      have HRG3 := Lib.hid (HRG2.out.walks hk3)
      clear hJ3 hk3
      gi_wp2_with fail
      go_roundw
      case rel => exact ⟨S ++ [x], X ++ Y, perm_step HPM.out, HRG3.out, by rw [List.map_append]; exact HJ3.out⟩
      case measure => rw [HRG3.out.left_eq, HRR.out.left_eq]; simp

set_option maxHeartbeats 400000 in
theorem keys_any (bm : Nat) (w : World) : Calls Tryz.prog 144 #[.map (some bm)] w fun e w' => e = .returned (.func (.func 174) #[] #[ptr w.heap.size]) ∧ w' = w.alloc (.cells #[.map (some bm)] 109) := by
  go_enter Tryz.func144, Tryz.ntmps144
  go_wp2_with fail
  go_ret
  exact ⟨rfl, rfl⟩

def CollectPost (w : World) (L : List C) (e : Ending) (w' : World) : Prop := ∃ v ss, e = .returned v ∧ KeysOf L ss ∧ w'.ownsRow w.heap.size 9 1 v ss.length (ss.map encStr) ∧ Keep (fun _ => False) w w'

set_option maxHeartbeats 400000 in
theorem collect_sk {w : World} {s bm Bm : Nat} {cap tot : Int} {L : List C} (h : SkAt w s bm cap tot L) (hB : Bm < w.heap.size) (hm : w.cell? ⟨Bm, 0, none⟩ = some (.map (some bm))) (hl : L.length ≤ 1000) :
    Calls Tryz.prog 172 #[.func (.func 174) #[] #[ptr Bm]] w (CollectPost w L) := by
  have hap : Calls Tryz.prog 196 #[.slice none 0 0, .func (.func 174) #[] #[ptr Bm]] w (CollectPost w L) := by
    refine (callsIn_wide (n := 2)).1 ?_
    refine (AnyZ.appendSeq_in apLays Fence.wide 2 trivial rfl (Nat.le_refl _) 174 #[ptr Bm] trivial (enters_of Tryz.func174 (by kernel_rfl) rfl) (KeysOf L) L.length (by unfold maxLen; omega) (by omega) w (keys_gives h hB hm Fence.wide 1 trivial rfl (Nat.le_refl _))).mono ?_
    rintro e w' ⟨v, ss, rfl, hS, hrow, _, hb⟩
    exact ⟨v, ss, rfl, hS, hrow, ⟨hb.os, hb.tape, hb.output, hb.size, fun k hk _ => hb.block k hk⟩⟩
  clear h hm hB
  go_enter Tryz.func172, Tryz.ntmps172
  go_wp2_with fail
  with_reducible refine hap.mono ?_
  rintro e w' ⟨v, ss, rfl, hS, hrow, hk⟩
  have HA := Lib.hid (And.intro hS (And.intro hrow hk))
  clear hS hrow hk hap
  go_wp2_with fail
  go_ret
  exact ⟨v, ss, rfl, HA.out⟩
end Go.Proofs.YtplkmbfeeegaiaaGreatDoor.Sk

/-
  slices.SortFunc of at most twelve keys.
-/
namespace Go.Proofs.YtplkmbfeeegaiaaGreatDoor.Sk
open Go.RowKit Go.Shelf

/-- The row at blk reads as ks; all else is as in w. -/
structure Row (w : World) (blk : Nat) (ks : List ByteArray) (W : World) : Prop where
  k : Keep (fun i => i = blk) w W
  c : ∀ i x, ks[i]? = some x → W.cell? ⟨blk, i, none⟩ = some (.string x)
  f : ∀ i, W.frozen? ⟨blk, i, none⟩ = false

theorem Row.keep {w W W' : World} {blk : Nat} {ks : List ByteArray} (h : Row w blk ks W) (hb : blk < W.heap.size) (k : Keep (fun _ => False) W W') : Row w blk ks W' :=
  ⟨h.k.trans (k.mono (fun _ h => h.elim)), fun i x hx => k.cell (h.c i x hx) (fun h => h), fun i => (k.frozen hb (fun h => h) i).trans (h.f i)⟩

theorem get_mid {A R : List ByteArray} {x : ByteArray} : (A ++ x :: R)[A.length]? = some x := by simp

theorem Row.swap {w W : World} {blk : Nat} {A B : List ByteArray} {x y : ByteArray} (h : Row w blk (A ++ y :: x :: B) W) :
    Row w blk (A ++ x :: y :: B) ((W.setCell ⟨blk, A.length + 1, none⟩ (.string y)).setCell ⟨blk, A.length, none⟩ (.string x)).drew := by
  have cy := h.c A.length y (by simp)
  have cx := h.c (A.length + 1) x (by rw [List.getElem?_append_right (by omega)]; simp)
  refine ⟨((h.k.setCell (p := ⟨blk, A.length + 1, none⟩) _ (.inl rfl)).setCell (p := ⟨blk, A.length, none⟩) _ (.inl rfl)).drew, fun i z hz => ?_, fun i => ?_⟩
  · show ((W.setCell ⟨blk, A.length + 1, none⟩ (.string y)).setCell ⟨blk, A.length, none⟩ (.string x)).cell? _ = _
    by_cases h1 : i = A.length
    · subst h1
      rw [List.getElem?_append_right (by omega)] at hz
      simp at hz
      subst hz
      exact cell_set_same ((cell_set_off (by omega)).trans cy)
    · rw [cell_set_off (by omega)]
      by_cases h2 : i = A.length + 1
      · subst h2
        rw [List.getElem?_append_right (by omega)] at hz
        simp at hz
        subst hz
        exact cell_set_same cx
      · rw [cell_set_off (by omega)]
        apply h.c
        by_cases h3 : i < A.length
        · rw [List.getElem?_append_left h3] at hz ⊢; exact hz
        · rw [List.getElem?_append_right (by omega)] at hz ⊢
          obtain ⟨m, hm⟩ : ∃ m, i - A.length = m + 2 := ⟨i - A.length - 2, by omega⟩
          rw [hm] at hz ⊢
          simpa using hz
  · show ((W.setCell ⟨blk, A.length + 1, none⟩ (.string y)).setCell ⟨blk, A.length, none⟩ (.string x)).frozen? _ = _
    rw [World.frozen?_setCell, World.frozen?_setCell]; exact h.f i

/-- Between two steps of the inner loop: x at its place among those before it. -/
structure InS (L : List C) (ks : List ByteArray) (i j : Nat) (A B R : List ByteArray) (x : ByteArray) : Prop where
  pm : (A ++ x :: (B ++ R)).Perm ks
  ja : A.length = j
  ib : A.length + B.length = i
  so : (A ++ B).Pairwise (Bef L)
  xb : ∀ b ∈ B, Bef L x b

def OutR (w : World) (L : List C) (blk : Nat) (ks : List ByteArray) (i : Nat) (W : World) : Prop := ∃ ds, Row w blk ds W ∧ ds.Perm ks ∧ (ds.take i).Pairwise (Bef L)

theorem Bef.total {L : List C} {a b : ByteArray} (h : a ≠ b) : Bef L a b ∨ Bef L b a := by
  rcases cmpK_cases L a b with ⟨_, h1⟩ | ⟨_, h1⟩ | ⟨_, h1⟩
  · exact .inl h1
  · exact absurd h1 h
  · exact .inr h1

theorem InS.done {L : List C} {ks : List ByteArray} {i j : Nat} {A B R : List ByteArray} {x : ByteArray} (h : InS L ks i j A B R x) (hA : ∀ a ∈ A, Bef L a x) : ((A ++ x :: (B ++ R)).take (i + 1)).Pairwise (Bef L) := by
  have e : (A ++ x :: (B ++ R)).take (i + 1) = A ++ x :: B := by
    have : A ++ x :: (B ++ R) = (A ++ x :: B) ++ R := by simp
    rw [this, List.take_append_of_le_length (by simp; have := h.ib; omega), List.take_of_length_le (by simp; have := h.ib; omega)]
  rw [e]
  have hs := List.pairwise_append.1 h.so
  rw [List.pairwise_append]
  refine ⟨hs.1, List.pairwise_cons.2 ⟨h.xb, hs.2.1⟩, fun a ha b hb => ?_⟩
  rcases List.mem_cons.1 hb with rfl | hb
  · exact hA a ha
  · exact hs.2.2 a ha b hb
theorem InS.step {L : List C} {ks : List ByteArray} {i j : Nat} {A B R : List ByteArray} {x y : ByteArray} (h : InS L ks i (j + 1) (A ++ [y]) B R x) (hxy : Bef L x y) : InS L ks i j A (y :: B) R x := by
  refine ⟨?_, by have := h.ja; simp at this; omega, by have := h.ib; simp at this ⊢; omega, ?_, ?_⟩
  · refine List.Perm.trans ?_ h.pm
    rw [List.append_assoc]
    exact List.Perm.append_left A (List.Perm.swap y x (B ++ R))
  · have := h.so
    rw [List.append_assoc] at this
    exact this
  · intro b hb
    rcases List.mem_cons.1 hb with rfl | hb
    · exact hxy
    · exact h.xb b hb
theorem InS.last {L : List C} {ks : List ByteArray} {i j : Nat} {A B R : List ByteArray} {x y : ByteArray} (h : InS L ks i j (A ++ [y]) B R x) (hyx : Bef L y x) : ∀ a ∈ A ++ [y], Bef L a x := by
  intro a ha
  rcases List.mem_append.1 ha with ha | ha
  · have hs := (List.pairwise_append.1 h.so).1
    exact ((List.pairwise_append.1 hs).2.2 a ha y (by simp)).trans hyx
  · rw [List.mem_singleton] at ha; rw [ha]; exact hyx

abbrev cmpV (s : Nat) : Value := .func (.func 124) #[ptr s] #[]

set_option maxRecDepth 100000 in
set_option maxHeartbeats 2000000 in
theorem insertion_sk {w : World} {s bm blk c : Nat} {cap tot : Int} {L : List C} (h : SkAt w s bm cap tot L) (hs : s ≠ blk) (hbm : bm ≠ blk) (hblk : blk < w.heap.size) (ks : List ByteArray) (hn : ks.Nodup) (hks : ∀ k ∈ ks, k.size ≤ maxLen) (hl : ks.length ≤ 12) (hr : Row w blk ks w) :
    Calls Tryz.prog 206 #[.slice (some ⟨blk, 0, none⟩) ks.length c, .int .i64 0, .int .i64 ks.length, cmpV s] w fun e w' => e = .returned (.tuple #[]) ∧ OutR w L blk ks ks.length w' := by
  have H := Lib.hid h
  have HR := Lib.hid hr
  have HN := Lib.hid hn
  have HKS := Lib.hid hks
  have HNE := Lib.hid (And.intro hs hbm)
  obtain ⟨n, hn'⟩ : ∃ n, n = ks.length := ⟨_, rfl⟩
  have HLN := Lib.hid hn'
  rw [← hn'] at hl ⊢
  clear h hr hn hks hs hbm hn'
  go_enter Tryz.func206, Tryz.ntmps206
  go_wp2_with fail
  go_loopg [8] n (fun g1 vi wr => ∃ i : Nat, vi = .int .i64 i ∧ 1 ≤ i ∧ (i ≤ n ∨ i = 1) ∧ n ≤ g1 + i ∧ OutR w L blk ks i wr)
  case atStart => exact ⟨1, rfl, Nat.le_refl _, .inr rfl, by omega, ks, HR.out, List.Perm.refl _, by cases ks with | nil => simp | cons a r => simp⟩
  case round =>
    obtain ⟨i, rfl, hi1, hin, hg1, ds, hrow, hpm, hsort⟩ := hrel
    by_cases hlt : i < n
    · have hltz : (i : Int) < (n : Int) := by omega
      obtain ⟨A, x, R, hA, hds⟩ : ∃ A x R, A.length = i ∧ ds = A ++ x :: R := by
        have hlen : i < ds.length := by rw [hpm.length_eq, ← HLN.out]; exact hlt
        exact ⟨ds.take i, ds[i], ds.drop (i + 1), by simp; omega, by rw [← List.drop_eq_getElem_cons hlen, List.take_append_drop]⟩
      have HIN : Hid (InS L ks i i A [] R x) := Lib.hid ⟨by rw [hds] at hpm; exact hpm, hA, by simpa using hA, by rw [List.append_nil]; rw [hds, ← hA, List.take_left] at hsort; exact hsort, by simp⟩
      rw [hds] at hrow
      have HROW := Lib.hid hrow
      clear hrow hpm hsort hA hds
      go_wp2_with fail
      go_loopg [9] i (fun g2 vj wr2 => ∃ (j : Nat) (A B : List ByteArray), vj = .int .i64 j ∧ j ≤ g2 ∧ j ≤ i ∧ InS L ks i j A B R x ∧ Row w blk (A ++ x :: (B ++ R)) wr2)
      case atStart => exact ⟨i, A, [], rfl, Nat.le_refl _, Nat.le_refl _, HIN.out, HROW.out⟩
      case round =>
        clear HIN HROW
        obtain ⟨j, A, B, rfl, hg2, hji, hin', hrow⟩ := hrel
        have HIN := Lib.hid hin'
        have HROW := Lib.hid hrow
        clear hin' hrow
        have HSK := Lib.hid (H.out.keep HROW.out.k HNE.out.1 HNE.out.2)
        have HBL := Lib.hid (Nat.lt_of_lt_of_le hblk HROW.out.k.size)
        by_cases hj : 0 < j
        · obtain ⟨jp, rfl⟩ : ∃ q, j = q + 1 := ⟨j - 1, by omega⟩
          obtain ⟨A, y, rfl⟩ : ∃ A' y, A = A' ++ [y] := by
            rcases List.eq_nil_or_concat A with rfl | ⟨A', y, e⟩
            · have := HIN.out.ja; simp at this
            · exact ⟨A', y, by simpa using e⟩
          have hjA : A.length = jp := by have := HIN.out.ja; simp at this; exact this
          have hmx : x ∈ ks := HIN.out.pm.mem_iff.1 (by simp)
          have hmy : y ∈ ks := HIN.out.pm.mem_iff.1 (by simp)
          have HKX := Lib.hid (HKS.out x hmx)
          have HKY := Lib.hid (HKS.out y hmy)
          have HXY : Hid (x ≠ y) := Lib.hid (by
            have := HIN.out.pm.nodup_iff.2 HN.out
            rw [List.append_assoc, List.nodup_append] at this
            have h2 := this.2.1
            simp only [List.singleton_append, List.nodup_cons, List.mem_cons, not_or] at h2
            exact fun e => h2.1.1 e.symm)
          have hrow' : Row w blk (A ++ y :: x :: (B ++ R)) wr := by have := HROW.out; rw [List.append_assoc] at this; exact this
          have cy0 := hrow'.c jp y (by rw [← hjA]; simp)
          have cx0 := hrow'.c (jp + 1) x (by rw [← hjA, List.getElem?_append_right (by omega)]; simp)
          have HRW := Lib.hid hrow'
          have cy : ∀ p : KW wr, p.val.cell? ⟨blk, jp, none⟩ = some (.string y) := fun p => p.k.cell cy0 (fun h => h)
          have cx : ∀ p : KW wr, p.val.cell? ⟨blk, jp + 1, none⟩ = some (.string x) := fun p => p.k.cell cx0 (fun h => h)
          have hb1 : (jp : Int) + 1 < (n : Int) := by omega
          have hb0 : (jp : Int) < (n : Int) := by omega
          have hb2 : (0 : Int) ≤ (jp : Int) + 1 := by omega
          have hb3 : (0 : Int) ≤ (jp : Int) := by omega
          have hb4 : IntKind.i64.wrap (jp : Int) = (jp : Int) := by rw [IntKind.wrap_i64]; omega
          clear hrow' cy0 cx0 hmx hmy
          cases hlv : decide (cmpK L x y < 0) with
          | true =>
            go_wp2_with fail
            refine wp_region_quiet_kept (by kernel_rfl) (by kernel_rfl) ?_
            repeat (quiet_step ((go_at_call 124; refine Calls.kept_of (compare_sk (HSK.out.keep (KW.k _) (fun h => h) (fun h => h)) x y HKX.out HKY.out))))
            refine wpQuiet_nil ?_
            rintro _ ⟨p, rfl⟩
            have HR2 := Lib.hid (HRW.out.keep HBL.out p.k)
            clear cx cy
            generalize p.val = W2 at *
            have cy := HR2.out.c jp y (by rw [← hjA]; simp)
            have cx := HR2.out.c (jp + 1) x (by rw [← hjA, List.getElem?_append_right (by omega)]; simp)
            have fy := HR2.out.f jp
            have fx := HR2.out.f (jp + 1)
            have cy2 : (W2.setCell ⟨blk, jp + 1, none⟩ (.string y)).cell? ⟨blk, jp, none⟩ = some (.string y) := (cell_set_off (by omega)).trans cy
            have HR3 : Hid (Row w blk (A ++ x :: y :: (B ++ R)) ((W2.setCell ⟨blk, jp + 1, none⟩ (.string y)).setCell ⟨blk, jp, none⟩ (.string x)).drew) := Lib.hid (by rw [← hjA]; exact HR2.out.swap)
            have HXB := Lib.hid (HIN.out.step (cmpK_neg.1 (of_decide_eq_true hlv)))
            go_wp2_with fail
            go_big_region
            clear cx cy fx fy cy2 HR2
            generalize ((W2.setCell ⟨blk, jp + 1, none⟩ (.string y)).setCell ⟨blk, jp, none⟩ (.string x)).drew = W3 at *
            go_wp2_with fail
            go_roundg jp
            case rel => exact ⟨jp, A, y :: B, by go_num, Nat.le_refl _, by omega, HXB.out, HR3.out⟩
            case measure => omega
          | false =>
            have HOUT : Hid (∀ a ∈ A ++ [y], Bef L a x) := Lib.hid (HIN.out.last ((Bef.total HXY.out).resolve_left (fun h => by have := cmpK_neg.2 h; have := of_decide_eq_false hlv; omega)))
            go_wp2_with fail
            refine wp_region_quiet_kept (by kernel_rfl) (by kernel_rfl) ?_
            repeat (quiet_step ((go_at_call 124; refine Calls.kept_of (compare_sk (HSK.out.keep (KW.k _) (fun h => h) (fun h => h)) x y HKX.out HKY.out))))
            refine wpQuiet_nil ?_
            rintro _ ⟨p, rfl⟩
            have HR2 := Lib.hid (HROW.out.keep HBL.out p.k)
            clear cx cy
            generalize p.val = W2 at *
            go_wp2_with fail
            go_roundg (n - (i + 1))
            case rel => exact ⟨i + 1, by go_num, by omega, .inl (by omega), by omega, _, HR2.out, HIN.out.pm, HIN.out.done HOUT.out⟩
            case measure => omega
        · obtain rfl : j = 0 := by omega
          have HOUT : Hid (∀ a ∈ A, Bef L a x) := Lib.hid (fun a ha => by have := HIN.out.ja; rw [List.length_eq_zero_iff] at this; rw [this] at ha; cases ha)
          go_wp2_with fail
          go_big_region
          have HR2 := Lib.hid (HROW.out.keep HBL.out (Keep.refl (fun _ => False) wr).drew)
          generalize wr.drew = W2 at *
          go_wp2_with fail
          go_roundg (n - (i + 1))
          case rel => exact ⟨i + 1, by go_num, by omega, .inl (by omega), by omega, _, HR2.out, HIN.out.pm, HIN.out.done HOUT.out⟩
          case measure => omega
    · have hltz : ¬ (i : Int) < (n : Int) := by omega
      have HROW := Lib.hid hrow
      have HF : Hid (OutR w L blk ks n wr) := Lib.hid ⟨ds, hrow, hpm, by
        have e : ds.length = n := by rw [hpm.length_eq, ← HLN.out]
        rw [List.take_of_length_le (by omega)]
        rw [List.take_of_length_le (by omega)] at hsort
        exact hsort⟩
      clear hrow hpm hsort
      go_wp2_with fail
      go_end0
      exact ⟨rfl, HF.out⟩
end Go.Proofs.YtplkmbfeeegaiaaGreatDoor.Sk

/-
  SortFunc, SortedFunc, ordered.
-/
namespace Go.Proofs.YtplkmbfeeegaiaaGreatDoor.Sk
open Go.RowKit Go.Shelf

def IntPost (w : World) (e : Ending) (w' : World) : Prop := ∃ v : Int, e = .returned (.int .i64 v) ∧ w = w'

set_option maxRecDepth 100000 in
set_option maxHeartbeats 2000000 in
theorem len64_small (n : Nat) (hn : n ≤ 12) (w : World) : Calls Tryz.prog 157 #[.int .u64 n] w (IntPost w) := by
  have hc : n = 0 ∨ n = 1 ∨ n = 2 ∨ n = 3 ∨ n = 4 ∨ n = 5 ∨ n = 6 ∨ n = 7 ∨ n = 8 ∨ n = 9 ∨ n = 10 ∨ n = 11 ∨ n = 12 := by omega
  clear hn
  rcases hc with rfl | rfl | rfl | rfl | rfl | rfl | rfl | rfl | rfl | rfl | rfl | rfl | rfl
  all_goals
    go_enter Tryz.func157, Tryz.ntmps157
    go_wp2_with fail
    go_ret
    exact ⟨_, rfl, rfl⟩
set_option maxRecDepth 100000 in
set_option maxHeartbeats 400000 in
theorem len_small (n : Nat) (hn : n ≤ 12) (w : World) : Calls Tryz.prog 135 #[.int .u64 n] w (IntPost w) := by
  go_enter Tryz.func135, Tryz.ntmps135
  go_wp2_with fail
  with_reducible refine (len64_small n hn _).mono ?_
  rintro e w' ⟨v, rfl, rfl⟩
  go_wp2_with fail
  go_ret
  exact ⟨_, rfl, rfl⟩

set_option maxRecDepth 100000 in
set_option maxHeartbeats 2000000 in
theorem insertion_none (p : Option Addr) (c : Nat) (fv : Value) (w : World) : Calls Tryz.prog 206 #[.slice p 0 c, .int .i64 0, .int .i64 0, fv] w fun e w' => e = .returned (.tuple #[]) ∧ w = w' := by
  go_enter Tryz.func206, Tryz.ntmps206
  go_wp2_with fail
  refine wp_loop_rounds 1 ?_
  rw [rounds_succ]
  go_wp2_with fail
  go_end0
  exact ⟨rfl, rfl⟩
set_option maxRecDepth 100000 in
set_option maxHeartbeats 2000000 in
theorem pdq_none (p : Option Addr) (c : Nat) (lim : Int) (fv : Value) (w : World) : Calls Tryz.prog 197 #[.slice p 0 c, .int .i64 0, .int .i64 0, .int .i64 lim, fv] w fun e w' => e = .returned (.tuple #[]) ∧ w = w' := by
  go_enter Tryz.func197, Tryz.ntmps197
  go_wp2_with fail
  refine wp_loop_rounds 1 ?_
  rw [rounds_succ]
  go_wp2_with fail
  with_reducible refine (insertion_none _ _ _ _).mono ?_
  rintro e w' ⟨rfl, rfl⟩
  go_wp2_with fail
  refine bodyPost_ret (results_none rfl _ _ _) rfl ?_
  exact ⟨rfl, rfl⟩
set_option maxRecDepth 100000 in
set_option maxHeartbeats 2000000 in
theorem sort_none (p : Option Addr) (c : Nat) (fv : Value) (w : World) : Calls Tryz.prog 173 #[.slice p 0 c, fv] w fun e w' => e = .returned (.tuple #[]) ∧ w = w' := by
  have hl0 : Calls Tryz.prog 135 #[.int .u64 0] w (IntPost w) := len_small 0 (by omega) w
  go_enter Tryz.func173, Tryz.ntmps173
  go_wp2_with fail
  with_reducible refine hl0.mono ?_
  clear hl0
  rintro e w' ⟨v, rfl, rfl⟩
  go_wp2_with fail
  with_reducible refine (pdq_none _ _ _ _ _).mono ?_
  rintro e w' ⟨rfl, rfl⟩
  go_wp2_with fail
  go_end0
  exact ⟨rfl, rfl⟩

set_option maxRecDepth 100000 in
set_option maxHeartbeats 2000000 in
theorem pdq_sk {w : World} {s blk c : Nat} {L : List C} {ks : List ByteArray} (hl : ks.length ≤ 12) (hi : Calls Tryz.prog 206 #[.slice (some ⟨blk, 0, none⟩) ks.length c, .int .i64 0, .int .i64 ks.length, cmpV s] w fun e w' => e = .returned (.tuple #[]) ∧ OutR w L blk ks ks.length w') (lim : Int) :
    Calls Tryz.prog 197 #[.slice (some ⟨blk, 0, none⟩) ks.length c, .int .i64 0, .int .i64 ks.length, .int .i64 lim, cmpV s] w fun e w' => e = .returned (.tuple #[]) ∧ OutR w L blk ks ks.length w' := by
  have HI := Lib.hid hi
  clear hi
  obtain ⟨n, hn⟩ : ∃ n, n = ks.length := ⟨_, rfl⟩
  rw [← hn] at HI hl ⊢
  have HN := Lib.hid hn
  clear hn
  have hl' : (n : Int) ≤ 12 := by omega
  go_enter Tryz.func197, Tryz.ntmps197
  go_wp2_with fail
  refine wp_loop_rounds 1 ?_
  rw [rounds_succ]
  go_wp2_with fail
  with_reducible refine HI.out.mono ?_
  rintro e w' ⟨rfl, ho⟩
  have HO := Lib.hid ho
  clear ho
  go_wp2_with fail
  refine bodyPost_ret (results_none rfl _ _ _) rfl ?_
  exact ⟨rfl, HO.out⟩
set_option maxRecDepth 100000 in
set_option maxHeartbeats 2000000 in
theorem sort_sk {w : World} {s bm blk c : Nat} {cap tot : Int} {L : List C} (h : SkAt w s bm cap tot L) (hs : s ≠ blk) (hbm : bm ≠ blk) (hblk : blk < w.heap.size) (ks : List ByteArray) (hn : ks.Nodup) (hks : ∀ k ∈ ks, k.size ≤ maxLen) (hl : ks.length ≤ 12) (hr : Row w blk ks w) :
    Calls Tryz.prog 173 #[.slice (some ⟨blk, 0, none⟩) ks.length c, cmpV s] w fun e w' => e = .returned (.tuple #[]) ∧ OutR w L blk ks ks.length w' := by
  have HP := Lib.hid (fun lim => pdq_sk (c := c) (s := s) hl (insertion_sk h hs hbm hblk ks hn hks hl hr) lim)
  clear h hs hbm hn hks hr
  obtain ⟨n, hn⟩ : ∃ n, n = ks.length := ⟨_, rfl⟩
  rw [← hn] at HP hl ⊢
  have HN := Lib.hid hn
  clear hn
  have hl' : (n : Int) ≤ 12 := by omega
  go_enter Tryz.func173, Tryz.ntmps173
  go_wp2_with fail
  with_reducible refine (len_small n hl _).mono ?_
  rintro e w' ⟨v, rfl, rfl⟩
  go_wp2_with fail
  with_reducible refine (HP.out v).mono ?_
  rintro e w' ⟨rfl, ho⟩
  have HO := Lib.hid ho
  clear ho
  go_wp2_with fail
  go_end0
  exact ⟨rfl, HO.out⟩

/-- A new slice of strings that reads as xs. -/
def StrsN (lo : Nat) (W : World) (v : Value) (xs : List ByteArray) : Prop :=
  ∃ a c, v = .slice a xs.length c ∧ xs.length ≤ c ∧ ∀ (j : Nat) (s : ByteArray), xs[j]? = some s → ∃ b, a = some ⟨b, 0, none⟩ ∧ lo ≤ b ∧ W.cell? ⟨b, j, none⟩ = some (.string s)

def SortPost (w : World) (L : List C) (e : Ending) (w' : World) : Prop := ∃ v, e = .returned v ∧ StrsN w.heap.size w' v (L.map C.key) ∧ Keep (fun _ => False) w w'

theorem ks_perm {L : List C} {ss : List (List UInt8)} (h : KeysOf L ss) : (ss.map fun b => (⟨b.toArray⟩ : ByteArray)).Perm (L.map C.key) := by
  have h2 := h.map fun b => (⟨b.toArray⟩ : ByteArray)
  rw [List.map_map] at h2
  refine h2.trans (List.Perm.of_eq ?_)
  apply List.map_congr_left
  intro x _
  show (⟨x.key.data.toList.toArray⟩ : ByteArray) = x.key
  cases x.key
  simp

theorem row_of_owns {w : World} {lo g c n : Nat} {ss : List (List UInt8)} (h : w.ownsRow lo 9 1 (.slice (some ⟨g, 0, none⟩) n c) ss.length (ss.map encStr)) : Row w g (ss.map fun b => (⟨b.toArray⟩ : ByteArray)) w ∧ lo ≤ g ∧ g < w.heap.size ∧ n = ss.length := by
  refine ⟨⟨Keep.refl _ _, fun i x hx => ?_, fun i => ?_⟩, ?_⟩
  · rw [List.getElem?_map] at hx
    cases e : ss[i]? with
    | none => rw [e] at hx; cases hx
    | some b =>
      rw [e] at hx
      cases hx
      have := h.cells (g := g) rfl i (encStr b) (by rw [List.getElem?_map, e]; rfl)
      rw [Addr.add_lit, Nat.zero_add] at this
      exact this
  · rcases h.2 with ⟨e, _⟩ | ⟨g', cap, cur, e, hb, hh, _⟩
    · cases e
    · cases e
      unfold World.frozen?; simp only [hh]; simp
  · rcases h.2 with ⟨e, _⟩ | ⟨g', cap, cur, e, hb, hh, _⟩
    · cases e
    · cases e
      exact ⟨hb, (Array.getElem?_eq_some_iff.1 hh).1, rfl⟩

theorem sorted_keys {L : List C} (hk : (L.map C.key).Nodup) (hs : L.Pairwise BefC) : (L.map C.key).Pairwise (Bef L) := by
  rw [List.pairwise_map]
  have : ∀ (M : List C), (∀ x ∈ M, x ∈ L) → M.Pairwise BefC → M.Pairwise (fun a b => Bef L a.key b.key) := by
    intro M
    induction M with
    | nil => intro _ _; exact List.Pairwise.nil
    | cons x r ih =>
      intro hm hp
      rw [List.pairwise_cons] at hp ⊢
      exact ⟨fun y hy => (bef_iff hk (hm x (by simp)) (hm y (by simp [hy]))).2 (hp.1 y hy), ih (fun y hy => hm y (by simp [hy])) hp.2⟩
  exact this L (fun _ h => h) hs

set_option maxRecDepth 100000 in
set_option maxHeartbeats 1000000 in
theorem sorted_sk {w : World} {s bm Bm : Nat} {cap tot : Int} {L : List C} (h : SkAt w s bm cap tot L) (hsort : L.Pairwise BefC) (hB : Bm < w.heap.size) (hm : w.cell? ⟨Bm, 0, none⟩ = some (.map (some bm))) (hl : L.length ≤ 12) :
    Calls Tryz.prog 143 #[.func (.func 174) #[] #[ptr Bm], cmpV s] w (SortPost w L) := by
  have HC := Lib.hid (collect_sk h hB hm (by omega))
  have H := Lib.hid h
  have HS := Lib.hid hsort
  clear h hB hm hsort
  go_enter Tryz.func143, Tryz.ntmps143
  go_wp2_with fail
  with_reducible refine HC.out.mono ?_
  rintro e W ⟨v, ss, rfl, hS, hrow, hk⟩
  have HKO := Lib.hid hS
  have HK := Lib.hid hk
  have HSK := Lib.hid (H.out.keep hk (fun h => h) (fun h => h))
  clear HC
  rcases hrow.2 with ⟨rfl, h0⟩ | ⟨g, cp, cur, rfl, r⟩
  · have hss : ss = [] := by
      apply List.eq_nil_of_length_eq_zero
      have := hrow.1
      simpa using h0
    clear hrow hS hk h0
    go_wp2_with fail
    with_reducible refine (sort_none _ _ _ _).mono ?_
    rintro e w' ⟨rfl, rfl⟩
    go_wp2_with fail
    go_ret
    have hL : L = [] := by
      have := HKO.out.length_eq
      rw [hss] at this
      exact List.eq_nil_of_length_eq_zero (by simpa using this.symm)
    subst hL
    exact ⟨_, rfl, ⟨none, 0, rfl, by simp, by simp⟩, HK.out⟩
  · obtain ⟨hr, hlo, hgl, hnn⟩ := row_of_owns hrow
    have HCP := Lib.hid r.2.2.1
    clear hrow r
    have hperm := ks_perm hS
    have hlen : (ss.map fun b => (⟨b.toArray⟩ : ByteArray)).length = ss.length := by simp
    have hsl := hperm.length_eq
    rw [hlen, List.length_map] at hsl
    have hlt := H.out.lt
    have hso := sort_sk (c := cp) HSK.out (show s ≠ g by omega) (show bm ≠ g by omega) hgl (ss.map fun b => (⟨b.toArray⟩ : ByteArray)) (hperm.nodup_iff.2 H.out.keys) (fun k hk => by
      obtain ⟨x, hx, rfl⟩ := List.mem_map.1 (hperm.mem_iff.1 hk)
      exact H.out.ks x hx) (by omega) hr
    rw [hlen] at hso
    have HPM := Lib.hid hperm
    have HSO := Lib.hid hso
    have HNN := Lib.hid (And.intro hlo (And.intro hgl hsl))
    clear hr hperm hlen hso hsl hlt hS hk hlo hgl hnn
    go_wp2_with fail
    with_reducible refine HSO.out.mono ?_
    rintro e W2 ⟨rfl, ds, hrow, hpm, hsorted⟩
    have HD := Lib.hid (And.intro hrow (And.intro hpm hsorted))
    clear hrow hpm hsorted HSO
    go_wp2_with fail
    go_ret
    obtain ⟨hrow, hpm, hsorted⟩ := HD.out
    have hdl : ds.length = ss.length := by rw [hpm.length_eq]; simp
    have heq : ds = L.map C.key := by
      rw [List.take_of_length_le (by omega)] at hsorted
      exact (hpm.trans HPM.out).eq_of_pairwise (fun _ _ _ _ h1 h2 => absurd (h1.trans h2) (fun h => h.irrefl)) hsorted (sorted_keys H.out.keys HS.out)
    subst heq
    refine ⟨_, rfl, ⟨some ⟨g, 0, none⟩, cp, by rw [hdl]; rfl, by rw [hdl]; exact HCP.out, fun j k hj => ⟨g, rfl, HNN.out.1, hrow.c j k hj⟩⟩, HK.out.trans' hrow.k (fun i e => .inr (by have := HNN.out.1; omega))⟩

set_option maxRecDepth 100000 in
set_option maxHeartbeats 1000000 in
theorem ordered_sk {w : World} {s bm : Nat} {cap tot : Int} {L : List C} (h : SkAt w s bm cap tot L) (hsort : L.Pairwise BefC) (hl : L.length ≤ 12) :
    Calls Tryz.prog 126 #[ptr s] w (SortPost w L) := by
  have c2 := h.c2
  have H := Lib.hid h
  have HS := Lib.hid hsort
  clear h hsort
  go_enter Tryz.func126, Tryz.ntmps126
  go_wp2_with fail
  with_reducible refine (keys_any bm w).mono ?_
  rintro e W ⟨rfl, hW⟩
  have hk : Keep (fun _ => False) w W := by rw [hW]; exact (Keep.refl _ w).alloc _
  have hcell := new_cell w (.map (some bm)) 109
  rw [← hW] at hcell
  have hsz : w.heap.size < W.heap.size := by rw [hW]; simp
  have HSO := Lib.hid (sorted_sk (H.out.keep hk (fun h => h) (fun h => h)) HS.out hsz hcell.1 hl)
  have HK := Lib.hid (And.intro hk hsz)
  clear hW hk hcell hsz c2
  go_wp2_with fail
  with_reducible refine HSO.out.mono ?_
  rintro e W2 ⟨v, rfl, hst, hk2⟩
  have HF := Lib.hid (And.intro hst hk2)
  clear hst hk2
  go_wp2_with fail
  go_ret
  obtain ⟨⟨a, c, hv, hcc, hc⟩, hk2⟩ := HF.out
  exact ⟨_, rfl, ⟨a, c, hv, hcc, fun j k hj => by obtain ⟨b, h1, h2, h3⟩ := hc j k hj; exact ⟨b, h1, by have := HK.out.2; omega, h3⟩⟩, HK.out.1.trans hk2⟩
end Go.Proofs.YtplkmbfeeegaiaaGreatDoor.Sk

/-
  Slices of counters; Top.
-/
namespace Go.Proofs.YtplkmbfeeegaiaaGreatDoor.Sk
open Go.RowKit Go.Shelf

/-- A counter: its key, its count, its error. -/
structure K3 where
  key : ByteArray
  n : Int
  e : Int
deriving DecidableEq
def ctrOf (x : C) : K3 := ⟨x.key, x.hi, x.hi - x.lo⟩
/-- The cells of counters. -/
def flat : List K3 → List Value
  | [] => []
  | x :: r => .string x.key :: .int .i64 x.n :: .int .i64 x.e :: flat r
theorem flat_append : ∀ a b : List K3, flat (a ++ b) = flat a ++ flat b
  | [], b => rfl
  | x :: r, b => by simp only [List.cons_append, flat]; rw [flat_append r b]
theorem flat_length : ∀ a : List K3, (flat a).length = a.length * 3
  | [] => rfl
  | x :: r => by simp only [flat, List.length_cons, flat_length r]; omega
theorem flat_get : ∀ (l : List K3) (j : Nat) (x : K3), l[j]? = some x → (flat l)[j * 3]? = some (.string x.key) ∧ (flat l)[j * 3 + 1]? = some (.int .i64 x.n) ∧ (flat l)[j * 3 + 2]? = some (.int .i64 x.e)
  | [], j, x, h => by simp at h
  | y :: r, 0, x, h => by
    simp at h
    subst h
    exact ⟨rfl, rfl, rfl⟩
  | y :: r, j + 1, x, h => by
    obtain ⟨h1, h2, h3⟩ := flat_get r j x (by simpa using h)
    have e : (j + 1) * 3 = j * 3 + 1 + 1 + 1 := by omega
    rw [e]
    simp only [flat, List.getElem?_cons_succ]
    exact ⟨h1, h2, h3⟩

theorem info37 : (Tryz.prog.info? 124).map (fun i => (i.zero, i.size, i.bytes)) = some (some (ctrV ⟨#[]⟩ 0 0), 3, 32) := by kernel_rfl

/-- A slice that reads as these counters. -/
def CtrsAt (W : World) (v : Value) (l : List K3) : Prop :=
  ∃ a c, v = .slice a l.length c ∧ ∀ (j : Nat) (x : K3), l[j]? = some x → ∃ b off, a = some ⟨b, off, none⟩ ∧ W.cell? ⟨b, off + j * 3, none⟩ = some (.string x.key) ∧ W.cell? ⟨b, off + j * 3 + 1, none⟩ = some (.int .i64 x.n) ∧ W.cell? ⟨b, off + j * 3 + 2, none⟩ = some (.int .i64 x.e)

theorem CtrsAt.of_owns {W : World} {lo : Nat} {v : Value} {l : List K3} (h : W.ownsRow lo 124 3 v l.length (flat l)) : CtrsAt W v l := by
  rcases h.2 with ⟨rfl, hx⟩ | ⟨g, cap, cur, rfl, r⟩
  · have : l = [] := List.eq_nil_of_length_eq_zero hx
    subst this
    exact ⟨none, 0, rfl, fun j s hj => by simp at hj⟩
  · refine ⟨some ⟨g, 0, none⟩, cap, rfl, fun j x hj => ⟨g, 0, rfl, ?_, ?_, ?_⟩⟩
    · have := h.cells (g := g) rfl _ _ (flat_get l j x hj).1
      rwa [Addr.add_lit] at this
    · have := h.cells (g := g) rfl _ _ (flat_get l j x hj).2.1
      rwa [Addr.add_lit, ← Nat.add_assoc] at this
    · have := h.cells (g := g) rfl _ _ (flat_get l j x hj).2.2
      rwa [Addr.add_lit, ← Nat.add_assoc] at this

theorem CtrsAt.keep {W W' : World} {v : Value} {l : List K3} {A : Nat → Prop} (h : CtrsAt W v l) (k : Keep A W W') (hA : ∀ b, v.ownBlock = some b → ¬ A b) : CtrsAt W' v l := by
  obtain ⟨a, c, rfl, h⟩ := h
  refine ⟨a, c, rfl, fun j s hj => ?_⟩
  obtain ⟨b, off, rfl, h1, h2, h3⟩ := h j s hj
  exact ⟨b, off, rfl, k.cell h1 (hA b rfl), k.cell h2 (hA b rfl), k.cell h3 (hA b rfl)⟩

theorem ownsRow_keep {W W' : World} {lo : Nat} {e : TypeId} {z : Nat} {v : Value} {n : Nat} {xs : List Value} {A : Nat → Prop} (h : W.ownsRow lo e z v n xs) (k : Keep A W W') (hA : ∀ b, v.ownBlock = some b → ¬ A b) : W'.ownsRow lo e z v n xs := by
  obtain ⟨h1, h2⟩ := h
  refine ⟨h1, ?_⟩
  rcases h2 with h2 | ⟨g, cap, cur, rfl, hb, hh, r⟩
  · exact .inl h2
  · exact .inr ⟨g, cap, cur, rfl, hb, k.heap hh (hA g rfl), r⟩

/-- One counter more. -/
theorem app_ctr (W : World) (ty lo : Nat) (v : Value) (l : List K3) (x : K3) (hown : W.ownsRow lo 124 3 v l.length (flat l)) (hn : l.length ≤ 100000) (hlo : lo ≤ W.heap.size) :
    ∃ v' w', (Builtin.append_ #[112, 112] ty #[v, .slice (some ⟨W.heap.size, 0, none⟩) 1 1]).run Tryz.prog (W.alloc (.cells #[.string x.key, .int .i64 x.n, .int .i64 x.e] 124)) = .ok v' w' ∧ w'.ownsRow lo 124 3 v' (l ++ [x]).length (flat (l ++ [x])) ∧
      Keep (fun k => v.ownBlock = some k) W w' ∧ (v'.ownBlock = v.ownBlock ∨ v'.ownBlock = some (W.heap.size + 1)) ∧ ∃ g c, v' = .slice (some ⟨g, 0, none⟩) (l.length + 1) c := by
  obtain ⟨i0, hi, hz0, hz1, hz2⟩ := info_parts info37
  obtain ⟨c0, c1, c2, _⟩ := three_cell W (.string x.key) (.int .i64 x.n) (.int .i64 x.e) 124
  obtain ⟨v', w', h1, h2, h3, h4, h5⟩ := run_append_own_at (P := Tryz.prog) (W.alloc (.cells #[.string x.key, .int .i64 x.n, .int .i64 x.e] 124)) lo 112 ty 124 i0 (ctrV ⟨#[]⟩ 0 0) 3 32 Tryz.underlying112 hi hz0 hz1 hz2 rfl (by decide) v l.length (flat l) (hown.alloc _) ⟨W.heap.size, 0, none⟩ 1 1 (flat [x]) rfl
    (by
      intro j u hj
      rw [Addr.add_lit, Nat.zero_add]
      match j, hj with
      | 0, hj => cases hj; exact c0
      | 1, hj => cases hj; exact c1
      | 2, hj => cases hj; exact c2
      | n + 3, hj => simp [flat] at hj)
    (by simp [flat, Value.oneCell']) (by unfold maxLen; omega) (by omega) (by rw [World.size_alloc]; omega)
  rw [← flat_append] at h2
  have e : l.length + 1 = (l ++ [x]).length := by simp
  refine ⟨v', w', h1, by rw [← e]; exact h2, ((Keep.refl _ W).alloc _).trans (Keep.of_grown h3), by rw [World.size_alloc] at h5; exact h5, ?_⟩
  exact ownsRow_succ h2

theorem wpList_app {P : Program} {ops : Array Oper} {rest : List Oper} {o : Oper} {a : Act} {w w' : World} {Q : Exit → Act → World → Prop} {v v2 v' : Value}
    (hg : o.guard = none) (s x : Operand) (t : TypeId) (hop : o.op = Op.call { callee := Callee.builtin Builtin.append, args := #[s, x], argTypes := #[t, t] })
    (hs : a.eval s = v) (hx : a.eval x = v2) (hrun : (Builtin.append_ #[t, t] o.type #[v, v2]).run P w = .ok v' w') (hK : wpList P ops Q rest (a.put o.dst v') w') : wpList P ops Q (o :: rest) a w := by
  refine wpList_plain hg fun K hK' => ?_
  unfold Oper.wp
  simp [execOp, hop, resolve, invoke, builtin, hs, hx, hrun, Result.andThen]
  exact hK' _ _ hK

def TopPost (w : World) (l : List K3) (e : Ending) (w' : World) : Prop := ∃ v, e = .returned v ∧ w'.ownsRow w.heap.size 124 3 v l.length (flat l) ∧ Keep (fun _ => False) w w'

set_option maxRecDepth 100000 in
set_option maxHeartbeats 400000 in
theorem top_nil (n : Int) (w : World) : Calls Tryz.prog 95 #[.pointer none, .int .i64 n] w fun e w' => e = .returned (.slice none 0 0) ∧ w = w' := by
  go_enter Tryz.func95, Tryz.ntmps95
  go_wp2_with fail
  go_step3
  go_wp2_with fail
  rw [Exit.noGoto_ret]
  go_ret
  exact ⟨rfl, rfl⟩

def TopR (W : World) (L : List C) (i : Nat) (vo : Value) (wr : World) : Prop := Keep (fun _ => False) W wr ∧ wr.ownsRow W.heap.size 124 3 vo ((L.take i).map ctrOf).length (flat ((L.take i).map ctrOf))

/-- The first ones. -/
def topC (L : List C) (n : Int) : List K3 := (L.take n.toNat).map ctrOf

set_option maxRecDepth 100000 in
set_option maxHeartbeats 1000000 in
theorem top_sk {w : World} {s bm cap : Nat} {L : List C} (h : Sk w s bm cap L) (hl : L.length ≤ 12) (n : Int) :
    Calls Tryz.prog 95 #[ptr s, .int .i64 n] w (TopPost w (topC L n)) := by
  have H := Lib.hid h
  have HO := Lib.hid (ordered_sk h.at_ h.ok.sorted hl)
  clear h
  go_enter Tryz.func95, Tryz.ntmps95
  go_wp2_with fail
  go_step3
  go_wp2_with fail
  go_step3
  go_wp2_with fail
  with_reducible refine HO.out.mono ?_
  rintro e W ⟨v, rfl, ⟨a, c, rfl, -, hc⟩, hk⟩
  have HC := Lib.hid hc
  have HK := Lib.hid hk
  have HSK := Lib.hid (H.out.keep hk (fun h => h) (fun h => h))
  rw [List.length_map]
  obtain ⟨m, hm⟩ : ∃ m, m = L.length := ⟨_, rfl⟩
  rw [← hm] at hl ⊢
  have HM := Lib.hid hm
  clear hc hk HO hm
  go_wp2_with fail
  go_loopg [4, 12] m (fun gh vo vi wr => ∃ (i : Nat), vi = .int .i64 i ∧ i ≤ m ∧ m ≤ gh + i ∧ i ≤ n.toNat ∧ TopR W L i vo wr)
  case atStart => exact ⟨0, rfl, Nat.zero_le _, by omega, Nat.zero_le _, Keep.refl _ _, by simpa [flat] using World.ownsRow_nil W W.heap.size 124 3⟩
  case round =>
    obtain ⟨i, rfl, him, hgh, hin, hk, hrow⟩ := hrel
    have HKR := Lib.hid hk
    have HROW := Lib.hid hrow
    clear hk hrow
    have hvs : u4 = .slice none 0 0 ∨ ∃ b n c, u4 = .slice (some ⟨b, 0, none⟩) n c := by
      rcases HROW.out.2 with ⟨rfl, _⟩ | ⟨g', cap, cur, rfl, _⟩
      · exact .inl rfl
      · exact .inr ⟨_, _, _, rfl⟩
    have HVS := Lib.hid hvs
    clear hvs
    by_cases hlt : i < m
    · have hltz : (i : Int) < (m : Int) := by omega
      have hi : i < L.length := by rw [← HM.out]; exact hlt
      have hget : L[i]? = some L[i] := List.getElem?_eq_getElem hi
      generalize L[i] = x at hget
      obtain ⟨b, rfl, hb, hc⟩ := HC.out i x.key (by rw [List.getElem?_map, hget]; rfl)
      have hc' := HKR.out.cell hc (fun h => h)
      have hxL : x ∈ L := List.mem_of_getElem? hget
      have HG := Lib.hid hget
      have HX := Lib.hid hxL
      have HKX := Lib.hid (H.out.ok.ks x hxL)
      clear hi hget hc hxL
      have hi0 : (0 : Int) ≤ (i : Int) := by omega
      by_cases hn : n ≤ (i : Int)
      · have HF : Hid (TopPost w (topC L n) (.returned u4) wr) := Lib.hid ⟨u4, rfl, by
          have e : n.toNat = i := by omega
          unfold topC
          rw [e]
          exact ⟨HROW.out.1, HROW.out.2.imp id (fun ⟨g, cp, cur, a1, a2, a3⟩ => ⟨g, cp, cur, a1, Nat.le_trans HK.out.size a2, a3⟩)⟩, HK.out.trans HKR.out⟩
        clear hin
        go_wp2_with fail
        rw [Exit.noGoto_ret]
        go_ret
        exact HF.out
      · have hn' : ¬ n ≤ (i : Int) := hn
        have HIN := Lib.hid hin
        clear hin
        go_wp2_with fail
        with_reducible refine (counter_sk (HSK.out.keep HKR.out (fun h => h) (fun h => h)) x.key HKX.out).mono ?_
        rintro e W2 ⟨rfl, k2⟩
        rw [hiOf_mem H.out.ok.keys HX.out, loOf_mem H.out.ok.keys HX.out]
        have hrow2 := ownsRow_keep HROW.out k2 (fun _ _ h => h)
        obtain ⟨v', w', r1, hown', hk', hloc, g, cc, rfl⟩ := app_ctr W2 112 W.heap.size u4 ((L.take i).map ctrOf) (ctrOf x) hrow2 (by simp; have := HM.out; omega) (Nat.le_trans HKR.out.size k2.size)
        have hst : (L.take i).map ctrOf ++ [ctrOf x] = (L.take (i + 1)).map ctrOf := by
          rw [List.take_add_one, HG.out]; simp
        rw [hst] at hown'
        have hr1 : (Builtin.append_ #[112, 112] 112 #[u4, .slice (some ⟨W2.heap.size, 0, none⟩) 1 1]).run Tryz.prog (W2.alloc (.cells #[.string x.key, .int .i64 x.hi, .int .i64 (x.hi - x.lo)] 124)) = .ok (.slice (some ⟨g, 0, none⟩) (((L.take i).map ctrOf).length + 1) cc) w' := r1
        have HN : Hid (TopR W L (i + 1) (.slice (some ⟨g, 0, none⟩) (((L.take i).map ctrOf).length + 1) cc) w') := Lib.hid ⟨(HKR.out.trans k2).trans' hk' (fun j e => .inr (HROW.out.lt j e).1), hown'⟩
        clear hrow2 r1 hown' hk' hloc hst k2
        generalize ((L.take i).map ctrOf).length + 1 = len at *
        rcases HVS.out with rfl | ⟨b5, n5, c5, rfl⟩
        all_goals
          go_wp2_with (at_builtin; refine wpList_app rfl (.tmp 20) (.tmp 24) 112 rfl rfl rfl hr1 ?_)
          clear hr1
          go_roundg (m - (i + 1))
          case rel => exact ⟨i + 1, by go_num, by omega, by omega, by have := HIN.out; omega, HN.out⟩
          case measure => omega
    · have hltz : ¬ (i : Int) < (m : Int) := by omega
      have HF : Hid (TopPost w (topC L n) (.returned u4) wr) := Lib.hid ⟨u4, rfl, by
        have e : i = L.length := by have := HM.out; omega
        have e2 : (L.take n.toNat) = L.take i := by rw [List.take_of_length_le (by omega), List.take_of_length_le (by omega)]
        unfold topC
        rw [e2]
        exact ⟨HROW.out.1, HROW.out.2.imp id (fun ⟨g, cp, cur, a1, a2, a3⟩ => ⟨g, cp, cur, a1, Nat.le_trans HK.out.size a2, a3⟩)⟩, HK.out.trans HKR.out⟩
      clear hin
      go_wp2_with fail
      go_ret
      exact HF.out
end Go.Proofs.YtplkmbfeeegaiaaGreatDoor.Sk

/-
  Strings in slices; SameStrings; Hot.
-/
namespace Go.Proofs.YtplkmbfeeegaiaaGreatDoor
open Go.RowKit Go.Shelf

theorem own_some2 {W : World} {lo : Nat} {e : TypeId} {z n c : Nat} {a : Option Addr} {xs : List Value} (h : W.ownsRow lo e z (.slice a n c) n xs) (hn : 0 < n) : ∃ g, a = some ⟨g, 0, none⟩ := by
  rcases h.2 with ⟨h1, h2⟩ | ⟨g, c', cur, h1, _⟩
  · omega
  · obtain ⟨rfl, -, -⟩ := Value.slice.inj h1
    exact ⟨g, rfl⟩
/-- Strings in a slice. -/
structure Strs (W : World) (v : Value) (xs : List ByteArray) : Prop where
  n : xs.length ≤ 1000000000000000
  at_ : ∃ a c b off, v = .slice a xs.length c ∧ xs.length ≤ c ∧ (0 < xs.length → a = some ⟨b, off, none⟩) ∧ ∀ j x, xs[j]? = some x → W.cell? ⟨b, off + j, none⟩ = some (.string x)
theorem Strs.kept {W W' : World} {v : Value} {xs : List ByteArray} (h : Strs W v xs) (k : Keep (fun _ => False) W W') : Strs W' v xs := by
  obtain ⟨hn, a, c, b, off, rfl, hc, ha, h1⟩ := h
  exact ⟨hn, a, c, b, off, rfl, hc, ha, fun j x hj => k.cell (h1 j x hj) (fun h => h)⟩
theorem Strs.nil (W : World) : Strs W (.slice none 0 0) [] := ⟨by simp, none, 0, 0, 0, rfl, by simp, fun h => by simp at h, fun j x hj => by simp at hj⟩
theorem strs_owns {W : World} {lo : Nat} {v : Value} {xs : List ByteArray} (h : W.ownsRow lo 9 1 v xs.length (xs.map Value.string)) (hl : xs.length ≤ 1000000) : Strs W v xs := by
  rcases h.2 with ⟨rfl, h0⟩ | ⟨g, cap, cur, rfl, hg, hh, hcap, r⟩
  · have : xs = [] := List.eq_nil_of_length_eq_zero h0
    subst this
    exact Strs.nil W
  · refine ⟨by omega, some ⟨g, 0, none⟩, cap, g, 0, rfl, hcap, fun _ => rfl, fun j x hj => ?_⟩
    have h3 := h.cells (g := g) rfl j (.string x) (by rw [List.getElem?_map, hj]; rfl)
    rw [Addr.add_lit] at h3
    exact h3
theorem infoStr : (Tryz.prog.info? 9).map (fun i => (i.zero, i.size, i.bytes)) = some (some (.string ⟨#[]⟩), 1, 16) := by kernel_rfl
/-- Strings in a slice of their own. -/
def OwnT (w : World) (l : List ByteArray) (v : Value) (W : World) : Prop := Keep (fun _ => False) w W ∧ W.ownsRow w.heap.size 9 1 v l.length (l.map Value.string)
theorem OwnT.nil {w W : World} (k : Keep (fun _ => False) w W) : OwnT w [] (.slice none 0 0) W := ⟨k, by simpa using World.ownsRow_nil W w.heap.size 9 1⟩
theorem OwnT.keep {w W W' : World} {l : List ByteArray} {v : Value} (h : OwnT w l v W) (k : Keep (fun _ => False) W W') : OwnT w l v W' := ⟨h.1.trans k, ownsRow_keep h.2 k (fun _ _ h => h)⟩
theorem OwnT.snoc {w W : World} {l : List ByteArray} {v : Value} (h : OwnT w l v W) (x : ByteArray) (hl : l.length ≤ 100000) :
    ∃ v' w', (Builtin.append_ #[67, 67] 67 #[v, .slice (some ⟨W.heap.size, 0, none⟩) 1 1]).run Tryz.prog (W.alloc (.cells #[.string x] 9)) = .ok v' w' ∧ OwnT w (l ++ [x]) v' w' ∧ Keep (fun j => v.ownBlock = some j) W w' ∧ (v'.ownBlock = v.ownBlock ∨ v'.ownBlock = some (W.heap.size + 1)) := by
  obtain ⟨v', w', r1, r2, r3, r4, g, c, r5⟩ := app_one 67 9 1 16 _ Tryz.underlying67 infoStr rfl (by decide) (by decide) W 67 w.heap.size v l.length (l.map Value.string) [.string x] h.2 rfl (by simp [Value.oneCell']) (by omega) h.1.size
  refine ⟨v', w', r1, ⟨h.1.trans' r3 (fun j e => .inr (h.2.lt j e).1), ?_⟩, r3, r4⟩
  rw [List.map_append, List.length_append]
  exact r2

set_option maxRecDepth 100000 in
set_option maxHeartbeats 2000000 in
theorem sameStrs_any (va vb : Value) (xs ys : List ByteArray) (w : World) (ha : Strs w va xs) (hb : Strs w vb ys) : Calls Tryz.prog 46 #[va, vb] w fun e w' => e = .returned (.bool (decide (xs = ys))) ∧ Keep (fun _ => False) w w' := by
  obtain ⟨hn1, a, c, b, off, rfl, hc, ha, hcell⟩ := ha
  obtain ⟨hn2, a', c', b', off', rfl, hc', ha', hcell'⟩ := hb
  have HCA := Lib.hid hcell
  have HCB := Lib.hid hcell'
  have HAA := Lib.hid ha
  have HAB := Lib.hid ha'
  clear hcell hcell' ha ha'
  by_cases hl : xs.length = ys.length
  · obtain ⟨n, hn⟩ : ∃ n, xs.length = n := ⟨_, rfl⟩
    have hny : ys.length = n := by omega
    have HN := Lib.hid hn
    have HNY := Lib.hid hny
    rw [hn] at hn1 hc ⊢
    rw [hny] at hn2 hc' ⊢
    have hd : ((n : Int) != (n : Int)) = false := by simp
    clear hl hn hny
    go_enter Tryz.func46, Tryz.ntmps46
    go_wp2_with fail
    go_loopg [5] (n) (fun gh i wr => ∃ (k m : Nat), gh + k = n ∧ i = .int .i64 k ∧ wr = w.drewN m ∧ Hid (xs.take k = ys.take k))
    case atStart => exact ⟨0, 0, Nat.add_zero _, rfl, rfl, rfl⟩
    case round =>
      obtain ⟨k, m, hk, rfl, rfl, HE⟩ := hrel
      by_cases hlt : k < n
      · have hkx : k < xs.length := by rw [HN.out]; exact hlt
        have hky : k < ys.length := by rw [HNY.out]; exact hlt
        obtain rfl := HAA.out (by omega)
        obtain rfl := HAB.out (by omega)
        have t1 : xs.take (k + 1) = xs.take k ++ [xs[k]] := by rw [List.take_add_one, List.getElem?_eq_getElem hkx]; rfl
        have t2 : ys.take (k + 1) = ys.take k ++ [ys[k]] := by rw [List.take_add_one, List.getElem?_eq_getElem hky]; rfl
        have hb0 : (0 : Int) ≤ (k : Int) := by omega
        have hb1 : (k : Int) < (n : Int) := by omega
        have ca0 := HCA.out k _ (List.getElem?_eq_getElem hkx)
        have cb0 := HCB.out k _ (List.getElem?_eq_getElem hky)
        -- the elements
        by_cases hst : xs[k] = ys[k]
        · have HT : Hid (xs.take (k + 1) = ys.take (k + 1)) := by
            show _ = _
            rw [t1, t2, HE.out, hst]
          rw [← hst] at cb0
          clear t1 t2 hst
          generalize xs[k] = x at *
          clear hkx hky
          have hb : (x.toList == x.toList) = true := by simp
          go_wp2_with fail
          go_quiet (fail)
          go_wp2_with fail
          go_roundg (gk - 1)
          case rel => exact ⟨k + 1, _, by omega, by go_num, by first | rfl | exact World.drewN_drewN _ _ _, HT⟩
          case measure => omega
        · have HT : Hid (decide (xs = ys) = false) := Lib.hid (by
            rw [decide_eq_false_iff_not]
            intro e
            subst e
            exact hst rfl)
          generalize xs[k] = x at *
          generalize ys[k] = y at *
          have hb : (x.toList == y.toList) = false := by simpa using fun e => hst (Sk.toList_inj e)
          clear hkx hky t1 t2 hst
          go_wp2_with fail
          go_quiet (fail)
          go_wp2_with fail
          go_ret
          exact ⟨by rw [HT.out]; rfl, ((Keep.refl _ w).drewN _).drewN _⟩
      · have HT : Hid (decide (xs = ys) = true) := by
          show _ = _
          rw [decide_eq_true_eq]
          have h1 := HE.out
          rw [List.take_of_length_le (by have := HN.out; omega), List.take_of_length_le (by have := HNY.out; omega)] at h1
          exact h1
        go_wp2_with fail
        go_ret
        exact ⟨by rw [HT.out]; rfl, (Keep.refl _ w).drewN _⟩
  · have hd : ((xs.length : Int) != (ys.length : Int)) = true := by simp; omega
    have HT : Hid (decide (xs = ys) = false) := by
      show _ = _
      rw [decide_eq_false_iff_not]
      intro e
      subst e
      exact hl rfl
    go_enter Tryz.func46, Tryz.ntmps46
    go_wp2_with fail
    go_ret
    exact ⟨by rw [HT.out]; rfl, Keep.refl _ w⟩

/-- The hot keys. -/
def leastH (share tot : Int) : Int := share * (tot / 100) + (share * (tot % 100) + 99) / 100
def hotL (L : List Sk.C) (share : Int) : List ByteArray := if share < 1 ∨ 100 < share ∨ Sk.sumH L = 0 then [] else ((Sk.topC L 64).filter (fun x => decide (leastH share (Sk.sumH L) ≤ x.n - x.e))).map Sk.K3.key
def HotPost (w : World) (xs : List ByteArray) (e : Ending) (w' : World) : Prop := ∃ v, e = .returned v ∧ Strs w' v xs ∧ Keep (fun _ => False) w w'
def hotK (l : List Sk.K3) (least : Int) (k : Nat) : List ByteArray := ((l.take k).filter (fun x => decide (least ≤ x.n - x.e))).map Sk.K3.key
theorem hotK_succ {l : List Sk.K3} {least : Int} {k : Nat} {x : Sk.K3} (h : l[k]? = some x) : hotK l least (k + 1) = hotK l least k ++ (if least ≤ x.n - x.e then [x.key] else []) := by
  unfold hotK
  rw [List.take_add_one, h, Option.toList_some, List.filter_append, List.map_append]
  congr 1
  by_cases e : least ≤ x.n - x.e <;> simp [e]
theorem hotK_len (l : List Sk.K3) (least : Int) (k : Nat) : (hotK l least k).length ≤ l.length := by
  unfold hotK
  rw [List.length_map]
  exact Nat.le_trans (List.length_filter_le _ _) (by rw [List.length_take]; omega)

set_option maxRecDepth 100000 in
set_option maxHeartbeats 2000000 in
theorem hot_sk {w : World} {s bm cap : Nat} {L : List Sk.C} (h : Sk.Sk w s bm cap L) (hl : L.length ≤ 12) (share : Int) : Calls Tryz.prog 47 #[ptr s, .int .i64 share] w (HotPost w (hotL L share)) := by
  have HTT := Lib.hid (Sk.total_sk h)
  have HTP : Hid (∀ W, Keep (fun _ => False) w W → Calls Tryz.prog 95 #[ptr s, .int .i64 64] W (Sk.TopPost W (Sk.topC L 64))) := Lib.hid (fun W k => Sk.top_sk (h.keep k (fun h => h) (fun h => h)) hl 64)
  have htot : 0 ≤ Sk.sumH L ∧ Sk.sumH L ≤ 4611686018427387903 := ⟨Sk.sumH_nonneg (L := L) (fun y hy => by have := h.ok.pos y hy; omega), h.ok.sum⟩
  obtain ⟨tp, htp⟩ : ∃ tp, Sk.topC L 64 = tp := ⟨_, rfl⟩
  have HTL : Hid (tp.length ≤ 12) := Lib.hid (by rw [← htp]; unfold Sk.topC; rw [List.length_map, List.length_take]; omega)
  have HTB : Hid (∀ x ∈ tp, I64 x.n ∧ I64 x.e ∧ I64 (x.n - x.e)) := Lib.hid (fun x hx => by
    rw [← htp] at hx
    unfold Sk.topC at hx
    obtain ⟨c, hc, rfl⟩ := List.mem_map.1 hx
    have hc2 := List.mem_of_mem_take hc
    have h1 := h.ok.pos c hc2
    have h2 := h.ok.mem hc2
    have h3 := h.ok.sum
    unfold I64 Sk.ctrOf
    simp only []
    omega)
  obtain ⟨xs, hxs⟩ : ∃ xs, hotL L share = xs := ⟨_, rfl⟩
  have HXS : Hid (xs = if share < 1 ∨ 100 < share ∨ Sk.sumH L = 0 then [] else hotK tp (leastH share (Sk.sumH L)) tp.length) := Lib.hid (by
    rw [← hxs]
    unfold hotL hotK
    rw [htp, List.take_length])
  rw [htp] at HTP
  rw [hxs]
  clear htp hxs h hl
  generalize Sk.sumH L = tot at *
  go_enter Tryz.func47, Tryz.ntmps47
  go_wp2_with fail
  with_reducible refine HTT.out.mono ?_
  rintro e w' ⟨rfl, rfl⟩
  have HNIL : Hid (share < 1 ∨ 100 < share ∨ tot = 0 → xs = []) := Lib.hid (fun h => by rw [HXS.out, if_pos h])
  by_cases h1 : share < 1
  · have HN := Lib.hid (HNIL.out (.inl h1))
    go_wp2_with fail
    go_ret
    exact ⟨_, rfl, by rw [HN.out]; exact Strs.nil _, Keep.refl _ _⟩
  · by_cases h2 : 100 < share
    · have HN := Lib.hid (HNIL.out (.inr (.inl h2)))
      go_wp2_with fail
      go_ret
      exact ⟨_, rfl, by rw [HN.out]; exact Strs.nil _, Keep.refl _ _⟩
    · by_cases h3 : tot = 0
      · have HN := Lib.hid (HNIL.out (.inr (.inr h3)))
        subst h3
        go_wp2_with fail
        go_ret
        exact ⟨_, rfl, by rw [HN.out]; exact Strs.nil _, Keep.refl _ _⟩
      · have h3b : (tot == 0) = false := by simpa using h3
        have HXK : Hid (xs = hotK tp (leastH share tot) tp.length) := Lib.hid (by rw [HXS.out, if_neg (by omega)])
        have e1 : IntKind.i64.wrap (tot.tdiv 100) = tot / 100 := by rw [Int.tdiv_eq_ediv_of_nonneg (by omega)]; exact wrapI (by unfold I64; omega)
        have e2 : tot.tmod 100 = tot % 100 := by rw [Int.tmod_eq_emod_of_nonneg (by omega)]
        obtain ⟨q, hq⟩ : ∃ q, tot / 100 = q := ⟨_, rfl⟩
        obtain ⟨r, hr⟩ : ∃ r, tot % 100 = r := ⟨_, rfl⟩
        have hqb : 0 ≤ q ∧ q ≤ 46116860184273879 := by omega
        have hrb : 0 ≤ r ∧ r < 100 := by omega
        have hsq1 : share * q ≤ 100 * 46116860184273879 := Int.mul_le_mul (by omega) hqb.2 hqb.1 (by omega)
        have hsq0 : 0 ≤ share * q := Int.mul_nonneg (by omega) hqb.1
        have hsr1 : share * r ≤ 100 * 99 := Int.mul_le_mul (by omega) (by omega) hrb.1 (by omega)
        have hsr0 : 0 ≤ share * r := Int.mul_nonneg (by omega) hrb.1
        have hlz : leastH share tot = share * q + (share * r + 99) / 100 := by unfold leastH; rw [hq, hr]
        rw [hq] at e1
        rw [hr] at e2
        rw [hlz] at HXK
        have w1 : IntKind.i64.wrap (share * q) = share * q := wrapI (by unfold I64; omega)
        have w2 : IntKind.i64.wrap (share * r) = share * r := wrapI (by unfold I64; omega)
        have w3 : IntKind.i64.wrap (share * r + 99) = share * r + 99 := wrapI (by unfold I64; omega)
        have w4 : IntKind.i64.wrap ((share * r + 99).tdiv 100) = (share * r + 99) / 100 := by rw [Int.tdiv_eq_ediv_of_nonneg (by omega)]; exact wrapI (by unfold I64; omega)
        have w5 : IntKind.i64.wrap (share * q + (share * r + 99) / 100) = share * q + (share * r + 99) / 100 := wrapI (by unfold I64; omega)
        clear hlz hq hr HNIL HXS htot
        go_upto_region 5 with (fail)
        clear w1 w2 w3 w4 w5 e1 e2
        generalize share * q + (share * r + 99) / 100 = lst at *
        go_wp2_with fail
        with_reducible refine (HTP.out w (Keep.refl _ w)).mono ?_
        rintro e W1 ⟨vt, rfl, hown, k1⟩
        have hct := Sk.CtrsAt.of_owns hown
        obtain ⟨ta, tc, rfl⟩ := own_form hown
        have HOWN := Lib.hid hown
        have HK1 := Lib.hid k1
        have htl := HTL.out
        obtain ⟨tn, htn⟩ : ∃ n, tp.length = n := ⟨_, rfl⟩
        have HTN := Lib.hid htn
        have HCELL : Hid (∀ j x, tp[j]? = some x → ∃ g, ta = some ⟨g, 0, none⟩ ∧ W1.cell? ⟨g, j * 3, none⟩ = some (.string x.key) ∧ W1.cell? ⟨g, j * 3 + 1, none⟩ = some (.int .i64 x.n) ∧ W1.cell? ⟨g, j * 3 + 2, none⟩ = some (.int .i64 x.e)) := Lib.hid (fun j x hj => by
          have hpos : 0 < tp.length := by have := (List.getElem?_eq_some_iff.1 hj).1; omega
          obtain ⟨g, e⟩ := own_some2 hown hpos
          cases e
          obtain ⟨f1, f2, f3⟩ := Sk.flat_get tp j x hj
          have g1 := hown.cells (g := g) rfl _ _ f1
          have g2 := hown.cells (g := g) rfl _ _ f2
          have g3 := hown.cells (g := g) rfl _ _ f3
          rw [Addr.add_lit, Nat.zero_add] at g1 g2 g3
          exact ⟨g, rfl, g1, g2, g3⟩)
        have HCAP : Hid (tp.length ≤ tc) := Lib.hid (by
          rcases hown.2 with ⟨h1, h2⟩ | ⟨g, cap, cur, h1, h2, h3, h4, h5⟩
          · injection h1 with _ h12 _; omega
          · injection h1 with _ h12 h13; rw [h12, h13]; exact h4)
        rw [htn] at HXK htl HCAP ⊢
        have hcap := HCAP.out
        clear hct hown k1 htn
        go_wp2_with fail
        go_loopg [7, 36] tn (fun gh v7 v36 wr => ∃ k : Nat, gh + k = tn ∧ v36 = .int .i64 k ∧ OwnT w (hotK tp lst k) v7 wr ∧ Keep (fun _ => False) W1 wr ∧ ∀ j, v7.ownBlock = some j → W1.heap.size ≤ j)
        case atStart => exact ⟨0, by omega, rfl, OwnT.nil HK1.out, Keep.refl _ _, fun j e => by cases e⟩
        case round =>
          obtain ⟨k, hk, rfl, how, hkeep, hov⟩ := hrel
          have HOW := Lib.hid how
          have HKE := Lib.hid hkeep
          have HOV := Lib.hid hov
          clear hov
          clear how hkeep
          by_cases hlt : k < tn
          · obtain ⟨x, hx⟩ : ∃ x, tp[k]? = some x := ⟨_, List.getElem?_eq_getElem (by rw [HTN.out]; exact hlt)⟩
            obtain ⟨g, rfl, c0, c1, c2⟩ := HCELL.out k x hx
            replace c0 := HKE.out.cell c0 (fun h => h)
            replace c1 := HKE.out.cell c1 (fun h => h)
            replace c2 := HKE.out.cell c2 (fun h => h)
            obtain ⟨xb1, xb2, xb3⟩ := HTB.out x (List.mem_of_getElem? hx)
            have HSU := Lib.hid (hotK_succ (least := lst) hx)
            have hwx := wrapI xb3
            have hkz : (k : Int) < (tn : Int) := by omega
            have hk0 : (0 : Int) ≤ (k : Int) := by omega
            clear hx xb1 xb2 xb3
            obtain ⟨xk, xn, xe⟩ := x
            simp only [] at c0 c1 c2 hwx
            have HT3 := Lib.hid (three_cell wr (.string xk) (.int .i64 xn) (.int .i64 xe) 124)
            have HKA : Hid (Keep (fun _ => False) wr (wr.alloc (.cells #[.string xk, .int .i64 xn, .int .i64 xe] 124))) := Lib.hid ((Keep.refl _ wr).alloc _)
            have HOW2 := Lib.hid (HOW.out.keep HKA.out)
            have HKE2 := Lib.hid (HKE.out.trans HKA.out)
            go_upto_region 9 with (fail)
            clear c0 c1 c2
            generalize wr.alloc (.cells #[.string xk, .int .i64 xn, .int .i64 xe] 124) = W3 at *
            generalize wr.heap.size = zc at *
            obtain ⟨b0, b1, b2, -⟩ := HT3.out
            by_cases hge : lst ≤ xn - xe
            · have HS1 : Hid (hotK tp lst (k + 1) = hotK tp lst k ++ [xk]) := Lib.hid (by rw [HSU.out]; simp only []; rw [if_pos hge])
              obtain ⟨v', W4, hr, how4, hk4, hob4⟩ := HOW2.out.snoc xk (by have := hotK_len tp lst k; have := HTL.out; omega)
              rw [← HS1.out] at how4
              have HOW4 := Lib.hid how4
              have HK4 : Hid (Keep (fun _ => False) W1 W4) := Lib.hid (HKE2.out.trans' hk4 (fun j e => .inr (HOV.out j e)))
              have HOV4 : Hid (∀ j, v'.ownBlock = some j → W1.heap.size ≤ j) := Lib.hid (fun j e => by
                rcases hob4 with h | h
                · exact HOV.out j (h.symm.trans e)
                · rw [h] at e
                  cases e
                  have := HKE2.out.size
                  omega)
              have HR := Lib.hid hr
              clear hr how4 hk4 hob4
              go_wp2_with (at_builtin; refine wpList_app rfl (.tmp 47) (.tmp 50) 67 rfl rfl rfl HR.out ?_)
              clear b0 b1 b2
              go_roundg (gk - 1)
              case rel => exact ⟨k + 1, by omega, by go_num, HOW4.out, HK4.out, HOV4.out⟩
              case measure => omega
            · have HS1 : Hid (hotK tp lst (k + 1) = hotK tp lst k) := Lib.hid (by rw [HSU.out]; simp only []; rw [if_neg hge, List.append_nil])
              have HOW4 : Hid (OwnT w (hotK tp lst (k + 1)) u7 W3) := Lib.hid (by rw [HS1.out]; exact HOW2.out)
              go_wp2_with fail
              clear b0 b1 b2
              go_roundg (gk - 1)
              case rel => exact ⟨k + 1, by omega, by go_num, HOW4.out, HKE2.out, HOV.out⟩
              case measure => omega
          · obtain rfl : k = tn := by omega
            have hkz : ¬ (k : Int) < (k : Int) := by omega
            have HF : Hid (Strs wr u7 xs) := Lib.hid (by
              rw [HXK.out]
              exact strs_owns HOW.out.2 (by have := hotK_len tp lst k; have := HTL.out; omega))
            have HKF := Lib.hid HOW.out.1
            go_wp2_with fail
            go_ret
            exact ⟨_, rfl, HF.out, HKF.out⟩
end Go.Proofs.YtplkmbfeeegaiaaGreatDoor

/-
  sane of the laws of package replicate.
-/
namespace Go.Proofs.YtplkmbfeeegaiaaGreatDoor
open Go.RowKit Go.Shelf

def rl1 : List Mb := [⟨0, 0, 16⟩, ⟨1, 0, 1⟩, ⟨2, 1, 1⟩]
def rw1 : List Int := List.replicate 64 0
def rl2 : List Mb := [⟨4, 0, 1⟩]
def rw2 : List Int := ownersL PN QS rl2
abbrev kx : ByteArray := ⟨#[120]⟩
theorem rl1_vl : VL rl1 := (validL_iff _).1 (by decide)
theorem rl2_vl : VL rl2 := (validL_iff _).1 (by decide)
theorem rv1 : validRB 1 rl1 rw1 = true := by decide
theorem rv2 : okRing 1 rl2 rw2 := ok_new PN QS rl2_vl (by decide)
theorem rb1 : ownerOf rw1 kx = 0 := by
  unfold ownerOf
  rw [if_pos (by decide), List.getD_eq_getElem?_getD]
  have h := slotOf_lt kx
  unfold rw1
  rw [List.getElem?_replicate, if_pos h]; rfl
theorem hold1 (rk : Int → Int) : holdC rk rl1 0 1 = [0, 2] := by
  simp [holdC, stepC, nextC, selC, freeC, awayC, usedC, rl1]
theorem hold2 (rk : Int → Int) : holdC rk rl1 0 2 = [0, 2, 1] := by
  show stepC rk rl1 (holdC rk rl1 0 1) = _
  rw [hold1]
  simp [stepC, nextC, selC, freeC, awayC, usedC, rl1]
theorem hv1 : holdV 1 rl1 rw1 kx 1 = [0, 2] := by unfold holdV; rw [if_pos rv1, if_neg (by decide), rb1]; exact hold1 _
theorem hv2 : holdV 1 rl1 rw1 kx 2 = [0, 2, 1] := by unfold holdV; rw [if_pos rv1, if_neg (by decide), rb1]; exact hold2 _
theorem hv3 : holdV 1 rl2 rw2 kx 2 = [4] := by
  unfold holdV
  rw [if_pos ((validRB_iff _ _ _).2 rv2), if_neg (by decide)]
  have h := holdC_ok (rk := rkOf kx) rl2_vl.asc (owner_mem rv2 kx) 2
  have ho : ownerOf rw2 kx = 4 := by have := owner_mem rv2 kx; simpa [rl2] using this
  obtain ⟨t, ht⟩ := h.hd
  have hl := h.len
  rw [ht] at hl
  have : t = [] := List.eq_nil_of_length_eq_zero (by have h1 : rl2.length = 1 := rfl; rw [List.length_cons] at hl; omega)
  show holdC _ _ _ 2 = _
  rw [ht, this, ho]
theorem hv4 (key : ByteArray) (n : Int) : holdV 0 [] [] key n = [] := by unfold holdV; rw [if_neg (by decide)]
theorem choose4 (key : ByteArray) (c : Int) : chooseV [4] key c = 4 := by
  unfold chooseV
  rw [if_neg (by simp)]
  simp [Nat.mod_one]
theorem choose0 (key : ByteArray) (c : Int) : chooseV [] key c = -1 := by unfold chooseV; rw [if_pos rfl]
abbrev ka : ByteArray := ⟨#[97]⟩
abbrev kb : ByteArray := ⟨#[98]⟩
def sL1 : List Sk.C := Sk.addC 4 [] kb 40
def sL2 : List Sk.C := Sk.addC 4 sL1 ka 60
theorem sL1_eq : sL1 = [⟨kb, 40, 40⟩] := rfl
theorem sL2_eq : sL2 = [⟨ka, 60, 60⟩, ⟨kb, 40, 40⟩] := by
  unfold sL2
  rw [sL1_eq]
  simp [Sk.addC, Sk.atC, Sk.insC, Sk.BefC, ka, kb]
theorem sL2_sum : Sk.sumH sL2 = 100 := by rw [sL2_eq]; rfl
theorem hot50 : hotL sL2 50 = [ka] := by
  unfold hotL
  rw [sL2_sum, if_neg (by decide), sL2_eq]
  simp [Sk.topC, Sk.ctrOf, leastH]
theorem hot40 : hotL sL2 40 = [ka, kb] := by
  unfold hotL
  rw [sL2_sum, if_neg (by decide), sL2_eq]
  simp [Sk.topC, Sk.ctrOf, leastH]
theorem hot0 : hotL sL2 0 = [] := by
  unfold hotL
  rw [if_pos (by decide)]
theorem lit_strs (W : World) (xs : List ByteArray) (hn : xs.length ≤ 1000) : Strs (W.alloc (.cells (xs.map Value.string).toArray 9)) (.slice (some ⟨W.heap.size, 0, none⟩) xs.length xs.length) xs :=
  ⟨by omega, some ⟨W.heap.size, 0, none⟩, xs.length, W.heap.size, 0, rfl, Nat.le_refl _, fun _ => rfl, fun j x hj => by
    have hh : (W.alloc (.cells (xs.map Value.string).toArray 9)).heap[W.heap.size]? = some (.cells (xs.map Value.string).toArray 9) := World.alloc_heap_new _ _
    unfold World.cell?
    simp only [hh]
    simp [hj]⟩

set_option maxRecDepth 100000 in
set_option maxHeartbeats 8000000 in
theorem sane15_any (w : World) (hT : Tab w) : Calls Tryz.prog 32 #[] w fun e w' => e = .returned (.bool true) ∧ Keep (fun _ => False) w w' := by
  have HT := Lib.hid hT
  clear hT
  obtain ⟨lv, hlv⟩ : ∃ v : Array Value, (#[.int .i64 0, .int .i64 0, .int .i64 16, .int .i64 1, .int .i64 0, .int .i64 1, .int .i64 2, .int .i64 1, .int .i64 1] : Array Value) = v := ⟨_, rfl⟩
  have HM1 : Hid (Mbs (w.alloc (.cells lv 35)) (.slice (some ⟨w.heap.size, 0, none⟩) 3 3) rl1) := Lib.hid (by
    rw [← hlv]
    exact mbs_owns (lo := w.heap.size) (World.ownsRow_lit w _ 3 (Nat.le_refl _) (by decide) rfl) (by decide) rl1_vl.bd)
  have HK1 : Hid (Keep (fun _ => False) w (w.alloc (.cells lv 35))) := Lib.hid ((Keep.refl _ w).alloc _)
  obtain ⟨i0, hi, hz0, hz1, hz2⟩ := info_parts infoInt
  obtain ⟨W2, hmk, hown2, hgr2⟩ := run_makeSlice_full (P := Tryz.prog) (w.alloc (.cells lv 35)) (w.alloc (.cells lv 35)).heap.size 22 3 i0 _ 1 Tryz.underlying22 hi hz0 hz1 .i64 .i64 64 (by decide) (by rw [hz2]; decide) (by decide) (Nat.le_refl _)
  have hmk1 : (Instr.makeSlice 22 (.int .i64 64) (.int .i64 64)).run Tryz.prog (w.alloc (.cells lv 35)) = .ok (.slice (some ⟨(w.alloc (.cells lv 35)).heap.size, 0, none⟩) 64 64) W2 := hmk
  have HK2 : Hid (Keep (fun _ => False) (w.alloc (.cells lv 35)) W2) := Lib.hid ((Keep.of_grown hgr2).mono (fun j e => by cases e))
  have HI2 : Hid (Its W2 (.slice (some ⟨(w.alloc (.cells lv 35)).heap.size, 0, none⟩) 64 64) rw1) := Lib.hid (by
    have h := hown2
    rw [show (madeCells (Value.int .i64 0).cells (64 * 1)).toList = rw1.map (fun x => Value.int .i64 x) by
      unfold rw1
      rw [List.map_replicate]
      exact toList_madeCells_one _ _] at h
    exact its_owns h (by decide) (by intro x hx; unfold rw1 at hx; rw [List.mem_replicate] at hx; rw [hx.2]; unfold I64; decide))
  have HR2 : Hid (Rng W2 (.agg #[.int .i64 1, .slice (some ⟨w.heap.size, 0, none⟩) 3 3, .slice (some ⟨(w.alloc (.cells lv 35)).heap.size, 0, none⟩) 64 64]) 1 rl1 rw1) := Lib.hid ⟨by unfold I64; decide, _, _, rfl, HM1.out.kept HK2.out, HI2.out⟩
  have HKW2 := Lib.hid (HK1.out.trans HK2.out)
  clear hmk hown2 hgr2 hi hz0 hz1 hz2 HM1 HI2 HK2 HK1
  go_enter Tryz.func32, Tryz.ntmps32
  go_wp2_with fail
  rw [World.size_alloc] at HR2
  generalize w.heap.size = zw at HR2 ⊢
  have HB1 := Lib.hid (Box3.new W2 (.int .i64 1) (.slice (some ⟨zw, 0, none⟩) 3 3) (.slice (some ⟨zw + 1, 0, none⟩) 64 64) 27)
  have KA1 : Keep (fun _ => False) W2 (W2.alloc (.cells #[.int .i64 1, .slice (some ⟨zw, 0, none⟩) 3 3, .slice (some ⟨zw + 1, 0, none⟩) 64 64] 27)) := (Keep.refl _ W2).alloc _
  have KA2 : Keep (fun _ => False) (W2.alloc (.cells #[.int .i64 1, .slice (some ⟨zw, 0, none⟩) 3 3, .slice (some ⟨zw + 1, 0, none⟩) 64 64] 27)) ((W2.alloc (.cells #[.int .i64 1, .slice (some ⟨zw, 0, none⟩) 3 3, .slice (some ⟨zw + 1, 0, none⟩) 64 64] 27)).alloc (.cells #[.int .i64 4, .int .i64 0, .int .i64 1] 35)) := (Keep.refl _ _).alloc _
  have HM2 : Hid (Mbs ((W2.alloc (.cells #[.int .i64 1, .slice (some ⟨zw, 0, none⟩) 3 3, .slice (some ⟨zw + 1, 0, none⟩) 64 64] 27)).alloc (.cells #[.int .i64 4, .int .i64 0, .int .i64 1] 35)) (.slice (some ⟨W2.heap.size + 1, 0, none⟩) 1 1) rl2) := Lib.hid (by
    have h := World.ownsRow_lit (base := 0) (e := 35) (size := 3) (W2.alloc (.cells #[.int .i64 1, .slice (some ⟨zw, 0, none⟩) 3 3, .slice (some ⟨zw + 1, 0, none⟩) 64 64] 27)) #[.int .i64 4, .int .i64 0, .int .i64 1] 1 (Nat.zero_le _) (by decide) rfl
    rw [World.size_alloc] at h
    exact mbs_owns h (by decide) rl2_vl.bd)
  have HK3 := Lib.hid (HKW2.out.trans (KA1.trans KA2))
  have HR3 := Lib.hid (HR2.out.kept (KA1.trans KA2))
  have HB3 := Lib.hid (HB1.out.kept KA2)
  clear KA1 KA2 HB1 HR2 HKW2
  generalize (W2.alloc (.cells #[.int .i64 1, .slice (some ⟨zw, 0, none⟩) 3 3, .slice (some ⟨zw + 1, 0, none⟩) 64 64] 27)).alloc (.cells #[.int .i64 4, .int .i64 0, .int .i64 1] 35) = W3 at *
  generalize W2.heap.size = z1 at *
  have hnew : Calls Tryz.prog 13 #[.int .i64 1, .slice (some ⟨z1 + 1, 0, none⟩) 1 1] W3 (GoodN 1 rl2 (ownersL PN QS rl2) W3) := (new_ok 1 _ rl2 W3 HM2.out rl2_vl (HT.out.kept HK3.out) (by decide)).mono (fun _ _ h => h.good rl2_vl (by unfold I64; decide))
  with_reducible refine hnew.mono ?_
  rintro e W4 ⟨am, cm, ao, co, rfl, hr4, k4⟩
  clear hnew
  have hr4 : Rng W4 (.agg #[.int .i64 1, .slice am 1 cm, .slice ao 64 co]) 1 rl2 rw2 := hr4
  have HR4 := Lib.hid hr4
  have HK4 := Lib.hid (HK3.out.trans k4)
  have HR14 := Lib.hid (HR3.out.kept k4)
  have HB14 := Lib.hid (HB3.out.kept k4)
  clear hr4 k4 HM2 HK3 HR3 HB3
  have hl2 : rl2.length = 1 := rfl
  rw [hl2]
  have HB2 := Lib.hid (Box3.new W4 (.int .i64 1) (.slice am 1 cm) (.slice ao 64 co) 27)
  have KA3 : Keep (fun _ => False) W4 (W4.alloc (.cells #[.int .i64 1, .slice am 1 cm, .slice ao 64 co] 27)) := (Keep.refl _ W4).alloc _
  have HK5 := Lib.hid (HK4.out.trans KA3)
  have HR15 := Lib.hid (HR14.out.kept KA3)
  have HB15 := Lib.hid (HB14.out.kept KA3)
  have HR25 := Lib.hid (HR4.out.kept KA3)
  clear KA3 HK4 HR14 HB14 HR4 hl2
  go_upto_region 3 with (fail)
  generalize W4.alloc (.cells #[.int .i64 1, .slice am 1 cm, .slice ao 64 co] 27) = W5 at *
  generalize W4.heap.size = z2 at *
  go_wp2_with fail
  have hnew : Calls Tryz.prog 41 #[.int .i64 4] W5 (Sk.NewPost 4 W5) := Sk.new_ok 4 (by decide) (by decide) W5
  with_reducible refine hnew.mono ?_
  clear hnew
  rintro e W6 ⟨s, bm, rfl, hsk, k6, hs, hbm⟩
  have HS6 := Lib.hid hsk
  have HK6 := Lib.hid (HK5.out.trans k6)
  have HR16 := Lib.hid (HR15.out.kept k6)
  have HB16 := Lib.hid (HB15.out.kept k6)
  have HR26 := Lib.hid (HR25.out.kept k6)
  have HB26 := Lib.hid (HB2.out.kept k6)
  have HZS : Hid (W5.heap.size ≤ s ∧ W5.heap.size ≤ bm) := Lib.hid ⟨hs, hbm⟩
  have HK56 := Lib.hid k6
  clear hsk k6 hs hbm
  go_upto_region 6 with (fail)
  go_wp2_with fail
  with_reducible refine (Sk.add_ok HS6.out kb (by decide) 40 (by decide) (by decide) (by decide)).mono ?_
  rintro e W7 ⟨rfl, hsk, k7⟩
  have HS7 : Hid (Sk.Sk W7 s bm 4 sL1) := Lib.hid hsk
  have HK57 : Hid (Keep (fun _ => False) W5 W7) := Lib.hid (HK56.out.trans' k7 (fun j e => .inr (by have := HZS.out; rcases e with e | e <;> omega)))
  clear hsk k7
  go_wp2_with fail
  with_reducible refine (Sk.add_ok HS7.out ka (by decide) 60 (by decide) (by decide) (by decide)).mono ?_
  rintro e W8 ⟨rfl, hsk, k8⟩
  have HS8 : Hid (Sk.Sk W8 s bm 4 sL2) := Lib.hid hsk
  have HK58 : Hid (Keep (fun _ => False) W5 W8) := Lib.hid (HK57.out.trans' k8 (fun j e => .inr (by have := HZS.out; rcases e with e | e <;> omega)))
  have HR18 := Lib.hid (HR15.out.kept HK58.out)
  have HB18 := Lib.hid (HB15.out.kept HK58.out)
  have HR28 := Lib.hid (HR25.out.kept HK58.out)
  have HB28 := Lib.hid (HB2.out.kept HK58.out)
  have HK8 := Lib.hid (HK5.out.trans HK58.out)
  have HL2 : Hid (sL2.length ≤ 12) := Lib.hid (by rw [sL2_eq]; decide)
  clear hsk k8 HK57 HK56 HS7 HS6 HR16 HB16 HR26 HB26 HK6 HZS HR15 HB15 HR25 HB2 HK5 HK58
  go_upto_region 8 with (fail)
  obtain ⟨x0, x1, x2, xf⟩ := HB18.out
  go_wp2_with fail
  clear x0 x1 x2 xf
  have hc := copies_any _ 1 rl1 rw1 kx 1 W8 HR18.out (by decide) (HT.out.kept HK8.out)
  rw [hv1] at hc
  with_reducible refine hc.mono ?_
  clear hc
  rintro e W9 ⟨va, rfl, hia, k9⟩
  have HIA9 := Lib.hid hia
  have HK9 := Lib.hid (HK8.out.trans k9)
  have HR19 := Lib.hid (HR18.out.kept k9)
  have HB19 := Lib.hid (HB18.out.kept k9)
  have HR29 := Lib.hid (HR28.out.kept k9)
  have HB29 := Lib.hid (HB28.out.kept k9)
  have HS9 : Hid (Sk.Sk W9 s bm 4 sL2) := Lib.hid (HS8.out.keep k9 (fun h => h) (fun h => h))
  clear hia k9 HK8 HR18 HB18 HR28 HB28 HS8
  go_upto_region 9 with (fail)
  obtain ⟨x0, x1, x2, xf⟩ := HB19.out
  go_wp2_with fail
  clear x0 x1 x2 xf
  have hc := copies_any _ 1 rl1 rw1 kx 2 W9 HR19.out (by decide) (HT.out.kept HK9.out)
  rw [hv2] at hc
  with_reducible refine hc.mono ?_
  clear hc
  rintro e WA ⟨vb, rfl, hib, kA⟩
  have HIBA := Lib.hid hib
  have HIAA := Lib.hid (HIA9.out.kept kA)
  have HKA := Lib.hid (HK9.out.trans kA)
  have HR1A := Lib.hid (HR19.out.kept kA)
  have HB1A := Lib.hid (HB19.out.kept kA)
  have HR2A := Lib.hid (HR29.out.kept kA)
  have HB2A := Lib.hid (HB29.out.kept kA)
  have HSA : Hid (Sk.Sk WA s bm 4 sL2) := Lib.hid (HS9.out.keep kA (fun h => h) (fun h => h))
  clear hib kA HK9 HR19 HB19 HR29 HB29 HS9 HIA9
  go_upto_region 10 with (fail)
  go_wp2_with fail
  have hc := hot_sk HSA.out HL2.out 50
  rw [hot50] at hc
  with_reducible refine hc.mono ?_
  clear hc
  rintro e WH1 ⟨vh1, rfl, hh, kk⟩
  have HHH1 := Lib.hid hh
  clear hh
  have HIAH1 := Lib.hid (HIAA.out.kept kk)
  have HIBH1 := Lib.hid (HIBA.out.kept kk)
  have HR1H1 := Lib.hid (HR1A.out.kept kk)
  have HB1H1 := Lib.hid (HB1A.out.kept kk)
  have HR2H1 := Lib.hid (HR2A.out.kept kk)
  have HB2H1 := Lib.hid (HB2A.out.kept kk)
  have HSH1 : Hid (Sk.Sk WH1 s bm 4 sL2) := Lib.hid (HSA.out.keep kk (fun h => h) (fun h => h))
  have HKH1 := Lib.hid (HKA.out.trans kk)
  clear HIAA HIBA HR1A HB1A HR2A HB2A HSA HKA
  clear kk
  go_wp2_with fail
  have HLT : Hid (Strs (WH1.alloc (.cells #[.string ⟨#[97]⟩] 9)) (.slice (some ⟨WH1.heap.size, 0, none⟩) 1 1) ([⟨#[97]⟩] : List ByteArray)) := Lib.hid (lit_strs WH1 [⟨#[97]⟩] (by decide))
  have HKL : Hid (Keep (fun _ => False) WH1 (WH1.alloc (.cells #[.string ⟨#[97]⟩] 9))) := Lib.hid ((Keep.refl _ WH1).alloc _)
  have hc := sameStrs_any vh1 _ ([⟨#[97]⟩] : List ByteArray) ([⟨#[97]⟩] : List ByteArray) _ (HHH1.out.kept HKL.out) HLT.out
  rw [decide_eq_true rfl] at hc
  with_reducible refine hc.mono ?_
  clear hc
  rintro e WH2 ⟨rfl, kk0⟩
  have kk := HKL.out.trans kk0
  clear kk0 HLT HKL HHH1
  have HIAH2 := Lib.hid (HIAH1.out.kept kk)
  have HIBH2 := Lib.hid (HIBH1.out.kept kk)
  have HR1H2 := Lib.hid (HR1H1.out.kept kk)
  have HB1H2 := Lib.hid (HB1H1.out.kept kk)
  have HR2H2 := Lib.hid (HR2H1.out.kept kk)
  have HB2H2 := Lib.hid (HB2H1.out.kept kk)
  have HSH2 : Hid (Sk.Sk WH2 s bm 4 sL2) := Lib.hid (HSH1.out.keep kk (fun h => h) (fun h => h))
  have HKH2 := Lib.hid (HKH1.out.trans kk)
  clear HIAH1 HIBH1 HR1H1 HB1H1 HR2H1 HB2H1 HSH1 HKH1
  clear kk
  go_wp2_with fail
  have hc := hot_sk HSH2.out HL2.out 40
  rw [hot40] at hc
  with_reducible refine hc.mono ?_
  clear hc
  rintro e WH3 ⟨vh2, rfl, hh, kk⟩
  have HHH3 := Lib.hid hh
  clear hh
  have HIAH3 := Lib.hid (HIAH2.out.kept kk)
  have HIBH3 := Lib.hid (HIBH2.out.kept kk)
  have HR1H3 := Lib.hid (HR1H2.out.kept kk)
  have HB1H3 := Lib.hid (HB1H2.out.kept kk)
  have HR2H3 := Lib.hid (HR2H2.out.kept kk)
  have HB2H3 := Lib.hid (HB2H2.out.kept kk)
  have HSH3 : Hid (Sk.Sk WH3 s bm 4 sL2) := Lib.hid (HSH2.out.keep kk (fun h => h) (fun h => h))
  have HKH3 := Lib.hid (HKH2.out.trans kk)
  clear HIAH2 HIBH2 HR1H2 HB1H2 HR2H2 HB2H2 HSH2 HKH2
  clear kk
  go_wp2_with fail
  have HLT : Hid (Strs (WH3.alloc (.cells #[.string ⟨#[97]⟩, .string ⟨#[98]⟩] 9)) (.slice (some ⟨WH3.heap.size, 0, none⟩) 2 2) ([⟨#[97]⟩, ⟨#[98]⟩] : List ByteArray)) := Lib.hid (lit_strs WH3 [⟨#[97]⟩, ⟨#[98]⟩] (by decide))
  have HKL : Hid (Keep (fun _ => False) WH3 (WH3.alloc (.cells #[.string ⟨#[97]⟩, .string ⟨#[98]⟩] 9))) := Lib.hid ((Keep.refl _ WH3).alloc _)
  have hc := sameStrs_any vh2 _ ([⟨#[97]⟩, ⟨#[98]⟩] : List ByteArray) ([⟨#[97]⟩, ⟨#[98]⟩] : List ByteArray) _ (HHH3.out.kept HKL.out) HLT.out
  rw [decide_eq_true rfl] at hc
  with_reducible refine hc.mono ?_
  clear hc
  rintro e WH4 ⟨rfl, kk0⟩
  have kk := HKL.out.trans kk0
  clear kk0 HLT HKL HHH3
  have HIAH4 := Lib.hid (HIAH3.out.kept kk)
  have HIBH4 := Lib.hid (HIBH3.out.kept kk)
  have HR1H4 := Lib.hid (HR1H3.out.kept kk)
  have HB1H4 := Lib.hid (HB1H3.out.kept kk)
  have HR2H4 := Lib.hid (HR2H3.out.kept kk)
  have HB2H4 := Lib.hid (HB2H3.out.kept kk)
  have HSH4 : Hid (Sk.Sk WH4 s bm 4 sL2) := Lib.hid (HSH3.out.keep kk (fun h => h) (fun h => h))
  have HKH4 := Lib.hid (HKH3.out.trans kk)
  clear HIAH3 HIBH3 HR1H3 HB1H3 HR2H3 HB2H3 HSH3 HKH3
  clear kk
  go_wp2_with fail
  have hc := hot_sk HSH4.out HL2.out 0
  rw [hot0] at hc
  with_reducible refine hc.mono ?_
  clear hc
  rintro e WH5 ⟨vh3, rfl, ⟨hn3, a3, c3, b3, off3, rfl, hc3, ha3, hcell3⟩, kk⟩
  clear hn3 hc3 ha3 hcell3
  have HIAH5 := Lib.hid (HIAH4.out.kept kk)
  have HIBH5 := Lib.hid (HIBH4.out.kept kk)
  have HR1H5 := Lib.hid (HR1H4.out.kept kk)
  have HB1H5 := Lib.hid (HB1H4.out.kept kk)
  have HR2H5 := Lib.hid (HR2H4.out.kept kk)
  have HB2H5 := Lib.hid (HB2H4.out.kept kk)
  have HSH5 : Hid (Sk.Sk WH5 s bm 4 sL2) := Lib.hid (HSH4.out.keep kk (fun h => h) (fun h => h))
  have HKH5 := Lib.hid (HKH4.out.trans kk)
  clear HIAH4 HIBH4 HR1H4 HB1H4 HR2H4 HB2H4 HSH4 HKH4
  clear kk
  go_upto_region 11 with (fail)
  go_wp2_with fail
  have HLT : Hid (Its (WH5.alloc (.cells #[.int .i64 2] 3)) (.slice (some ⟨WH5.heap.size, 0, none⟩) 1 1) ([2] : List Int)) := Lib.hid (its_new WH5 [2] (by decide) (by unfold I64; decide))
  have HKL : Hid (Keep (fun _ => False) WH5 (WH5.alloc (.cells #[.int .i64 2] 3))) := Lib.hid ((Keep.refl _ WH5).alloc _)
  have hc := sameInts_any va _ ([0, 2].drop 1 : List Int) ([2] : List Int) _ (HIAH5.out.kept HKL.out) HLT.out
  rw [show decide (([0, 2].drop 1 : List Int) = ([2] : List Int)) = true from rfl] at hc
  with_reducible refine hc.mono ?_
  clear hc
  rintro e WI1 ⟨rfl, kk0⟩
  have kk := HKL.out.trans kk0
  clear kk0 HLT HKL HIAH5
  have HIBI1 := Lib.hid (HIBH5.out.kept kk)
  have HR1I1 := Lib.hid (HR1H5.out.kept kk)
  have HB1I1 := Lib.hid (HB1H5.out.kept kk)
  have HR2I1 := Lib.hid (HR2H5.out.kept kk)
  have HB2I1 := Lib.hid (HB2H5.out.kept kk)
  have HKI1 := Lib.hid (HKH5.out.trans kk)
  clear HIBH5 HR1H5 HB1H5 HR2H5 HB2H5 HKH5
  clear kk
  go_wp2_with fail
  have HLT : Hid (Its (WI1.alloc (.cells #[.int .i64 2, .int .i64 1] 3)) (.slice (some ⟨WI1.heap.size, 0, none⟩) 2 2) ([2, 1] : List Int)) := Lib.hid (its_new WI1 [2, 1] (by decide) (by unfold I64; decide))
  have HKL : Hid (Keep (fun _ => False) WI1 (WI1.alloc (.cells #[.int .i64 2, .int .i64 1] 3))) := Lib.hid ((Keep.refl _ WI1).alloc _)
  have hc := sameInts_any vb _ ([0, 2, 1].drop 1 : List Int) ([2, 1] : List Int) _ (HIBI1.out.kept HKL.out) HLT.out
  rw [show decide (([0, 2, 1].drop 1 : List Int) = ([2, 1] : List Int)) = true from rfl] at hc
  with_reducible refine hc.mono ?_
  clear hc
  rintro e WI2 ⟨rfl, kk0⟩
  have kk := HKL.out.trans kk0
  clear kk0 HLT HKL HIBI1
  have HR1I2 := Lib.hid (HR1I1.out.kept kk)
  have HB1I2 := Lib.hid (HB1I1.out.kept kk)
  have HR2I2 := Lib.hid (HR2I1.out.kept kk)
  have HB2I2 := Lib.hid (HB2I1.out.kept kk)
  have HKI2 := Lib.hid (HKI1.out.trans kk)
  clear HR1I1 HB1I1 HR2I1 HB2I1 HKI1
  clear kk
  obtain ⟨x0, x1, x2, xf⟩ := HB2I2.out
  go_wp2_with fail
  clear x0 x1 x2 xf
  have hc := copies_any _ 1 rl2 rw2 kx 2 WI2 HR2I2.out (by decide) (HT.out.kept HKI2.out)
  rw [hv3] at hc
  with_reducible refine hc.mono ?_
  clear hc
  rintro e WJ1 ⟨vc, rfl, ⟨hnc, -, ac, cc, bc, offc, rfl, hcc, hac, hcellc⟩, kk⟩
  clear hnc hcc hac hcellc
  have HR1J1 := Lib.hid (HR1I2.out.kept kk)
  have HB1J1 := Lib.hid (HB1I2.out.kept kk)
  have HR2J1 := Lib.hid (HR2I2.out.kept kk)
  have HB2J1 := Lib.hid (HB2I2.out.kept kk)
  have HKJ1 := Lib.hid (HKI2.out.trans kk)
  clear HR1I2 HB1I2 HR2I2 HB2I2 HKI2
  clear kk
  obtain ⟨x0, x1, x2, xf⟩ := HB2J1.out
  go_wp2_with fail
  clear x0 x1 x2 xf
  have hc := choose_small _ 1 rl2 rw2 kx 2 7 WJ1 HR2J1.out (by decide) (by decide) (HT.out.kept HKJ1.out)
  rw [hv3, choose4, show ((7 : Nat) : Int) = 7 from rfl] at hc
  with_reducible refine hc.mono ?_
  clear hc
  rintro e WJ2 ⟨rfl, kk⟩
  have HR1J2 := Lib.hid (HR1J1.out.kept kk)
  have HB1J2 := Lib.hid (HB1J1.out.kept kk)
  have HR2J2 := Lib.hid (HR2J1.out.kept kk)
  have HB2J2 := Lib.hid (HB2J1.out.kept kk)
  have HKJ2 := Lib.hid (HKJ1.out.trans kk)
  clear HR1J1 HB1J1 HR2J1 HB2J1 HKJ1
  clear kk
  obtain ⟨x0, x1, x2, xf⟩ := HB1J2.out
  go_wp2_with fail
  clear x0 x1 x2 xf
  have hc := holds_any _ 1 rl1 rw1 kx 1 2 WJ2 HR1J2.out (by decide) (HT.out.kept HKJ2.out)
  rw [hv1, show hasI [0, 2] 2 = true from rfl] at hc
  with_reducible refine hc.mono ?_
  clear hc
  rintro e WJ3 ⟨rfl, kk⟩
  have HR1J3 := Lib.hid (HR1J2.out.kept kk)
  have HB1J3 := Lib.hid (HB1J2.out.kept kk)
  have HR2J3 := Lib.hid (HR2J2.out.kept kk)
  have HB2J3 := Lib.hid (HB2J2.out.kept kk)
  have HKJ3 := Lib.hid (HKJ2.out.trans kk)
  clear HR1J2 HB1J2 HR2J2 HB2J2 HKJ2
  clear kk
  obtain ⟨x0, x1, x2, xf⟩ := HB1J3.out
  go_wp2_with fail
  clear x0 x1 x2 xf
  have hc := holds_any _ 1 rl1 rw1 kx 1 1 WJ3 HR1J3.out (by decide) (HT.out.kept HKJ3.out)
  rw [hv1, show hasI [0, 2] 1 = false from rfl] at hc
  with_reducible refine hc.mono ?_
  clear hc
  rintro e WJ4 ⟨rfl, kk⟩
  have HR1J4 := Lib.hid (HR1J3.out.kept kk)
  have HB1J4 := Lib.hid (HB1J3.out.kept kk)
  have HR2J4 := Lib.hid (HR2J3.out.kept kk)
  have HB2J4 := Lib.hid (HB2J3.out.kept kk)
  have HKJ4 := Lib.hid (HKJ3.out.trans kk)
  clear HR1J3 HB1J3 HR2J3 HB2J3 HKJ3
  clear kk
  go_wp2_with fail
  have hc := choose_small (.agg #[.int .i64 0, .slice none 0 0, .slice none 0 0]) 0 [] [] kx 1 1 WJ4 (nil_rng _) (by decide) (by decide) (HT.out.kept HKJ4.out)
  rw [hv4, choose0, show ((1 : Nat) : Int) = 1 from rfl] at hc
  with_reducible refine hc.mono ?_
  clear hc
  rintro e WZ ⟨rfl, kk⟩
  have HKZ := Lib.hid (HKJ4.out.trans kk)
  clear kk
  go_wp2_with fail
  go_ret
  exact ⟨rfl, HKZ.out⟩
end Go.Proofs.YtplkmbfeeegaiaaGreatDoor

/-
  What the laws of package replicate share: a ring in a box, the calls about it.
-/
namespace Go.Proofs.YtplkmbfeeegaiaaGreatDoor
open Go.RowKit Go.Shelf

abbrev ringA (am : Option Addr) (ln cm : Nat) (ao : Option Addr) (co : Nat) : Value := .agg #[.int .i64 1, .slice am ln cm, .slice ao 64 co]
/-- The law's world: the ring in its box, the tables. -/
structure RepSt (w : World) (zb : Nat) (mb mo ln cm : Nat) (ao : Option Addr) (co : Nat) (l : List Mb) (ow : List Int) (W : World) : Prop where
  k : Keep (fun _ => False) w W
  r : Rng W (ringA (some ⟨mb, mo, none⟩) ln cm ao co) 1 l ow
  t : Tab W
  p : Pow W
  b : Box3 W zb (.int .i64 1) (.slice (some ⟨mb, mo, none⟩) ln cm) (.slice ao 64 co)
theorem RepSt.kept {w W W' : World} {zb mb mo ln cm co : Nat} {ao : Option Addr} {l : List Mb} {ow : List Int} (h : RepSt w zb mb mo ln cm ao co l ow W) (k : Keep (fun _ => False) W W') : RepSt w zb mb mo ln cm ao co l ow W' :=
  ⟨h.k.trans k, h.r.kept k, h.t.kept k, h.p.kept k, h.b.kept k⟩
theorem RepSt.mem {w W : World} {zb mb mo ln cm co : Nat} {ao : Option Addr} {l : List Mb} {ow : List Int} (h : RepSt w zb mb mo ln cm ao co l ow W) {j : Nat} {m : Mb} (hj : l[j]? = some m) :
    W.cell? ⟨mb, mo + j * 3, none⟩ = some (.int .i64 m.node) ∧ W.cell? ⟨mb, mo + j * 3 + 1, none⟩ = some (.int .i64 m.region) ∧ W.cell? ⟨mb, mo + j * 3 + 2, none⟩ = some (.int .i64 m.weight) := by
  obtain ⟨-, vm, vo, e, hm, -⟩ := h.r
  cases e
  obtain ⟨-, -, a, c, b, off, e2, -, ha, hcell⟩ := hm
  injection e2 with e3 _ _
  have hpos : 0 < l.length := by have := (List.getElem?_eq_some_iff.1 hj).1; omega
  have e4 := ha hpos
  rw [← e3] at e4
  cases e4
  exact hcell j m hj
theorem RepSt.len {w W : World} {zb mb mo ln cm co : Nat} {ao : Option Addr} {l : List Mb} {ow : List Int} (h : RepSt w zb mb mo ln cm ao co l ow W) : l.length = ln ∧ ln ≤ cm := by
  obtain ⟨-, vm, vo, e, hm, -⟩ := h.r
  cases e
  obtain ⟨-, -, a, c, b, off, e2, hc, -, -⟩ := hm
  injection e2 with _ e3 e4
  exact ⟨e3.symm, by omega⟩

/-- The state behind the call of some. -/
theorem RingBack.st {w : World} {l : List Mb} {ow : List Int} {e : Ending} {W W' : World} (h : RingBack 1 l ow W e W') (hk : Keep (fun _ => False) w W) (hv : VL l) (hT : Tab W) (hP : Pow W) :
    ∃ mb mo cm ao co, e = .returned (ringA (some ⟨mb, mo, none⟩) l.length cm ao co) ∧ RepSt w W'.heap.size mb mo l.length cm ao co l ow (W'.alloc (.cells #[.int .i64 1, .slice (some ⟨mb, mo, none⟩) l.length cm, .slice ao 64 co] 27)) := by
  obtain ⟨am, cm, ao, co, rfl, hr, k⟩ := h
  have hr' := hr
  obtain ⟨-, vm, vo, e, hm, -⟩ := hr
  cases e
  obtain ⟨-, -, a, c, b, off, e2, hc, ha, -⟩ := hm
  injection e2 with e3 _ _
  have e4 := ha (List.length_pos_iff.2 hv.ne)
  rw [← e3] at e4
  subst e4
  have ka : Keep (fun _ => False) W' (W'.alloc (.cells #[.int .i64 1, .slice (some ⟨b, off, none⟩) l.length cm, .slice ao 64 co] 27)) := (Keep.refl _ W').alloc _
  exact ⟨b, off, cm, ao, co, rfl, hk.trans (k.trans ka), hr'.kept ka, hT.kept (k.trans ka), hP.kept (k.trans ka), Box3.new W' _ _ _ _⟩

/-- The holders of a valid ring: what the calls answer. -/
structure HoldAt (l : List Mb) (ow : List Int) (key : ByteArray) (o : Int) (m : Nat) (H : List Int) : Prop where
  own : ownerOf ow key = o
  eq : holdC (rkOf key) l o m = H
  at_ : HoldC l o m H
  m1 : 1 ≤ m ∧ m ≤ 3
  ring : okRing 1 l ow
theorem HoldAt.holdV {l : List Mb} {ow : List Int} {key : ByteArray} {o : Int} {m : Nat} {H : List Int} (h : HoldAt l ow key o m H) : holdV 1 l ow key m = H := by
  unfold Go.Proofs.YtplkmbfeeegaiaaGreatDoor.holdV
  have h1 := h.m1
  rw [if_pos ((validRB_iff 1 l ow).2 h.ring), if_neg (by omega), h.own, Int.toNat_natCast, h.eq]
theorem HoldAt.holdV0 {l : List Mb} {ow : List Int} {key : ByteArray} {o : Int} {m : Nat} {H : List Int} (h : HoldAt l ow key o m H) : Go.Proofs.YtplkmbfeeegaiaaGreatDoor.holdV 1 l ow key 0 = [o] := by
  unfold Go.Proofs.YtplkmbfeeegaiaaGreatDoor.holdV
  rw [if_pos ((validRB_iff 1 l ow).2 h.ring), if_pos (by omega), h.own]
theorem hold_at (l : List Mb) (ow : List Int) (key : ByteArray) (m : Nat) (hm : 1 ≤ m ∧ m ≤ 3) (hr : okRing 1 l ow) : HoldAt l ow key (ownerOf ow key) m (holdC (rkOf key) l (ownerOf ow key) m) :=
  ⟨rfl, rfl, holdC_ok hr.2.2.1.asc (owner_mem hr key) m, hm, hr⟩
theorem choose_mem {xs : List Int} {key : ByteArray} {c : Int} (h : xs ≠ []) : chooseV xs key c ∈ xs := by
  unfold chooseV
  rw [if_neg h]
  have hp : 0 < xs.length := List.length_pos_iff.2 h
  have hlt := Nat.mod_lt (pt (cliT key c)) hp
  rw [List.getD_eq_getElem?_getD, List.getElem?_eq_getElem hlt, Option.getD_some]
  exact List.getElem_mem _
theorem choose_one (o : Int) (key : ByteArray) (c : Int) : chooseV [o] key c = o := by
  have := choose_mem (xs := [o]) (key := key) (c := c) (by simp)
  simpa using this
theorem hasI_true {xs : List Int} {n : Int} (h : n ∈ xs) : hasI xs n = true := by unfold hasI; rw [List.contains_iff_mem]; exact h
theorem hasI_false {xs : List Int} {n : Int} (h : n ∉ xs) : hasI xs n = false := by unfold hasI; rw [← Bool.not_eq_true, List.contains_iff_mem]; exact h
/-- How many of the first k members are holders. -/
def cntK (l : List Mb) (H : List Int) (k : Nat) : Nat := ((l.take k).filter (fun m => hasI H m.node)).length
theorem cntK_succ {l : List Mb} (H : List Int) {k : Nat} {m : Mb} (h : l[k]? = some m) : cntK l H (k + 1) = cntK l H k + (if hasI H m.node then 1 else 0) := by
  unfold cntK
  rw [List.take_add_one, h, Option.toList_some, List.filter_append, List.length_append]
  congr 1
  cases e : hasI H m.node <;> simp [e]
theorem cntK_le (l : List Mb) (H : List Int) (k : Nat) : cntK l H k ≤ k := by
  unfold cntK
  exact Nat.le_trans (List.length_filter_le _ _) (by rw [List.length_take]; omega)
theorem cntK_all {l : List Mb} {H : List Int} {k : Nat} (h : l.length ≤ k) : cntK l H k = (l.filter (fun m => H.contains m.node)).length := by
  unfold cntK hasI
  rw [List.take_of_length_le h]
/-- Is x a node of the first k members? -/
def memK (l : List Mb) (x : Int) (k : Nat) : Bool := (l.take k).any (fun m => m.node == x)
theorem memK_succ {l : List Mb} (x : Int) {k : Nat} {m : Mb} (h : l[k]? = some m) : memK l x (k + 1) = (memK l x k || (m.node == x)) := by
  unfold memK
  rw [List.take_add_one, h, Option.toList_some, List.any_append]
  simp
theorem memK_all {l : List Mb} {x : Int} {k : Nat} (h : l.length ≤ k) (hx : x ∈ l.map Mb.node) : memK l x k = true := by
  unfold memK
  rw [List.take_of_length_le h, List.any_eq_true]
  obtain ⟨m, hm, e⟩ := List.mem_map.1 hx
  exact ⟨m, hm, by simpa using e⟩
theorem node_nn {l : List Mb} (hv : VL l) {x : Int} (h : x ∈ l.map Mb.node) : 0 ≤ x ∧ x ≤ 23 := by
  obtain ⟨m, hm, rfl⟩ := List.mem_map.1 h
  have := hv.ok m hm
  unfold okMb at this
  omega
end Go.Proofs.YtplkmbfeeegaiaaGreatDoor
