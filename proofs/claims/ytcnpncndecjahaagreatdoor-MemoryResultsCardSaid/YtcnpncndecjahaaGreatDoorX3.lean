/-
  Several texts in one, each under its own heading below (merged by a program of ours): the contracts of the functions that the law reaches, part 3 of 5.
-/
import Derived.Test.YtcnpncndecjahaaGreatDoorX1
import Derived.Test.YtcnpncndecjahaaGreatDoorX2
import Derived.Test.YtcnpncndecjahaaGreatDoorProg
import Derived.WalkKit
import Derived.WalkSpells
import Derived.WalkLawsBesides
import Derived.RegionTactic
import Derived.ChangeAlike
import Derived.BigRegion
import Derived.Deep.Draws
import Derived.Lib.Hide
import Derived.IntWalk
import Derived.RangeFuncNested
import Derived.RangeFuncBound
import Derived.RangeFuncCalls
import Derived.RangeFuncLeaves
import Derived.Shelf.Abstract
import Derived.Shelf.RegionOpen
import Derived.OwnWalkIn
import Derived.TacticsInMore
import Derived.LoopNIn
import Derived.LoopIn
import Derived.Sort.LoopGhostIn
import Derived.Deep.QuietTactic
import Derived.BigQuiet
import Derived.Laws.EntriesVeiled
import Derived.Maps.AppendAt
import Derived.RegionIn
import Derived.Sort.QuietIn
import Derived.RangeFuncBox
import Derived.Deep.LoopGhost
import Derived.WalkMore
import Derived.Deep.RegionLaw

/-
  Query of the reference's package query: five integers determine a valid query.
-/
namespace Go.Proofs.YtcnpncndecjahaaGreatDoor
open Go.RowKit Go.Shelf

def pk (c n : Int) : Int := (if c < 0 then -(c + 1) else c) % n
theorem pk_bd (c n : Int) (hn : 1 ≤ n) : 0 ≤ pk c n ∧ pk c n < n := by
  unfold pk
  exact ⟨Int.emod_nonneg _ (by omega), Int.emod_lt_of_pos _ (by omega)⟩
theorem wrapK (x : Int) : I64 (IntKind.i64.wrap x) := by
  rw [IntKind.wrap_i64]
  unfold I64
  omega
set_option maxHeartbeats 400000 in
theorem pick5_any (c n : Int) (w : World) (h : I64 c) (hn : 1 ≤ n ∧ n ≤ 9223372036854775807) :
    Calls Tryz.prog 29 #[.int .i64 c, .int .i64 n] w fun e w' => e = .returned (.int .i64 (pk c n)) ∧ w' = w := by
  obtain ⟨h1, h2⟩ := h
  obtain ⟨hn1, hn2⟩ := hn
  by_cases hc : c < 0
  · go_enter Tryz.func29, Tryz.ntmps29
    go_wp2
    go_ret
    refine ⟨?_, rfl⟩
    show Ending.returned (.int .i64 (-(c + 1).tmod n)) = _
    rw [pk, if_pos hc, ← Int.neg_tmod, Int.tmod_eq_emod_of_nonneg (by omega)]
  · have hc' : 0 ≤ c := by omega
    go_enter Tryz.func29, Tryz.ntmps29
    go_wp2
    go_ret
    exact ⟨by rw [pk, if_neg (by omega)]; rfl, rfl⟩
theorem QBox.put {W : World} {z2 : Nat} {qa : Qy} (h : QBox W z2 qa) (x0 x1 x2 x3 x4 x5 x6 : Int) : QBox (((((((W.setCell ⟨z2, 0, none⟩ (.int .i64 x0)).setCell ⟨z2, 1, none⟩ (.int .i64 x1)).setCell ⟨z2, 2, none⟩ (.int .i64 x2)).setCell ⟨z2, 3, none⟩ (.int .i64 x3)).setCell ⟨z2, 4, none⟩ (.int .i64 x4)).setCell ⟨z2, 5, none⟩ (.int .i64 x5)).setCell ⟨z2, 6, none⟩ (.int .i64 x6)) z2 ⟨x0, x1, x2, x3, x4, x5, x6⟩ ∧ Keep (fun j => j = z2) W (((((((W.setCell ⟨z2, 0, none⟩ (.int .i64 x0)).setCell ⟨z2, 1, none⟩ (.int .i64 x1)).setCell ⟨z2, 2, none⟩ (.int .i64 x2)).setCell ⟨z2, 3, none⟩ (.int .i64 x3)).setCell ⟨z2, 4, none⟩ (.int .i64 x4)).setCell ⟨z2, 5, none⟩ (.int .i64 x5)).setCell ⟨z2, 6, none⟩ (.int .i64 x6)) := by
  refine ⟨?_, ((((((((Keep.refl (fun j => j = z2) W).setCell (p := ⟨z2, 0, none⟩) _ (.inl rfl)).setCell (p := ⟨z2, 1, none⟩) _ (.inl rfl)).setCell (p := ⟨z2, 2, none⟩) _ (.inl rfl)).setCell (p := ⟨z2, 3, none⟩) _ (.inl rfl)).setCell (p := ⟨z2, 4, none⟩) _ (.inl rfl)).setCell (p := ⟨z2, 5, none⟩) _ (.inl rfl)).setCell (p := ⟨z2, 6, none⟩) _ (.inl rfl))⟩
  have h2 := (((((((h.set 0 (by decide) x0).set 1 (by decide) x1).set 2 (by decide) x2).set 3 (by decide) x3).set 4 (by decide) x4).set 5 (by decide) x5).set 6 (by decide) x6)
  obtain ⟨kd, tb, cl, lo, hi, bb, ot⟩ := qa
  exact h2
/-- A valid query. -/
def AskP (w : World) (e : Ending) (w' : World) : Prop := ∃ q, e = .returned (qV q) ∧ q.ok ∧ Keep (fun _ => False) w w'
theorem ask_row (t k : Int) (ht : 0 ≤ t ∧ t < 3) (hk : 0 ≤ k ∧ k < 9) : Qy.ok ⟨1, t, 0, 1 + k, 1 + k, 0, 0⟩ := by
  refine ⟨?_, .inl ?_⟩
  · unfold Qy.base
    dsimp only
    omega
  · dsimp only
    omega
theorem ask_ok {kd t c lo hi b o : Int} (hk : 2 ≤ kd ∧ kd ≤ 7) (ht : 0 ≤ t ∧ t < 3) (hc : 0 ≤ c ∧ c < 4) (hl : -1000 ≤ lo ∧ lo ≤ hi ∧ hi ≤ 1000) (hb : (4 ≤ kd → 1 ≤ b ∧ b ≤ 3) ∧ (¬ 4 ≤ kd → b = 0)) (ho : (kd = 7 → 0 ≤ o ∧ o ≤ 3) ∧ (¬ kd = 7 → o = 0)) : Qy.ok ⟨kd, t, c, lo, hi, b, o⟩ := by
  refine ⟨?_, ?_⟩
  · unfold Qy.base
    dsimp only
    omega
  · unfold Qy.form
    dsimp only
    omega
set_option maxRecDepth 100000 in
set_option maxHeartbeats 4000000 in
theorem query5_any (x0 x1 x2 x3 x4 : Int) (w : World) (h0 : I64 x0) (h1 : I64 x1) (h2 : I64 x2) (h3 : I64 x3) (h4 : I64 x4) :
    Calls Tryz.prog 8 #[.agg #[.int .i64 x0, .int .i64 x1, .int .i64 x2, .int .i64 x3, .int .i64 x4]] w (AskP w) := by
  have H0 := Lib.hid h0
  have H1 := Lib.hid h1
  have H2 := Lib.hid h2
  have H3 := Lib.hid h3
  have H4 := Lib.hid h4
  clear h0 h1 h2 h3 h4
  obtain ⟨d1, hd1⟩ : ∃ d, IntKind.i64.wrap (x0.tdiv 7) = d := ⟨_, rfl⟩
  have hb1 : I64 d1 := by rw [← hd1]; exact wrapK _
  have P0 := Lib.hid (fun w => pick5_any x0 7 w H0.out (by omega))
  have P1 := Lib.hid (fun w => pick5_any d1 3 w hb1 (by omega))
  have b0 := pk_bd x0 7 (by omega)
  have b1 := pk_bd d1 3 (by omega)
  generalize pk x0 7 = p0 at *
  generalize pk d1 3 = p1 at *
  have w1 : IntKind.i64.wrap (1 + p0) = 1 + p0 := wrapI (by unfold I64; omega)
  clear hb1
  go_enter Tryz.func8, Tryz.ntmps8
  go_upto_region 1 with (fail)
  have HBX := Lib.hid ((BoxL.new w [.int .i64 x0, .int .i64 x1, .int .i64 x2, .int .i64 x3, .int .i64 x4] 39).kept (keep_cells _ #[.int .i64 0, .int .i64 0, .int .i64 0, .int .i64 0, .int .i64 0, .int .i64 0, .int .i64 0] 37))
  have HKW := Lib.hid ((keep_cells w #[.int .i64 x0, .int .i64 x1, .int .i64 x2, .int .i64 x3, .int .i64 x4] 39).trans (keep_cells _ #[.int .i64 0, .int .i64 0, .int .i64 0, .int .i64 0, .int .i64 0, .int .i64 0, .int .i64 0] 37))
  have hr := QBox.new (w.alloc (.cells #[.int .i64 x0, .int .i64 x1, .int .i64 x2, .int .i64 x3, .int .i64 x4] 39)) ⟨0, 0, 0, 0, 0, 0, 0⟩ 37
  rw [World.size_alloc] at hr
  have HRB := Lib.hid hr
  clear hr
  generalize (w.alloc (.cells #[.int .i64 x0, .int .i64 x1, .int .i64 x2, .int .i64 x3, .int .i64 x4] 39)).alloc (.cells #[.int .i64 0, .int .i64 0, .int .i64 0, .int .i64 0, .int .i64 0, .int .i64 0, .int .i64 0] 37) = W1 at *
  obtain ⟨zx, hzx⟩ : ∃ z, w.heap.size = z := ⟨_, rfl⟩
  have HZX := Lib.hid hzx
  rw [hzx] at HBX HRB ⊢
  clear hzx
  have c0 : ∀ u : KA (fun _ => False) W1, u.val.cell? ⟨zx, 0, none⟩ = some (.int .i64 x0) := fun u => (HBX.out.kept u.k).cell 0 _ rfl
  refine wp_region_walk [(true, 0), (true, 1), (true, 2), (true, 3), (true, 4), (true, 5), (true, 6), (true, 7), (true, 8), (false, 9), (false, 10)] (inKA (fun _ => False) W1) (by decide +kernel) (by decide +kernel) ?_
  iterate 2 (refine walkW_read rfl (fun K hK => ?_); go_simp; refine hK _ ?_; clear hK K)
  refine walkW_read rfl (fun K hK => ?_)
  go_simp
  apply Exists.intro
  refine ⟨fun x => ?_, hK _ ?_⟩
  · exact P0.out _
  clear hK K
  iterate 4 (refine walkW_read rfl (fun K hK => ?_); go_simp; refine hK _ ?_; clear hK K)
  refine walkW_read rfl (fun K hK => ?_)
  go_simp
  apply Exists.intro
  refine ⟨fun x => ?_, hK _ ?_⟩
  · exact P1.out _
  clear hK K
  iterate 1 (refine walkW_read rfl (fun K hK => ?_); go_simp; refine hK _ ?_; clear hK K)
  clear c0
  refine walkW_do rfl (inKA.of (Keep.refl _ W1).drew) (fun K hK => ?_)
  go_simp
  refine hK _ _ ?_
  clear hK K
  refine walkW_do rfl (inKA.of ((Keep.refl _ W1).drew.alloc _)) (fun K hK => ?_)
  go_simp
  refine hK _ _ ?_
  clear hK K
  refine ⟨inKA.of ((Keep.refl _ W1).drew.alloc _), ?_⟩
  clear w1
  have hk1 : 1 ≤ 1 + p0 ∧ 1 + p0 ≤ 7 := by omega
  generalize 1 + p0 = kd at *
  clear P0 P1 hd1
  have HQ := Lib.hid (show QBox (W1.alloc (.cells #[.int .i64 kd, .int .i64 p1, .int .i64 0, .int .i64 0, .int .i64 0, .int .i64 0, .int .i64 0] 37)).drew W1.heap.size ⟨kd, p1, 0, 0, 0, 0, 0⟩ from (QBox.new W1 ⟨kd, p1, 0, 0, 0, 0, 0⟩ 37).kept (Keep.refl _ _).drew)
  have HK2 := Lib.hid ((keep_cells W1 #[.int .i64 kd, .int .i64 p1, .int .i64 0, .int .i64 0, .int .i64 0, .int .i64 0, .int .i64 0] 37).drew)
  have HZQ : Hid (zx + 1 < W1.heap.size) := Lib.hid HRB.out.lt
  have HZW : Hid (w.heap.size ≤ W1.heap.size) := Lib.hid HKW.out.size
  generalize (W1.alloc (.cells #[.int .i64 kd, .int .i64 p1, .int .i64 0, .int .i64 0, .int .i64 0, .int .i64 0, .int .i64 0] 37)).drew = W2 at *
  have HB2 := Lib.hid (HBX.out.kept HK2.out)
  have HR2 := Lib.hid (HRB.out.kept HK2.out)
  have HKW2 := Lib.hid (HKW.out.trans HK2.out)
  generalize W1.heap.size = zq at *
  clear HK2 HBX HRB HKW
  have HNE : Hid (¬ zx = zq ∧ ¬ zx + 1 = zq) := Lib.hid (by have := HZQ.out; omega)
  by_cases hk : kd = 1
  · subst hk
    have P_ := Lib.hid (fun w => pick5_any x1 9 w H1.out (by omega))
    have b_ := pk_bd x1 9 (by omega)
    generalize pk x1 9 = a1 at *
    have w1 : IntKind.i64.wrap (1 + a1) = 1 + a1 := wrapI (by unfold I64; omega)
    obtain ⟨c0, -, -, c3, -, -, -⟩ := HQ.out.cells
    simp only [] at c0 c3
    have fr := HQ.out.2
    have x_ := HB2.out.cell 1 _ rfl
    go_wp2_with fail
    with_reducible refine (P_.out _).mono ?_
    rintro e W_ ⟨rfl, h9⟩
    obtain rfl := h9.symm
    clear h9
    go_upto_region 4 with (fail)
    clear c0 c3 fr x_ w1
    have HQn : Hid (QBox (W2.setCell ⟨zq, 3, none⟩ (.int .i64 (1 + a1))) zq ⟨1, p1, 0, 1 + a1, 0, 0, 0⟩) := Lib.hid (HQ.out.set 3 (by decide) (1 + a1))
    have kn := (Keep.refl (fun j => j = zq) W2).setCell (p := ⟨zq, 3, none⟩) (.int .i64 (1 + a1)) (.inl rfl)
    have HBn := Lib.hid (HB2.out.keep kn HNE.out.1)
    have HRn := Lib.hid (HR2.out.keep kn HNE.out.2)
    have HKn := Lib.hid (HKW2.out.trans' kn (fun j hj => .inr (by have h1 : j = zq := hj; have := HZW.out; omega)))
    clear HQ HB2 HR2 HKW2 kn
    generalize W2.setCell ⟨zq, 3, none⟩ (.int .i64 (1 + a1)) = W3 at *
    have HQ := Lib.hid HQn.out
    have HB2 := Lib.hid HBn.out
    have HR2 := Lib.hid HRn.out
    have HKW2 := Lib.hid HKn.out
    clear HQn HBn HRn HKn
    obtain ⟨-, -, -, c3, c4, -, -⟩ := HQ.out.cells
    simp only [] at c3 c4
    have fr := HQ.out.2
    go_upto_region 5 with (fail)
    clear c3 c4 fr
    have HQn : Hid (QBox (W3.setCell ⟨zq, 4, none⟩ (.int .i64 (1 + a1))) zq ⟨1, p1, 0, 1 + a1, 1 + a1, 0, 0⟩) := Lib.hid (HQ.out.set 4 (by decide) (1 + a1))
    have kn := (Keep.refl (fun j => j = zq) W3).setCell (p := ⟨zq, 4, none⟩) (.int .i64 (1 + a1)) (.inl rfl)
    have HBn := Lib.hid (HB2.out.keep kn HNE.out.1)
    have HRn := Lib.hid (HR2.out.keep kn HNE.out.2)
    have HKn := Lib.hid (HKW2.out.trans' kn (fun j hj => .inr (by have h1 : j = zq := hj; have := HZW.out; omega)))
    clear HQ HB2 HR2 HKW2 kn
    generalize W3.setCell ⟨zq, 4, none⟩ (.int .i64 (1 + a1)) = W4 at *
    have HQ := Lib.hid HQn.out
    have HB2 := Lib.hid HBn.out
    have HR2 := Lib.hid HRn.out
    have HKW2 := Lib.hid HKn.out
    clear HQn HBn HRn HKn
    have hq7 := HQ.out.cells
    obtain ⟨c0, c1, c2, c3, c4, c5, c6⟩ := hq7
    simp only [] at c0 c1 c2 c3 c4 c5 c6
    obtain ⟨e0, e1, e2, e3, e4, e5, e6⟩ := HR2.out.cells
    simp only [] at e0 e1 e2 e3 e4 e5 e6
    have fr := HR2.out.2
    have hput := QBox.put HR2.out 1 p1 0 (1 + a1) (1 + a1) 0 0
    obtain ⟨d0, d1, d2, d3, d4, d5, d6⟩ := hput.1.cells
    simp only [] at d0 d1 d2 d3 d4 d5 d6
    have HP := Lib.hid hput.2
    clear hput
    go_wp2_with fail
    clear c0 c1 c2 c3 c4 c5 c6 e0 e1 e2 e3 e4 e5 e6 fr
    try simp only [Exit.inBlock, Exit.then]
    refine bodyPost_ret (v := qV ⟨1, p1, 0, 1 + a1, 1 + a1, 0, 0⟩) (by simp [results, Tryz.results8, go_sem, d0, d1, d2, d3, d4, d5, d6]) rfl ?_
    exact ⟨⟨1, p1, 0, 1 + a1, 1 + a1, 0, 0⟩, rfl, ask_row p1 a1 (by omega) (by omega), HKW2.out.trans' HP.out (fun j hj => .inr (by have h1 : j = zx + 1 := hj; have := HZX.out; omega))⟩
  · have hkb : (kd == 1) = false := by simpa using hk
    have hk2 : 2 ≤ kd ∧ kd ≤ 7 := by omega
    clear hk hk1
    obtain ⟨g1, h_⟩ : ∃ d, IntKind.i64.wrap (x1.tdiv 9) = d := ⟨_, rfl⟩
    have hd_ : I64 g1 := by rw [← h_]; exact wrapK _
    have P_ := Lib.hid (fun w => pick5_any g1 4 w hd_ (by omega))
    have bc := pk_bd g1 4 (by omega)
    generalize pk g1 4 = cl at *
    obtain ⟨c0, -, c2, -, -, -, -⟩ := HQ.out.cells
    simp only [] at c0 c2
    have fr := HQ.out.2
    have x_ := HB2.out.cell 1 _ rfl
    go_wp2_with fail
    with_reducible refine (P_.out _).mono ?_
    rintro e W_ ⟨rfl, h9⟩
    obtain rfl := h9.symm
    clear h9
    go_upto_region 7 with (fail)
    clear c0 c2 fr x_ h_ hd_ P_ hkb
    have HQn : Hid (QBox (W2.setCell ⟨zq, 2, none⟩ (.int .i64 (cl))) zq ⟨kd, p1, cl, 0, 0, 0, 0⟩) := Lib.hid (HQ.out.set 2 (by decide) (cl))
    have kn := (Keep.refl (fun j => j = zq) W2).setCell (p := ⟨zq, 2, none⟩) (.int .i64 (cl)) (.inl rfl)
    have HBn := Lib.hid (HB2.out.keep kn HNE.out.1)
    have HRn := Lib.hid (HR2.out.keep kn HNE.out.2)
    have HKn := Lib.hid (HKW2.out.trans' kn (fun j hj => .inr (by have h1 : j = zq := hj; have := HZW.out; omega)))
    clear HQ HB2 HR2 HKW2 kn
    generalize W2.setCell ⟨zq, 2, none⟩ (.int .i64 (cl)) = W3 at *
    have HQ := Lib.hid HQn.out
    have HB2 := Lib.hid HBn.out
    have HR2 := Lib.hid HRn.out
    have HKW2 := Lib.hid HKn.out
    clear HQn HBn HRn HKn
    have P_ := Lib.hid (fun w => pick5_any x2 14 w H2.out (by omega))
    have ba := pk_bd x2 14 (by omega)
    generalize pk x2 14 = a2 at *
    have w1 : IntKind.i64.wrap (a2 - 2) = a2 - 2 := wrapI (by unfold I64; omega)
    obtain ⟨-, -, -, c3, -, -, -⟩ := HQ.out.cells
    simp only [] at c3
    have fr := HQ.out.2
    have x_ := HB2.out.cell 2 _ rfl
    go_wp2_with fail
    with_reducible refine (P_.out _).mono ?_
    rintro e W_ ⟨rfl, h9⟩
    obtain rfl := h9.symm
    clear h9
    go_upto_region 8 with (fail)
    clear c3 fr x_ w1 P_
    have hlo : -2 ≤ a2 - 2 ∧ a2 - 2 ≤ 11 := by omega
    generalize a2 - 2 = lo at *
    clear ba
    have HQn : Hid (QBox (W3.setCell ⟨zq, 3, none⟩ (.int .i64 (lo))) zq ⟨kd, p1, cl, lo, 0, 0, 0⟩) := Lib.hid (HQ.out.set 3 (by decide) (lo))
    have kn := (Keep.refl (fun j => j = zq) W3).setCell (p := ⟨zq, 3, none⟩) (.int .i64 (lo)) (.inl rfl)
    have HBn := Lib.hid (HB2.out.keep kn HNE.out.1)
    have HRn := Lib.hid (HR2.out.keep kn HNE.out.2)
    have HKn := Lib.hid (HKW2.out.trans' kn (fun j hj => .inr (by have h1 : j = zq := hj; have := HZW.out; omega)))
    clear HQ HB2 HR2 HKW2 kn
    generalize W3.setCell ⟨zq, 3, none⟩ (.int .i64 (lo)) = W4 at *
    have HQ := Lib.hid HQn.out
    have HB2 := Lib.hid HBn.out
    have HR2 := Lib.hid HRn.out
    have HKW2 := Lib.hid HKn.out
    clear HQn HBn HRn HKn
    have P_ := Lib.hid (fun w => pick5_any x3 14 w H3.out (by omega))
    have bh := pk_bd x3 14 (by omega)
    generalize pk x3 14 = a3 at *
    have w1 : IntKind.i64.wrap (lo + a3) = lo + a3 := wrapI (by unfold I64; omega)
    go_upto_region 8 with (fail)
    have hk4 := (Keep.refl (fun _ => False) W4).drew
    have HQ5 := Lib.hid (HQ.out.kept hk4)
    have HB5 := Lib.hid (HB2.out.kept hk4)
    have HR5 := Lib.hid (HR2.out.kept hk4)
    have HK5 := Lib.hid (HKW2.out.trans hk4)
    refine wp_region_still_tail 7 (by decide +kernel) (by decide +kernel) ?_
    simp only [List.take_succ_cons, List.take_zero, List.drop_succ_cons, List.drop_zero]
    change wpStill _ _ W4.drew _ _ _
    clear hk4
    obtain ⟨-, -, c2, c3, c4, -, -⟩ := HQ5.out.cells
    simp only [] at c2 c3 c4
    have fr := HQ5.out.2
    have x_ := HB5.out.cell 3 _ rfl
    iterate 4 still_step
    still_call (P_.out _)
    iterate 2 still_step
    refine wpStill_nil ?_
    change wpList _ _ _ _ _ W4.drew
    clear HQ HB2 HR2 HKW2
    generalize W4.drew = W5 at *
    have HQ := Lib.hid HQ5.out
    have HB2 := Lib.hid HB5.out
    have HR2 := Lib.hid HR5.out
    have HKW2 := Lib.hid HK5.out
    clear HQ5 HB5 HR5 HK5
    go_upto_if 44 with (fail)
    clear c2 c3 c4 fr x_ w1 P_
    have hhi : lo ≤ lo + a3 ∧ lo + a3 ≤ 24 := by omega
    generalize lo + a3 = hi at *
    clear bh
    have HQn : Hid (QBox (W5.setCell ⟨zq, 4, none⟩ (.int .i64 (hi))) zq ⟨kd, p1, cl, lo, hi, 0, 0⟩) := Lib.hid (HQ.out.set 4 (by decide) (hi))
    have kn := (Keep.refl (fun j => j = zq) W5).setCell (p := ⟨zq, 4, none⟩) (.int .i64 (hi)) (.inl rfl)
    have HBn := Lib.hid (HB2.out.keep kn HNE.out.1)
    have HRn := Lib.hid (HR2.out.keep kn HNE.out.2)
    have HKn := Lib.hid (HKW2.out.trans' kn (fun j hj => .inr (by have h1 : j = zq := hj; have := HZW.out; omega)))
    clear HQ HB2 HR2 HKW2 kn
    generalize W5.setCell ⟨zq, 4, none⟩ (.int .i64 (hi)) = W6 at *
    have HQ := Lib.hid HQn.out
    have HB2 := Lib.hid HBn.out
    have HR2 := Lib.hid HRn.out
    have HKW2 := Lib.hid HKn.out
    clear HQn HBn HRn HKn
    go_cut [] (fun wc => ∃ lo hi : Int, (-1000 ≤ lo ∧ lo ≤ hi ∧ hi ≤ 1000) ∧ QBox wc zq ⟨kd, p1, cl, lo, hi, 0, 0⟩ ∧ Keep (fun j => j = zq) W6 wc)
    case first =>
      obtain ⟨-, -, -, c3, c4, -, -⟩ := HQ.out.cells
      simp only [] at c3 c4
      have fr := HQ.out.2
      by_cases hc3 : cl = 3
      · subst hc3
        have w1 : IntKind.i64.wrap (lo * 3) = lo * 3 := wrapI (by unfold I64; omega)
        have w2 : IntKind.i64.wrap (lo * 3 - 20) = lo * 3 - 20 := wrapI (by unfold I64; omega)
        have w3 : IntKind.i64.wrap (hi * 3) = hi * 3 := wrapI (by unfold I64; omega)
        have w4 : IntKind.i64.wrap (hi * 3 - 20) = hi * 3 - 20 := wrapI (by unfold I64; omega)
        go_wp2_with fail
        go_meet
        exact ⟨lo * 3 - 20, hi * 3 - 20, by omega, (HQ.out.set 3 (by decide) _).set 4 (by decide) _, ((Keep.refl (fun j => j = zq) W6).setCell (p := ⟨zq, 3, none⟩) _ (.inl rfl)).setCell (p := ⟨zq, 4, none⟩) _ (.inl rfl)⟩
      · have hcb : (cl == 3) = false := by simpa using hc3
        clear hc3
        go_wp2_with fail
        go_meet
        exact ⟨lo, hi, by omega, HQ.out, Keep.refl _ _⟩
    case rest =>
      clear hlo hhi
      obtain ⟨lo, hi, hlh, hq7, k7⟩ := hcut
      have HQn := Lib.hid hq7
      have HBn := Lib.hid (HB2.out.keep k7 HNE.out.1)
      have HRn := Lib.hid (HR2.out.keep k7 HNE.out.2)
      have HKn := Lib.hid (HKW2.out.trans' k7 (fun j hj => .inr (by have h1 : j = zq := hj; have := HZW.out; omega)))
      clear HQ HB2 HR2 HKW2 k7 hq7
      generalize wc = W7 at *
      have HQ := Lib.hid HQn.out
      have HB2 := Lib.hid HBn.out
      have HR2 := Lib.hid HRn.out
      have HKW2 := Lib.hid HKn.out
      clear HQn HBn HRn HKn
      obtain ⟨c0, -, -, -, -, -, -⟩ := HQ.out.cells
      simp only [] at c0
      have fr := HQ.out.2
      go_upto_if 57 with (fail)
      clear c0 fr
      go_cut [] (fun wc => ∃ b : Int, ((4 ≤ kd → 1 ≤ b ∧ b ≤ 3) ∧ (¬ 4 ≤ kd → b = 0)) ∧ QBox wc zq ⟨kd, p1, cl, lo, hi, b, 0⟩ ∧ Keep (fun j => j = zq) W7 wc)
      case first =>
        by_cases h4 : 4 ≤ kd
        · have P_ := Lib.hid (fun w => pick5_any x4 3 w H4.out (by omega))
          have b_ := pk_bd x4 3 (by omega)
          generalize pk x4 3 = a5 at *
          have w1 : IntKind.i64.wrap (1 + a5) = 1 + a5 := wrapI (by unfold I64; omega)
          obtain ⟨-, -, -, -, -, c5, -⟩ := HQ.out.cells
          simp only [] at c5
          have fr := HQ.out.2
          have x_ := HB2.out.cell 4 _ rfl
          go_wp2_with fail
          with_reducible refine (P_.out _).mono ?_
          rintro e W_ ⟨rfl, h9⟩
          obtain rfl := h9.symm
          clear h9
          clear P_
          go_wp2_with fail
          go_meet
          exact ⟨1 + a5, by omega, HQ.out.set 5 (by decide) _, (Keep.refl (fun j => j = zq) W7).setCell (p := ⟨zq, 5, none⟩) _ (.inl rfl)⟩
        · go_wp2_with fail
          go_meet
          exact ⟨0, by omega, HQ.out, Keep.refl _ _⟩
      case rest =>
        obtain ⟨b, hb, hq7, k7⟩ := hcut
        have HQn := Lib.hid hq7
        have HBn := Lib.hid (HB2.out.keep k7 HNE.out.1)
        have HRn := Lib.hid (HR2.out.keep k7 HNE.out.2)
        have HKn := Lib.hid (HKW2.out.trans' k7 (fun j hj => .inr (by have h1 : j = zq := hj; have := HZW.out; omega)))
        clear HQ HB2 HR2 HKW2 k7 hq7
        generalize wc = W8 at *
        have HQ := Lib.hid HQn.out
        have HB2 := Lib.hid HBn.out
        have HR2 := Lib.hid HRn.out
        have HKW2 := Lib.hid HKn.out
        clear HQn HBn HRn HKn
        obtain ⟨c0, -, -, -, -, -, -⟩ := HQ.out.cells
        simp only [] at c0
        have fr := HQ.out.2
        go_upto_if 65 with (fail)
        clear c0 fr
        go_cut [] (fun wc => ∃ b o : Int, ((4 ≤ kd → 1 ≤ b ∧ b ≤ 3) ∧ (¬ 4 ≤ kd → b = 0)) ∧ ((kd = 7 → 0 ≤ o ∧ o ≤ 3) ∧ (¬ kd = 7 → o = 0)) ∧ QBox wc zq ⟨kd, p1, cl, lo, hi, b, o⟩ ∧ Keep (fun j => j = zq) W8 wc)
        case first =>
          by_cases h7 : kd = 7
          · subst h7
            obtain ⟨g4, h_⟩ : ∃ d, IntKind.i64.wrap (x4.tdiv 3) = d := ⟨_, rfl⟩
            have hd_ : I64 g4 := by rw [← h_]; exact wrapK _
            have P_ := Lib.hid (fun w => pick5_any g4 3 w hd_ (by omega))
            have b6 := pk_bd g4 3 (by omega)
            generalize pk g4 3 = a6 at *
            obtain ⟨-, -, -, -, -, -, c6⟩ := HQ.out.cells
            simp only [] at c6
            have fr := HQ.out.2
            have x_ := HB2.out.cell 4 _ rfl
            go_wp2_with fail
            with_reducible refine (P_.out _).mono ?_
            rintro e W_ ⟨rfl, h9⟩
            obtain rfl := h9.symm
            clear h9
            clear P_ h_ hd_
            go_upto_region 16 with (fail)
            clear c6 fr x_
            have hq9 := HQ.out.set 6 (by decide) a6
            have k9 := (Keep.refl (fun j => j = zq) W8).setCell (p := ⟨zq, 6, none⟩) (.int .i64 a6) (.inl rfl)
            have hb9 := HB2.out.keep k9 HNE.out.1
            have HQ9 : Hid (QBox (W8.setCell ⟨zq, 6, none⟩ (.int .i64 a6)) zq ⟨7, p1, cl, lo, hi, b, a6⟩) := Lib.hid hq9
            have HK9 := Lib.hid k9
            have HB9 := Lib.hid hb9
            clear hq9 k9 hb9
            generalize W8.setCell ⟨zq, 6, none⟩ (.int .i64 a6) = W9 at *
            obtain ⟨g9, h_⟩ : ∃ d, IntKind.i64.wrap (x4.tdiv 9) = d := ⟨_, rfl⟩
            have hd_ : I64 g9 := by rw [← h_]; exact wrapK _
            have P_ := Lib.hid (fun w => pick5_any g9 3 w hd_ (by omega))
            have b7 := pk_bd g9 3 (by omega)
            generalize pk g9 3 = a7 at *
            obtain ⟨-, -, -, -, -, c5, -⟩ := HQ9.out.cells
            simp only [] at c5
            have fr := HQ9.out.2
            have x_ := HB9.out.cell 4 _ rfl
            go_wp2_with fail
            with_reducible refine (P_.out _).mono ?_
            rintro e W_ ⟨rfl, h9⟩
            obtain rfl := h9.symm
            clear h9
            clear P_ h_ hd_
            by_cases h0 : 0 < a7
            · go_wp2_with fail
              go_meet
              exact ⟨2, a6, by omega, ⟨fun _ => ⟨b6.1, by have := b6.2; omega⟩, fun h => absurd trivial h⟩, HQ9.out.set 5 (by decide) _, HK9.out.setCell (p := ⟨zq, 5, none⟩) _ (.inl rfl)⟩
            · go_wp2_with fail
              go_meet
              exact ⟨b, a6, hb, ⟨fun _ => ⟨b6.1, by have := b6.2; omega⟩, fun h => absurd trivial h⟩, HQ9.out, HK9.out⟩
          · have hkb7 : (kd == 7) = false := by simpa using h7
            have h7' : Hid (¬ kd = 7) := Lib.hid h7
            clear h7
            go_wp2_with fail
            go_meet
            exact ⟨b, 0, hb, ⟨fun h => absurd h h7'.out, fun _ => rfl⟩, HQ.out, Keep.refl _ _⟩
        case rest =>
          clear hb
          obtain ⟨b, o, hb, ho, hq7, k7⟩ := hcut
          have HOKQ : Hid (Qy.ok ⟨kd, p1, cl, lo, hi, b, o⟩) := Lib.hid (ask_ok hk2 (by omega) (by omega) (by omega) hb ho)
          clear hb ho
          have HQn := Lib.hid hq7
          have HBn := Lib.hid (HB2.out.keep k7 HNE.out.1)
          have HRn := Lib.hid (HR2.out.keep k7 HNE.out.2)
          have HKn := Lib.hid (HKW2.out.trans' k7 (fun j hj => .inr (by have h1 : j = zq := hj; have := HZW.out; omega)))
          clear HQ HB2 HR2 HKW2 k7 hq7
          generalize wc = W9 at *
          have HQ := Lib.hid HQn.out
          have HB2 := Lib.hid HBn.out
          have HR2 := Lib.hid HRn.out
          have HKW2 := Lib.hid HKn.out
          clear HQn HBn HRn HKn
          have hq7 := HQ.out.cells
          obtain ⟨c0, c1, c2, c3, c4, c5, c6⟩ := hq7
          simp only [] at c0 c1 c2 c3 c4 c5 c6
          obtain ⟨e0, e1, e2, e3, e4, e5, e6⟩ := HR2.out.cells
          simp only [] at e0 e1 e2 e3 e4 e5 e6
          have fr := HR2.out.2
          have hput := QBox.put HR2.out kd p1 cl lo hi b o
          obtain ⟨d0, d1, d2, d3, d4, d5, d6⟩ := hput.1.cells
          simp only [] at d0 d1 d2 d3 d4 d5 d6
          have HP := Lib.hid hput.2
          clear hput
          go_wp2_with fail
          clear c0 c1 c2 c3 c4 c5 c6 e0 e1 e2 e3 e4 e5 e6 fr
          try simp only [Exit.inBlock, Exit.then]
          refine bodyPost_ret (v := qV ⟨kd, p1, cl, lo, hi, b, o⟩) (by simp [results, Tryz.results8, go_sem, d0, d1, d2, d3, d4, d5, d6]) rfl ?_
          exact ⟨⟨kd, p1, cl, lo, hi, b, o⟩, rfl, HOKQ.out, HKW2.out.trans' HP.out (fun j hj => .inr (by have h1 : j = zx + 1 := hj; have := HZX.out; omega))⟩
end Go.Proofs.YtcnpncndecjahaaGreatDoor

/-
  Low walks: pick, insert, unlink, link.
-/
namespace Go.Proofs.YtcnpncndecjahaaGreatDoor.Mem
open Go.RowKit

def pk (c n : Int) : Int := (if c < 0 then -(c + 1) else c) % n

set_option maxHeartbeats 400000 in
theorem pick_any (c n : Int) (w : World) (h1 : -9223372036854775808 ≤ c) (h2 : c ≤ 9223372036854775807) (hn : 1 ≤ n) (hn2 : n ≤ 9223372036854775807) :
    Calls Tryz.prog 11 #[.int .i64 c, .int .i64 n] w fun e w' => e = .returned (.int .i64 (pk c n)) ∧ w = w' := by
  by_cases hc : c < 0
  · go_enter Tryz.func11, Tryz.ntmps11
    go_wp2
    go_ret
    refine ⟨?_, rfl⟩
    show Ending.returned (.int .i64 (-(c + 1).tmod n)) = _
    rw [pk, if_pos hc, ← Int.neg_tmod, Int.tmod_eq_emod_of_nonneg (by omega)]
  · have hc' : 0 ≤ c := by omega
    go_enter Tryz.func11, Tryz.ntmps11
    go_wp2
    go_ret
    refine ⟨?_, rfl⟩
    rw [pk, if_neg (by omega)]
    rfl

set_option maxHeartbeats 400000 in
theorem unlink_any (x p n : Nat) (vp vn : Value) (w : World)
    (hb : w.cell? ⟨x, 3, none⟩ = some (.pointer (some ⟨p, 0, none⟩))) (hn : w.cell? ⟨x, 4, none⟩ = some (.pointer (some ⟨n, 0, none⟩)))
    (hp : w.cell? ⟨p, 4, none⟩ = some vp) (hq : w.cell? ⟨n, 3, none⟩ = some vn) (fp : w.frozen? ⟨p, 4, none⟩ = false) (fn : w.frozen? ⟨n, 3, none⟩ = false) :
    Calls Tryz.prog 48 #[.pointer (some ⟨x, 0, none⟩)] w fun e w' => e = .returned (.tuple #[]) ∧ 
      ∃ k, w' = ((w.setCell ⟨p, 4, none⟩ (.pointer (some ⟨n, 0, none⟩))).setCell ⟨n, 3, none⟩ (.pointer (some ⟨p, 0, none⟩))).drewN k := by
  go_enter Tryz.func48, Tryz.ntmps48
  go_region
  all_goals (go_end0; exact ⟨rfl, 1, rfl⟩)

set_option maxHeartbeats 400000 in
theorem link_any (x p n : Nat) (vp vn : Value) (w : World)
    (hb : w.cell? ⟨x, 3, none⟩ = some (.pointer (some ⟨p, 0, none⟩))) (hn : w.cell? ⟨x, 4, none⟩ = some (.pointer (some ⟨n, 0, none⟩)))
    (hp : w.cell? ⟨p, 4, none⟩ = some vp) (hq : w.cell? ⟨n, 3, none⟩ = some vn) (fp : w.frozen? ⟨p, 4, none⟩ = false) (fn : w.frozen? ⟨n, 3, none⟩ = false) :
    Calls Tryz.prog 79 #[.pointer (some ⟨x, 0, none⟩)] w fun e w' => e = .returned (.tuple #[]) ∧ 
      ∃ k, w' = ((w.setCell ⟨p, 4, none⟩ (.pointer (some ⟨x, 0, none⟩))).setCell ⟨n, 3, none⟩ (.pointer (some ⟨x, 0, none⟩))).drewN k := by
  go_enter Tryz.func79, Tryz.ntmps79
  go_region
  all_goals (go_end0; exact ⟨rfl, 1, rfl⟩)

set_option maxHeartbeats 400000 in
theorem insert_any (x a l : Nat) (v3 v4 vl : Value) (w : World) (hxa : x ≠ a) (hxl : x ≠ l)
    (hb : w.cell? ⟨x, 3, none⟩ = some v3) (hn : w.cell? ⟨x, 4, none⟩ = some v4)
    (hp : w.cell? ⟨a, 3, none⟩ = some (.pointer (some ⟨l, 0, none⟩))) (hq : w.cell? ⟨l, 4, none⟩ = some vl) 
    (f1 : w.frozen? ⟨x, 3, none⟩ = false) (f2 : w.frozen? ⟨x, 4, none⟩ = false) (f3 : w.frozen? ⟨a, 3, none⟩ = false) (f4 : w.frozen? ⟨l, 4, none⟩ = false):
    Calls Tryz.prog 44 #[.pointer (some ⟨x, 0, none⟩), .pointer (some ⟨a, 0, none⟩)] w fun e w' => e = .returned (.tuple #[]) ∧ 
      w' = ((((w.setCell ⟨x, 3, none⟩ (.pointer (some ⟨l, 0, none⟩))).setCell ⟨x, 4, none⟩ (.pointer (some ⟨a, 0, none⟩))).setCell ⟨l, 4, none⟩ (.pointer (some ⟨x, 0, none⟩))).setCell ⟨a, 3, none⟩ (.pointer (some ⟨x, 0, none⟩))) := by
  go_enter Tryz.func44, Tryz.ntmps44
  go_wp2
  all_goals (go_end0; exact ⟨rfl, rfl⟩)

set_option maxHeartbeats 400000 in
theorem count_any (p x bu len cap : Nat) (t : Nat) (u f z s m u' f' : Int) (w : World) (ht : t < len)
    (h7 : w.cell? ⟨p, 7, none⟩ = some (.slice (some ⟨bu, 0, none⟩) len cap)) (h9 : w.cell? ⟨p, 9, none⟩ = some (.int .i64 f)) (f9 : w.frozen? ⟨p, 9, none⟩ = false)
    (h1 : w.cell? ⟨x, 1, none⟩ = some (.int .i64 t)) (h2 : w.cell? ⟨x, 2, none⟩ = some (.int .i64 z))
    (hu : w.cell? ⟨bu, t, none⟩ = some (.int .i64 u)) (fu : w.frozen? ⟨bu, t, none⟩ = false)
    (hpb : p ≠ bu) (hxb : x ≠ bu) (e1 : IntKind.i64.wrap (s * z) = m) (e2 : IntKind.i64.wrap (u + m) = u') (e3 : IntKind.i64.wrap (f - m) = f') :
    Calls Tryz.prog 45 #[.pointer (some ⟨p, 0, none⟩), .pointer (some ⟨x, 0, none⟩), .int .i64 s] w fun e w' => e = .returned (.tuple #[]) ∧ 
      ∃ k, w' = ((w.setCell ⟨bu, t, none⟩ (.int .i64 u')).setCell ⟨p, 9, none⟩ (.int .i64 f')).drewN k := by
  go_enter Tryz.func45, Tryz.ntmps45
  go_wp2
  go_region
  go_wp2
  go_region
  all_goals go_end0
  all_goals exact ⟨rfl, 2, rfl⟩
end Go.Proofs.YtcnpncndecjahaaGreatDoor.Mem

/-
  Low walks: take, back.
-/
namespace Go.Proofs.YtcnpncndecjahaaGreatDoor.Mem
open Go.RowKit

theorem strKeyed : Maps.Keyed Tryz.prog 9 := Maps.string_keyed Tryz.underlying9
theorem keyStr {s : ByteArray} (h : s.size ≤ maxLen) : keyOf Tryz.prog 9 (.string s) = some (.string s.data.toList) := Go.WideMaps.keyOf_string_mk Tryz.underlying9 h

set_option maxHeartbeats 400000 in
theorem take_any (p x a c bm bu len cap t : Nat) (key : ByteArray) (va vc : Value) (u f z m u' f' : Int) (R : Value → Value → Prop) (w : World)
    (hb : w.cell? ⟨x, 3, none⟩ = some (.pointer (some ⟨a, 0, none⟩))) (hn : w.cell? ⟨x, 4, none⟩ = some (.pointer (some ⟨c, 0, none⟩)))
    (hp : w.cell? ⟨a, 4, none⟩ = some va) (hq : w.cell? ⟨c, 3, none⟩ = some vc) (fp : w.frozen? ⟨a, 4, none⟩ = false) (fn : w.frozen? ⟨c, 3, none⟩ = false)
    (h8 : w.cell? ⟨p, 8, none⟩ = some (.map (some bm))) (h0 : w.cell? ⟨x, 0, none⟩ = some (.string key)) (hks : key.size ≤ maxLen) (hm : MapRel Tryz.prog 9 w bm R)
    (ht : t < len)
    (h7 : w.cell? ⟨p, 7, none⟩ = some (.slice (some ⟨bu, 0, none⟩) len cap)) (h9 : w.cell? ⟨p, 9, none⟩ = some (.int .i64 f)) (f9 : w.frozen? ⟨p, 9, none⟩ = false)
    (h1 : w.cell? ⟨x, 1, none⟩ = some (.int .i64 t)) (h2 : w.cell? ⟨x, 2, none⟩ = some (.int .i64 z))
    (hu : w.cell? ⟨bu, t, none⟩ = some (.int .i64 u)) (fu : w.frozen? ⟨bu, t, none⟩ = false)
    (hpb : p ≠ bu) (hxb : x ≠ bu) (hab : a ≠ bu) (hcb : c ≠ bu) (e1 : IntKind.i64.wrap (-1 * z) = m) (e2 : IntKind.i64.wrap (u + m) = u') (e3 : IntKind.i64.wrap (f - m) = f') :
    Calls Tryz.prog 40 #[.pointer (some ⟨p, 0, none⟩), .pointer (some ⟨x, 0, none⟩)] w fun e w' => e = .returned (.tuple #[]) ∧ 
      ∃ ob k, w' = (((((w.setCell ⟨a, 4, none⟩ (.pointer (some ⟨c, 0, none⟩))).setCell ⟨c, 3, none⟩ (.pointer (some ⟨a, 0, none⟩))).putObj bm ob).setCell ⟨bu, t, none⟩ (.int .i64 u')).setCell ⟨p, 9, none⟩ (.int .i64 f')).drewN k ∧
        MapRel Tryz.prog 9 w' bm (fun k v => k ≠ .string key ∧ R k v) := by
  have E := Lib.hid (And.intro e1 (And.intro e2 e3)); clear e1 e2 e3
  have hbma := hm.not_cell hp
  have hbmc := hm.not_cell hq
  have hbmx := hm.not_cell h0
  have hbmp := hm.not_cell h8
  have hbmu := hm.not_cell hu
  have HM := Lib.hid hm; clear hm
  go_enter Tryz.func40, Tryz.ntmps40
  go_wp2_with (go_at_call 48; refine (unlink_any x a c va vc _ hb hn hp hq fp fn).mono ?_; rintro e w' ⟨rfl, k, rfl⟩)
  obtain ⟨w1, hw1⟩ : ∃ w1, w1 = ((w.setCell ⟨a, 4, none⟩ (.pointer (some ⟨c, 0, none⟩))).setCell ⟨c, 3, none⟩ (.pointer (some ⟨a, 0, none⟩))).drewN k := ⟨_, rfl⟩
  rw [← hw1]
  have k8 : w1.cell? ⟨p, 8, none⟩ = some (.map (some bm)) := by subst hw1; exact (cell_set_off (by decide)).trans ((cell_set_off (by decide)).trans h8)
  have k0 : w1.cell? ⟨x, 0, none⟩ = some (.string key) := by subst hw1; exact (cell_set_off (by decide)).trans ((cell_set_off (by decide)).trans h0)
  have k7 : w1.cell? ⟨p, 7, none⟩ = some (.slice (some ⟨bu, 0, none⟩) len cap) := by subst hw1; exact (cell_set_off (by decide)).trans ((cell_set_off (by decide)).trans h7)
  have k9 : w1.cell? ⟨p, 9, none⟩ = some (.int .i64 f) := by subst hw1; exact (cell_set_off (by decide)).trans ((cell_set_off (by decide)).trans h9)
  have k1 : w1.cell? ⟨x, 1, none⟩ = some (.int .i64 t) := by subst hw1; exact (cell_set_off (by decide)).trans ((cell_set_off (by decide)).trans h1)
  have k2 : w1.cell? ⟨x, 2, none⟩ = some (.int .i64 z) := by subst hw1; exact (cell_set_off (by decide)).trans ((cell_set_off (by decide)).trans h2)
  have ku : w1.cell? ⟨bu, t, none⟩ = some (.int .i64 u) := by subst hw1; exact (cell_set_blk hcb).trans ((cell_set_blk hab).trans hu)
  have g9 : w1.frozen? ⟨p, 9, none⟩ = false := by subst hw1; exact (World.frozen?_setCell _ _ _ _).trans ((World.frozen?_setCell _ _ _ _).trans f9)
  have gu : w1.frozen? ⟨bu, t, none⟩ = false := by subst hw1; exact (World.frozen?_setCell _ _ _ _).trans ((World.frozen?_setCell _ _ _ _).trans fu)
  have hm1 : MapRel Tryz.prog 9 w1.drew bm R := HM.out.of_heap (by subst hw1; exact (heap_set_ne hbmc.symm).trans (heap_set_ne hbma.symm))
  obtain ⟨es', ck', hdel, hm2⟩ := hm1.delete (t := 77) (et := 78) strKeyed Tryz.underlying77 (keyStr hks) 0
  have HM2 := Lib.hid hm2; clear hm2 hm1 HM hb hn hp hq h8 h0 h7 h9 h1 h2 hu f9 fu fp fn
  have HW := Lib.hid hw1; clear hw1
  go_region
  obtain ⟨w2, hw2⟩ : ∃ w2, w2 = w1.drew.putObj bm (.map es' ck') := ⟨_, rfl⟩
  rw [← hw2]
  have m7 : w2.cell? ⟨p, 7, none⟩ = some (.slice (some ⟨bu, 0, none⟩) len cap) := by subst hw2; exact (cell_put hbmp).trans k7
  have m9 : w2.cell? ⟨p, 9, none⟩ = some (.int .i64 f) := by subst hw2; exact (cell_put hbmp).trans k9
  have m1 : w2.cell? ⟨x, 1, none⟩ = some (.int .i64 t) := by subst hw2; exact (cell_put hbmx).trans k1
  have m2 : w2.cell? ⟨x, 2, none⟩ = some (.int .i64 z) := by subst hw2; exact (cell_put hbmx).trans k2
  have mu : w2.cell? ⟨bu, t, none⟩ = some (.int .i64 u) := by subst hw2; exact (cell_put hbmu).trans ku
  have n9 : w2.frozen? ⟨p, 9, none⟩ = false := by subst hw2; exact (frozen_put hbmp).trans g9
  have nu : w2.frozen? ⟨bu, t, none⟩ = false := by subst hw2; exact (frozen_put hbmu).trans gu
  have HW2 := Lib.hid hw2; clear hw2 k8 k0 k7 k9 k1 k2 ku g9 gu hdel
  go_wp2_with (go_at_call 45; refine (count_any p x bu len cap t u f z (-1) m u' f' _ ht m7 m9 n9 m1 m2 mu nu hpb hxb E.out.1 E.out.2.1 E.out.2.2).mono ?_; rintro e w' ⟨rfl, k', rfl⟩)
  go_end0
  refine ⟨rfl, .map es' ck', k + 1 + k', ?_, ?_⟩
  · have h1 := HW.out; have h2 := HW2.out; subst h1; subst h2; simp only [World.drewN, World.drew, World.setCell, World.putObj, Nat.add_assoc]
  · exact (HW2.out ▸ HM2.out : MapRel Tryz.prog 9 w2 bm _).of_heap ((heap_set_ne hbmp.symm).trans (heap_set_ne hbmu.symm))

set_option maxHeartbeats 400000 in
theorem back_any (p x a c bm bu len cap t : Nat) (key : ByteArray) (va vc : Value) (u f z m u' f' : Int) (R : Value → Value → Prop) (w : World)
    (hb : w.cell? ⟨x, 3, none⟩ = some (.pointer (some ⟨a, 0, none⟩))) (hn : w.cell? ⟨x, 4, none⟩ = some (.pointer (some ⟨c, 0, none⟩)))
    (hp : w.cell? ⟨a, 4, none⟩ = some va) (hq : w.cell? ⟨c, 3, none⟩ = some vc) (fp : w.frozen? ⟨a, 4, none⟩ = false) (fn : w.frozen? ⟨c, 3, none⟩ = false)
    (h8 : w.cell? ⟨p, 8, none⟩ = some (.map (some bm))) (h0 : w.cell? ⟨x, 0, none⟩ = some (.string key)) (hks : key.size ≤ maxLen) (hm : MapRel Tryz.prog 9 w bm R)
    (ht : t < len)
    (h7 : w.cell? ⟨p, 7, none⟩ = some (.slice (some ⟨bu, 0, none⟩) len cap)) (h9 : w.cell? ⟨p, 9, none⟩ = some (.int .i64 f)) (f9 : w.frozen? ⟨p, 9, none⟩ = false)
    (h1 : w.cell? ⟨x, 1, none⟩ = some (.int .i64 t)) (h2 : w.cell? ⟨x, 2, none⟩ = some (.int .i64 z))
    (hu : w.cell? ⟨bu, t, none⟩ = some (.int .i64 u)) (fu : w.frozen? ⟨bu, t, none⟩ = false)
    (hpb : p ≠ bu) (hxb : x ≠ bu) (hab : a ≠ bu) (hcb : c ≠ bu) (e1 : IntKind.i64.wrap (1 * z) = m) (e2 : IntKind.i64.wrap (u + m) = u') (e3 : IntKind.i64.wrap (f - m) = f') :
    Calls Tryz.prog 43 #[.pointer (some ⟨p, 0, none⟩), .pointer (some ⟨x, 0, none⟩)] w fun e w' => e = .returned (.tuple #[]) ∧ 
      ∃ ob k, w' = (((((w.setCell ⟨a, 4, none⟩ (.pointer (some ⟨x, 0, none⟩))).setCell ⟨c, 3, none⟩ (.pointer (some ⟨x, 0, none⟩))).putObj bm ob).setCell ⟨bu, t, none⟩ (.int .i64 u')).setCell ⟨p, 9, none⟩ (.int .i64 f')).drewN k ∧
        MapRel Tryz.prog 9 w' bm (fun k v => (k = .string key ∧ v = .pointer (some ⟨x, 0, none⟩)) ∨ (k ≠ .string key ∧ R k v)) := by
  have E := Lib.hid (And.intro e1 (And.intro e2 e3)); clear e1 e2 e3
  have hbma := hm.not_cell hp
  have hbmc := hm.not_cell hq
  have hbmx := hm.not_cell h0
  have hbmp := hm.not_cell h8
  have hbmu := hm.not_cell hu
  have HM := Lib.hid hm; clear hm
  go_enter Tryz.func43, Tryz.ntmps43
  go_wp2_with (go_at_call 79; refine (link_any x a c va vc _ hb hn hp hq fp fn).mono ?_; rintro e w' ⟨rfl, k, rfl⟩)
  obtain ⟨w1, hw1⟩ : ∃ w1, w1 = ((w.setCell ⟨a, 4, none⟩ (.pointer (some ⟨x, 0, none⟩))).setCell ⟨c, 3, none⟩ (.pointer (some ⟨x, 0, none⟩))).drewN k := ⟨_, rfl⟩
  rw [← hw1]
  have k8 : w1.cell? ⟨p, 8, none⟩ = some (.map (some bm)) := by subst hw1; exact (cell_set_off (by decide)).trans ((cell_set_off (by decide)).trans h8)
  have k0 : w1.cell? ⟨x, 0, none⟩ = some (.string key) := by subst hw1; exact (cell_set_off (by decide)).trans ((cell_set_off (by decide)).trans h0)
  have k7 : w1.cell? ⟨p, 7, none⟩ = some (.slice (some ⟨bu, 0, none⟩) len cap) := by subst hw1; exact (cell_set_off (by decide)).trans ((cell_set_off (by decide)).trans h7)
  have k9 : w1.cell? ⟨p, 9, none⟩ = some (.int .i64 f) := by subst hw1; exact (cell_set_off (by decide)).trans ((cell_set_off (by decide)).trans h9)
  have k1 : w1.cell? ⟨x, 1, none⟩ = some (.int .i64 t) := by subst hw1; exact (cell_set_off (by decide)).trans ((cell_set_off (by decide)).trans h1)
  have k2 : w1.cell? ⟨x, 2, none⟩ = some (.int .i64 z) := by subst hw1; exact (cell_set_off (by decide)).trans ((cell_set_off (by decide)).trans h2)
  have ku : w1.cell? ⟨bu, t, none⟩ = some (.int .i64 u) := by subst hw1; exact (cell_set_blk hcb).trans ((cell_set_blk hab).trans hu)
  have g9 : w1.frozen? ⟨p, 9, none⟩ = false := by subst hw1; exact (World.frozen?_setCell _ _ _ _).trans ((World.frozen?_setCell _ _ _ _).trans f9)
  have gu : w1.frozen? ⟨bu, t, none⟩ = false := by subst hw1; exact (World.frozen?_setCell _ _ _ _).trans ((World.frozen?_setCell _ _ _ _).trans fu)
  have hm1 : MapRel Tryz.prog 9 w1.drew bm R := HM.out.of_heap (by subst hw1; exact (heap_set_ne hbmc.symm).trans (heap_set_ne hbma.symm))
  obtain ⟨es', ck', hupd, hm2⟩ := hm1.update (t := 77) (et := 78) strKeyed Tryz.underlying77 (keyStr hks) (.pointer (some ⟨x, 0, none⟩))
  have HM2 := Lib.hid hm2; clear hm2 hm1 HM hb hn hp hq h8 h0 h7 h9 h1 h2 hu f9 fu fp fn
  have HW := Lib.hid hw1; clear hw1
  go_region
  obtain ⟨w2, hw2⟩ : ∃ w2, w2 = w1.drew.putObj bm (.map es' ck') := ⟨_, rfl⟩
  rw [← hw2]
  have m7 : w2.cell? ⟨p, 7, none⟩ = some (.slice (some ⟨bu, 0, none⟩) len cap) := by subst hw2; exact (cell_put hbmp).trans k7
  have m9 : w2.cell? ⟨p, 9, none⟩ = some (.int .i64 f) := by subst hw2; exact (cell_put hbmp).trans k9
  have m1 : w2.cell? ⟨x, 1, none⟩ = some (.int .i64 t) := by subst hw2; exact (cell_put hbmx).trans k1
  have m2 : w2.cell? ⟨x, 2, none⟩ = some (.int .i64 z) := by subst hw2; exact (cell_put hbmx).trans k2
  have mu : w2.cell? ⟨bu, t, none⟩ = some (.int .i64 u) := by subst hw2; exact (cell_put hbmu).trans ku
  have n9 : w2.frozen? ⟨p, 9, none⟩ = false := by subst hw2; exact (frozen_put hbmp).trans g9
  have nu : w2.frozen? ⟨bu, t, none⟩ = false := by subst hw2; exact (frozen_put hbmu).trans gu
  have HW2 := Lib.hid hw2; clear hw2 k8 k0 k7 k9 k1 k2 ku g9 gu hupd
  go_wp2_with (go_at_call 45; refine (count_any p x bu len cap t u f z 1 m u' f' _ ht m7 m9 n9 m1 m2 mu nu hpb hxb E.out.1 E.out.2.1 E.out.2.2).mono ?_; rintro e w' ⟨rfl, k', rfl⟩)
  go_end0
  refine ⟨rfl, .map es' ck', k + 1 + k', ?_, ?_⟩
  · have h1 := HW.out; have h2 := HW2.out; subst h1; subst h2; simp only [World.drewN, World.drew, World.setCell, World.putObj, Nat.add_assoc]
  · exact (HW2.out ▸ HM2.out : MapRel Tryz.prog 9 w2 bm _).of_heap ((heap_set_ne hbmp.symm).trans (heap_set_ne hbmu.symm))
end Go.Proofs.YtcnpncndecjahaaGreatDoor.Mem

/-
  What a pool is in memory, and what taking an entry away, putting it back and adding one makes of it.
-/
namespace Go.Proofs.YtcnpncndecjahaaGreatDoor.Mem
open Go.RowKit

/-- An entry, as data. -/
structure E where
  key : ByteArray
  t : Nat
  z : Int

/-- An entry and its block. -/
structure Ent where
  b : Nat
  e : E

abbrev at_ (b o : Nat) : Addr := ⟨b, o, none⟩
abbrev ptr (b : Nat) : Value := .pointer (some ⟨b, 0, none⟩)

/-- Each node leads to the next one, and back. -/
def Links (w : World) : List Nat → Prop
  | a :: b :: r => (w.cell? ⟨a, 4, none⟩ = some (ptr b) ∧ w.cell? ⟨b, 3, none⟩ = some (ptr a)) ∧ Links w (b :: r)
  | _ => True

theorem links_append {w : World} : ∀ (X : List Nat) (a : Nat) (Y : List Nat), Links w (X ++ a :: Y) ↔ Links w (X ++ [a]) ∧ Links w (a :: Y)
  | [], a, Y => by simp [Links]
  | [x], a, Y => by simp [Links]
  | x :: y :: r, a, Y => by
    have := links_append (w := w) (y :: r) a Y
    simp only [List.cons_append] at this ⊢
    simp only [Links]
    rw [this]
    constructor <;> (intro h; simp_all)

theorem links_join {w : World} {A : List Nat} {a c : Nat} {C : List Nat} (h1 : Links w (A ++ [a])) (h2 : w.cell? ⟨a, 4, none⟩ = some (ptr c)) (h3 : w.cell? ⟨c, 3, none⟩ = some (ptr a)) (h4 : Links w (c :: C)) :
    Links w (A ++ a :: c :: C) := (links_append A a (c :: C)).2 ⟨h1, ⟨h2, h3⟩, h4⟩

theorem links_split {w : World} {A : List Nat} {a c : Nat} {C : List Nat} (h : Links w (A ++ a :: c :: C)) :
    Links w (A ++ [a]) ∧ (w.cell? ⟨a, 4, none⟩ = some (ptr c) ∧ w.cell? ⟨c, 3, none⟩ = some (ptr a)) ∧ Links w (c :: C) := (links_append A a (c :: C)).1 h

theorem links_frame {w w' : World} : ∀ (p : List Nat), (∀ a ∈ p.dropLast, w'.cell? ⟨a, 4, none⟩ = w.cell? ⟨a, 4, none⟩) → (∀ b ∈ p.tail, w'.cell? ⟨b, 3, none⟩ = w.cell? ⟨b, 3, none⟩) → Links w p → Links w' p
  | [], _, _, _ => trivial
  | [_], _, _, _ => trivial
  | a :: b :: r, h4, h3, h => by
    obtain ⟨⟨l1, l2⟩, l3⟩ := h
    refine ⟨⟨(h4 a (by simp)).trans l1, (h3 b (by simp)).trans l2⟩, links_frame (b :: r) (fun x hx => h4 x ?_) (fun x hx => h3 x ?_) l3⟩
    · simp [List.dropLast] at hx ⊢; exact .inr hx
    · simp at hx ⊢; exact .inr hx

theorem links_cell4 {w : World} : ∀ (p : List Nat), Links w p → ∀ a ∈ p.dropLast, ∃ v, w.cell? ⟨a, 4, none⟩ = some v
  | [], _, _, h => by simp at h
  | [_], _, _, h => by simp at h
  | x :: y :: r, h, a, ha => by
    obtain ⟨⟨l1, l2⟩, l3⟩ := h
    simp [List.dropLast] at ha
    rcases ha with rfl | ha
    · exact ⟨_, l1⟩
    · exact links_cell4 (y :: r) l3 a (by simpa [List.dropLast] using ha)

/-- The i-th step of a path. -/
theorem links_get {w : World} : ∀ (p : List Nat) (i a b : Nat), Links w p → p[i]? = some a → p[i + 1]? = some b → w.cell? ⟨a, 4, none⟩ = some (ptr b) ∧ w.cell? ⟨b, 3, none⟩ = some (ptr a)
  | [], _, _, _, _, h, _ => by simp at h
  | [_], i, _, _, _, _, h => by simp at h
  | x :: y :: r, 0, a, b, hl, h1, h2 => by
    simp at h1 h2
    subst h1; subst h2
    exact hl.1
  | x :: y :: r, i + 1, a, b, hl, h1, h2 => links_get (y :: r) i a b hl.2 (by simpa using h1) (by simpa using h2)

theorem last_of (b : Nat) (l : List Nat) : ∃ A a, b :: l = A ++ [a] := ⟨(b :: l).dropLast, (b :: l).getLast (by simp), (List.dropLast_concat_getLast (by simp)).symm⟩
theorem head_of (b : Nat) (l : List Nat) : ∃ c C, l ++ [b] = c :: C := by cases l with | nil => exact ⟨b, [], rfl⟩ | cons x r => exact ⟨x, r ++ [b], rfl⟩

/-- Four cells and one map have turned. -/
structure Upd (w w' : World) (a c bu t bp bm : Nat) (v1 v2 : Value) (u f : Int) (R' : Value → Value → Prop) : Prop where
  keep : Keep (fun k => k = a ∨ k = c ∨ k = bu ∨ k = bp ∨ k = bm) w w'
  c1 : w'.cell? ⟨a, 4, none⟩ = some v1
  c2 : w'.cell? ⟨c, 3, none⟩ = some v2
  c3 : w'.cell? ⟨bu, t, none⟩ = some (.int .i64 u)
  c4 : w'.cell? ⟨bp, 9, none⟩ = some (.int .i64 f)
  oth : ∀ b o, b ≠ bm → ¬ (b = a ∧ o = 4) → ¬ (b = c ∧ o = 3) → ¬ (b = bu ∧ o = t) → ¬ (b = bp ∧ o = 9) → w'.cell? ⟨b, o, none⟩ = w.cell? ⟨b, o, none⟩
  frz : ∀ b o, b ≠ bm → w'.frozen? ⟨b, o, none⟩ = w.frozen? ⟨b, o, none⟩
  map : MapRel Tryz.prog 9 w' bm R'

theorem cell_drewN (X : World) (k : Nat) (a : Addr) : (X.drewN k).cell? a = X.cell? a := rfl
theorem frozen_drewN (X : World) (k : Nat) (a : Addr) : (X.drewN k).frozen? a = X.frozen? a := rfl

theorem blk_lt {w : World} {b o : Nat} {v : Value} (h : w.cell? ⟨b, o, none⟩ = some v) : b < w.heap.size := World.block_lt_of_cell? _ _ h

theorem upd_of {w w' : World} {a c bu t bp bm : Nat} {v1 v2 : Value} {u f : Int} {R' : Value → Value → Prop} {ob : Obj} {k : Nat} {va vc vu vf : Value}
    (hw : w' = (((((w.setCell ⟨a, 4, none⟩ v1).setCell ⟨c, 3, none⟩ v2).putObj bm ob).setCell ⟨bu, t, none⟩ (.int .i64 u)).setCell ⟨bp, 9, none⟩ (.int .i64 f)).drewN k)
    (hm : MapRel Tryz.prog 9 w' bm R') (ha : w.cell? ⟨a, 4, none⟩ = some va) (hc : w.cell? ⟨c, 3, none⟩ = some vc) (hu : w.cell? ⟨bu, t, none⟩ = some vu) (hp : w.cell? ⟨bp, 9, none⟩ = some vf)
    (nab : a ≠ bm) (ncb : c ≠ bm) (nub : bu ≠ bm) (npb : bp ≠ bm) (nau : a ≠ bu) (ncu : c ≠ bu) (npu : bp ≠ bu) : Upd w w' a c bu t bp bm v1 v2 u f R' := by
  have e : ∀ b o, w'.cell? ⟨b, o, none⟩ = (((((w.setCell ⟨a, 4, none⟩ v1).setCell ⟨c, 3, none⟩ v2).putObj bm ob).setCell ⟨bu, t, none⟩ (.int .i64 u)).setCell ⟨bp, 9, none⟩ (.int .i64 f)).cell? ⟨b, o, none⟩ := fun b o => by rw [hw, cell_drewN]
  refine ⟨?_, ?_, ?_, ?_, ?_, ?_, ?_, hm⟩
  · rw [hw]
    have k0 := ((((((Keep.refl (fun k => k = a ∨ k = c ∨ k = bu ∨ k = bp ∨ k = bm) w).setCell (p := ⟨a, 4, none⟩) v1 (by simp)).setCell (p := ⟨c, 3, none⟩) v2 (by simp)).putObj (b := bm) ob (by simp)).setCell (p := ⟨bu, t, none⟩) (.int .i64 u) (by simp)).setCell (p := ⟨bp, 9, none⟩) (.int .i64 f) (by simp))
    exact k0.drewN k
  · rw [e, cell_set_off (by decide), cell_set_blk nau.symm, cell_put nab, cell_set_off (by decide)]
    exact cell_set_same ha
  · rw [e, cell_set_off (by decide), cell_set_blk ncu.symm, cell_put ncb]
    exact cell_set_same (by rw [cell_set_off (by decide)]; exact hc)
  · rw [e, cell_set_blk npu]
    exact cell_set_same (by rw [cell_put nub, cell_set_blk ncu, cell_set_blk nau]; exact hu)
  · rw [e]
    exact cell_set_same (by rw [cell_set_blk npu.symm, cell_put npb, cell_set_off (by decide), cell_set_off (by decide)]; exact hp)
  · intro b o hb h1 h2 h3 h4
    have n4 : bp ≠ b ∨ 9 ≠ o := by
      by_cases hx : bp = b
      · right; omega
      · left; exact hx
    have n3 : bu ≠ b ∨ t ≠ o := by
      by_cases hx : bu = b
      · right; omega
      · left; exact hx
    have n2 : c ≠ b ∨ 3 ≠ o := by
      by_cases hx : c = b
      · right; omega
      · left; exact hx
    have n1 : a ≠ b ∨ 4 ≠ o := by
      by_cases hx : a = b
      · right; omega
      · left; exact hx
    rw [e, cell_set_ne n4, cell_set_ne n3, cell_put hb, cell_set_ne n2, cell_set_ne n1]
  · intro b o hb
    rw [hw, frozen_drewN, World.frozen?_setCell, World.frozen?_setCell, frozen_put hb, World.frozen?_setCell, World.frozen?_setCell]

/-! ### the pool -/
def usedOf (L : List E) (t : Nat) : Int := (L.map fun e => if e.t = t then e.z else 0).sum
def tot (L : List E) : Int := (L.map (·.z)).sum

structure Gh where
  bp : Nat
  bs : Nat
  bu : Nat
  bm : Nat
  sc : Nat
  uc : Nat
  cap : Int
  sh : List Int
  L : List Ent

abbrev Gh.es (g : Gh) : List E := g.L.map Ent.e
abbrev Gh.bl (g : Gh) : List Nat := g.L.map Ent.b

/-- The fields of an entry. -/
structure EntIs (w : World) (x : Ent) : Prop where
  c0 : w.cell? ⟨x.b, 0, none⟩ = some (.string x.e.key)
  c1 : w.cell? ⟨x.b, 1, none⟩ = some (.int .i64 x.e.t)
  c2 : w.cell? ⟨x.b, 2, none⟩ = some (.int .i64 x.e.z)
  fz : ∀ o, w.frozen? ⟨x.b, o, none⟩ = false

structure PoolIs (w : World) (g : Gh) : Prop where
  c5 : w.cell? ⟨g.bp, 5, none⟩ = some (.int .i64 g.cap)
  c6 : w.cell? ⟨g.bp, 6, none⟩ = some (.slice (some ⟨g.bs, 0, none⟩) g.sh.length g.sc)
  c7 : w.cell? ⟨g.bp, 7, none⟩ = some (.slice (some ⟨g.bu, 0, none⟩) g.sh.length g.uc)
  c8 : w.cell? ⟨g.bp, 8, none⟩ = some (.map (some g.bm))
  c9 : w.cell? ⟨g.bp, 9, none⟩ = some (.int .i64 (g.cap - tot g.es))
  fp : ∀ o, w.frozen? ⟨g.bp, o, none⟩ = false
  fu : ∀ o, w.frozen? ⟨g.bu, o, none⟩ = false
  sh : ∀ (i : Nat) (x : Int), g.sh[i]? = some x → w.cell? ⟨g.bs, i, none⟩ = some (.int .i64 x)
  us : ∀ i, i < g.sh.length → w.cell? ⟨g.bu, i, none⟩ = some (.int .i64 (usedOf g.es i))
  links : Links w (g.bp :: g.bl ++ [g.bp])
  ents : ∀ x ∈ g.L, EntIs w x
  map : MapRel Tryz.prog 9 w g.bm (fun k v => ∃ x ∈ g.L, k = .string x.e.key ∧ v = ptr x.b)
  nd : (g.bp :: g.bs :: g.bu :: g.bl).Nodup
  keys : (g.es.map E.key).Nodup
  ks : ∀ x ∈ g.es, x.key.size ≤ maxLen
  rng : ∀ x ∈ g.es, x.t < g.sh.length ∧ 1 ≤ x.z
  n0 : 0 < g.sh.length
  n8 : g.sh.length ≤ 8
  cap : g.cap ≤ 1000000
  le : tot g.es ≤ g.cap
  shr : ∀ x ∈ g.sh, 0 ≤ x ∧ x ≤ 1000000

/-- The blocks of a pool. -/
def Gh.foot (g : Gh) (k : Nat) : Prop := k = g.bp ∨ k = g.bs ∨ k = g.bu ∨ k = g.bm ∨ k ∈ g.bl

theorem EntIs.keep {w w' : World} {x : Ent} {A : Nat → Prop} (h : EntIs w x) (k : Keep A w w') (hA : ¬ A x.b) : EntIs w' x :=
  ⟨k.cell h.c0 hA, k.cell h.c1 hA, k.cell h.c2 hA, fun o => (k.frozen (blk_lt h.c0) hA o).trans (h.fz o)⟩

theorem mem_ring {x : Nat} {g : Gh} (h : x ∈ g.bp :: g.bl ++ [g.bp]) : x = g.bp ∨ x ∈ g.bl := by
  simp only [List.cons_append, List.mem_cons, List.mem_append, List.not_mem_nil, or_false] at h
  rcases h with h | h | h
  · exact .inl h
  · exact .inr h
  · exact .inl h

theorem PoolIs.keep {w w' : World} {g : Gh} {A : Nat → Prop} (h : PoolIs w g) (k : Keep A w w') (hA : ∀ i, g.foot i → ¬ A i) : PoolIs w' g := by
  have fb : ∀ b, g.foot b → ∀ o v, w.cell? ⟨b, o, none⟩ = some v → w'.cell? ⟨b, o, none⟩ = some v := fun b hb o v hc => k.cell hc (hA b hb)
  have hp : g.foot g.bp := .inl rfl
  have hs : g.foot g.bs := .inr (.inl rfl)
  have hu : g.foot g.bu := .inr (.inr (.inl rfl))
  have hm : g.foot g.bm := .inr (.inr (.inr (.inl rfl)))
  have hl : ∀ b ∈ g.bl, g.foot b := fun b hb => .inr (.inr (.inr (.inr hb)))
  have ring : ∀ b ∈ g.bp :: g.bl ++ [g.bp], b < w.heap.size ∧ ¬ A b := fun b hb => by
    rcases mem_ring hb with rfl | hb
    · exact ⟨World.block_lt_of_cell? _ _ h.c5, hA _ hp⟩
    · obtain ⟨x, hx, rfl⟩ := List.mem_map.1 hb
      exact ⟨World.block_lt_of_cell? _ _ (h.ents x hx).c0, hA _ (hl _ hb)⟩
  refine { h with c5 := fb _ hp _ _ h.c5, c6 := fb _ hp _ _ h.c6, c7 := fb _ hp _ _ h.c7, c8 := fb _ hp _ _ h.c8, c9 := fb _ hp _ _ h.c9, fp := fun o => ?_, fu := fun o => ?_, sh := fun i x hx => fb _ hs _ _ (h.sh i x hx), us := fun i hi => fb _ hu _ _ (h.us i hi), links := ?_, ents := fun x hx => (h.ents x hx).keep k (hA _ (hl _ (List.mem_map_of_mem hx))), map := h.map.of_heap (k.block _ h.map.lt (hA _ hm)) }
  · exact (k.frozen (blk_lt h.c5) (hA _ hp) o).trans (h.fp o)
  · exact (k.frozen (blk_lt (h.us 0 h.n0)) (hA _ hu) o).trans (h.fu o)
  · refine links_frame _ (fun a ha => ?_) (fun b hb => ?_) h.links
    · obtain ⟨h1, h2⟩ := ring a (List.dropLast_subset _ ha)
      exact World.cell?_of_block (w := w) (a := ⟨a, 4, none⟩) (k.block _ h1 h2)
    · obtain ⟨h1, h2⟩ := ring b (List.mem_of_mem_tail hb)
      exact World.cell?_of_block (w := w) (a := ⟨b, 3, none⟩) (k.block _ h1 h2)

theorem PoolIs.drew {w : World} {g : Gh} (h : PoolIs w g) : PoolIs w.drew g := h.keep (A := fun _ => False) (Keep.refl _ w).drew (fun _ _ h => h)
theorem PoolIs.alloc {w : World} {g : Gh} (h : PoolIs w g) (o : Obj) : PoolIs (w.alloc o) g := h.keep (A := fun _ => False) ((Keep.refl _ w).alloc o) (fun _ _ h => h)

theorem PoolIs.foot_lt {w : World} {g : Gh} (h : PoolIs w g) {k : Nat} (hk : g.foot k) : k < w.heap.size := by
  rcases hk with rfl | rfl | rfl | rfl | hk
  · exact World.block_lt_of_cell? _ _ h.c5
  · obtain ⟨x, hx⟩ : ∃ x, g.sh[0]? = some x := ⟨_, List.getElem?_eq_getElem h.n0⟩
    exact World.block_lt_of_cell? _ _ (h.sh 0 x hx)
  · exact World.block_lt_of_cell? _ _ (h.us 0 h.n0)
  · exact h.map.lt
  · obtain ⟨x, hx, rfl⟩ := List.mem_map.1 hk
    exact World.block_lt_of_cell? _ _ (h.ents x hx).c0

/-- The one lemma on a turn of the pool: the list L becomes L'. -/
theorem PoolIs.turn {w w' : World} {g : Gh} {a c t : Nat} {v1 v2 : Value} {u f : Int} {R' : Value → Value → Prop} (L' : List Ent) (h : PoolIs w g) (hU : Upd w w' a c g.bu t g.bp g.bm v1 v2 u f R')
    (has : a ≠ g.bs) (hcs : c ≠ g.bs) (hau : a ≠ g.bu) (hcu : c ≠ g.bu)
    (hlinks : Links w' (g.bp :: L'.map Ent.b ++ [g.bp])) (hents : ∀ x ∈ L', EntIs w x)
    (hused : ∀ i, i < g.sh.length → usedOf (L'.map Ent.e) i = if i = t then u else usedOf g.es i) (hf : f = g.cap - tot (L'.map Ent.e))
    (hR : ∀ k v, R' k v ↔ ∃ x ∈ L', k = .string x.e.key ∧ v = ptr x.b)
    (hnd : (g.bp :: g.bs :: g.bu :: L'.map Ent.b).Nodup) (hkeys : ((L'.map Ent.e).map E.key).Nodup) (hks : ∀ x ∈ L'.map Ent.e, x.key.size ≤ maxLen) (hrng : ∀ x ∈ L'.map Ent.e, x.t < g.sh.length ∧ 1 ≤ x.z) (hle : tot (L'.map Ent.e) ≤ g.cap) :
    PoolIs w' { g with L := L' } := by
  have hpm : g.bp ≠ g.bm := h.map.not_cell h.c5
  have hum : g.bu ≠ g.bm := h.map.not_cell (h.us 0 h.n0)
  obtain ⟨x0, hx0⟩ : ∃ x, g.sh[0]? = some x := ⟨_, List.getElem?_eq_getElem h.n0⟩
  have hsm : g.bs ≠ g.bm := h.map.not_cell (h.sh 0 x0 hx0)
  simp only [List.nodup_cons, List.mem_cons, not_or] at hnd
  obtain ⟨⟨hps, hpu, hpL⟩, ⟨hsu, hsL⟩, huL, hLL⟩ := hnd
  have fp : ∀ o v, o ≠ 3 → o ≠ 4 → o ≠ 9 → w.cell? ⟨g.bp, o, none⟩ = some v → w'.cell? ⟨g.bp, o, none⟩ = some v := fun o v h3 h4 h9 hc =>
    (hU.oth g.bp o hpm (by omega) (by omega) (fun e => hpu e.1) (by omega)).trans hc
  refine ⟨fp 5 _ (by decide) (by decide) (by decide) h.c5, fp 6 _ (by decide) (by decide) (by decide) h.c6, fp 7 _ (by decide) (by decide) (by decide) h.c7, fp 8 _ (by decide) (by decide) (by decide) h.c8,
    by rw [hU.c4, hf], fun o => (hU.frz _ _ hpm).trans (h.fp o), fun o => (hU.frz _ _ hum).trans (h.fu o), fun i x hx => ?_, fun i hi => ?_, hlinks, fun x hx => ?_, hU.map.congr (fun k v => (hR k v).symm), ?_, hkeys, hks, hrng, h.n0, h.n8, h.cap, hle, h.shr⟩
  · exact (hU.oth g.bs i hsm (fun e => has e.1.symm) (fun e => hcs e.1.symm) (fun e => hsu e.1) (fun e => hps e.1.symm)).trans (h.sh i x hx)
  · show w'.cell? ⟨g.bu, i, none⟩ = some (.int .i64 (usedOf (L'.map Ent.e) i))
    rw [hused i hi]
    by_cases hit : i = t
    · subst hit; rw [if_pos rfl]; exact hU.c3
    · rw [if_neg hit]
      exact (hU.oth g.bu i hum (fun e => hau e.1.symm) (fun e => hcu e.1.symm) (fun e => hit e.2) (fun e => hpu e.1.symm)).trans (h.us i hi)
  · have hx' := hents x hx
    have hxb : x.b ∈ L'.map Ent.b := List.mem_map_of_mem hx
    have hxm : x.b ≠ g.bm := h.map.not_cell hx'.c0
    have hxu : x.b ≠ g.bu := fun e => huL (e ▸ hxb)
    have hxp : x.b ≠ g.bp := fun e => hpL (e ▸ hxb)
    exact ⟨(hU.oth _ _ hxm (by omega) (by omega) (fun e => hxu e.1) (fun e => hxp e.1)).trans hx'.c0, (hU.oth _ _ hxm (by omega) (by omega) (fun e => hxu e.1) (fun e => hxp e.1)).trans hx'.c1,
      (hU.oth _ _ hxm (by omega) (by omega) (fun e => hxu e.1) (fun e => hxp e.1)).trans hx'.c2, fun o => (hU.frz _ _ hxm).trans (hx'.fz o)⟩
  · simp only [List.nodup_cons, List.mem_cons, not_or]
    exact ⟨⟨hps, hpu, hpL⟩, ⟨hsu, hsL⟩, huL, hLL⟩

end Go.Proofs.YtcnpncndecjahaaGreatDoor.Mem

/-
  take and back, over a pool.
-/
namespace Go.Proofs.YtcnpncndecjahaaGreatDoor.Mem
open Go.RowKit

theorem usedOf_append (X Y : List E) (t : Nat) : usedOf (X ++ Y) t = usedOf X t + usedOf Y t := by simp [usedOf]
theorem usedOf_cons (x : E) (Y : List E) (t : Nat) : usedOf (x :: Y) t = (if x.t = t then x.z else 0) + usedOf Y t := by simp [usedOf]
theorem tot_append (X Y : List E) : tot (X ++ Y) = tot X + tot Y := by simp [tot]
theorem tot_cons (x : E) (Y : List E) : tot (x :: Y) = x.z + tot Y := by simp [tot]
theorem usedOf_nil (t : Nat) : usedOf [] t = 0 := rfl
theorem tot_nil : tot [] = 0 := rfl
theorem tot_nonneg : ∀ (L : List E), (∀ x ∈ L, 1 ≤ x.z) → 0 ≤ tot L
  | [], _ => by simp [tot]
  | x :: r, h => by rw [tot_cons]; have := h x (by simp); have := tot_nonneg r (fun y hy => h y (by simp [hy])); omega
theorem usedOf_nonneg : ∀ (L : List E) (t : Nat), (∀ x ∈ L, 1 ≤ x.z) → 0 ≤ usedOf L t
  | [], _, _ => by simp [usedOf]
  | x :: r, t, h => by rw [usedOf_cons]; have := h x (by simp); have := usedOf_nonneg r t (fun y hy => h y (by simp [hy])); split <;> omega
theorem usedOf_le_tot : ∀ (L : List E) (t : Nat), (∀ x ∈ L, 1 ≤ x.z) → usedOf L t ≤ tot L
  | [], _, _ => by simp [usedOf, tot]
  | x :: r, t, h => by rw [usedOf_cons, tot_cons]; have := h x (by simp); have := usedOf_le_tot r t (fun y hy => h y (by simp [hy])); split <;> omega
theorem usedOf_mem_le : ∀ (L : List E) (x : E), (∀ x ∈ L, 1 ≤ x.z) → x ∈ L → x.z ≤ usedOf L x.t
  | y :: r, x, h, hx => by
    rw [usedOf_cons]
    have h1 := h y (by simp)
    have h2 := usedOf_nonneg r x.t (fun y hy => h y (by simp [hy]))
    rcases List.mem_cons.1 hx with rfl | hx
    · rw [if_pos rfl]; omega
    · have := usedOf_mem_le r x (fun y hy => h y (by simp [hy])) hx
      split <;> omega

def lastB (bp : Nat) (X : List Ent) : Nat := (bp :: X.map Ent.b).getLast (by simp)
def headB (bp : Nat) (Y : List Ent) : Nat := (Y.map Ent.b ++ [bp]).head (by simp)
theorem lastB_eq (bp : Nat) (X : List Ent) : ∃ A, bp :: X.map Ent.b = A ++ [lastB bp X] := ⟨_, (List.dropLast_concat_getLast (by simp)).symm⟩
theorem headB_eq (bp : Nat) (Y : List Ent) : ∃ C, Y.map Ent.b ++ [bp] = headB bp Y :: C := ⟨_, (List.cons_head_tail (by simp)).symm⟩
theorem lastB_mem (bp : Nat) (X : List Ent) : lastB bp X = bp ∨ lastB bp X ∈ X.map Ent.b := by
  exact List.mem_cons.1 (List.getLast_mem (l := bp :: X.map Ent.b) (by simp))
theorem headB_mem (bp : Nat) (Y : List Ent) : headB bp Y = bp ∨ headB bp Y ∈ Y.map Ent.b := by
  have := List.head_mem (l := Y.map Ent.b ++ [bp]) (by simp)
  simp only [List.mem_append, List.mem_cons, List.not_mem_nil, or_false] at this
  exact this.symm

/-- A detached entry that still knows its neighbours. -/
structure Hook (w : World) (bp : Nat) (X : List Ent) (x : Ent) (Y : List Ent) : Prop where
  e : EntIs w x
  c3 : w.cell? ⟨x.b, 3, none⟩ = some (ptr (lastB bp X))
  c4 : w.cell? ⟨x.b, 4, none⟩ = some (ptr (headB bp Y))

theorem Hook.keep {w w' : World} {bp : Nat} {X : List Ent} {x : Ent} {Y : List Ent} {A : Nat → Prop} (h : Hook w bp X x Y) (k : Keep A w w') (hA : ¬ A x.b) : Hook w' bp X x Y :=
  ⟨h.e.keep k hA, k.cell h.c3 hA, k.cell h.c4 hA⟩

theorem PoolIs.path {w : World} {g : Gh} (h : PoolIs w g) {X Y : List Ent} {x : Ent} (hL : g.L = X ++ x :: Y) {A C : List Nat} {a c : Nat} (hA : g.bp :: X.map Ent.b = A ++ [a]) (hC : Y.map Ent.b ++ [g.bp] = c :: C) :
    Links w (A ++ a :: x.b :: c :: C) := by
  have e : g.bp :: g.bl ++ [g.bp] = A ++ a :: x.b :: c :: C := by
    rw [← hC, Gh.bl, hL]
    simp only [List.map_append, List.map_cons]
    have : g.bp :: (X.map Ent.b ++ x.b :: Y.map Ent.b) ++ [g.bp] = (g.bp :: X.map Ent.b) ++ (x.b :: (Y.map Ent.b ++ [g.bp])) := by simp
    rw [this, hA]; simp
  rw [← e]; exact h.links

theorem PoolIs.hook {w : World} {g : Gh} (h : PoolIs w g) {X Y : List Ent} {x : Ent} (hL : g.L = X ++ x :: Y) : Hook w g.bp X x Y := by
  obtain ⟨A, hA⟩ := lastB_eq g.bp X
  obtain ⟨C, hC⟩ := headB_eq g.bp Y
  obtain ⟨_, l1, l2⟩ := links_split (h.path hL hA hC)
  exact ⟨h.ents x (by rw [hL]; simp), l1.2, l2.1.1⟩

theorem wrap_in {n : Int} (h1 : -9223372036854775808 ≤ n) (h2 : n ≤ 9223372036854775807) : IntKind.i64.wrap n = n := IntWalk.i64_in n ⟨h1, h2⟩

/-- Blocks of the ring. -/
theorem ring_cells {w : World} {g : Gh} (h : PoolIs w g) {b : Nat} (hb : b = g.bp ∨ b ∈ g.bl) : (∃ v, w.cell? ⟨b, 4, none⟩ = some v) ∧ (∃ v, w.cell? ⟨b, 3, none⟩ = some v) ∧ (∀ o, w.frozen? ⟨b, o, none⟩ = false) ∧ b ≠ g.bs ∧ b ≠ g.bu ∧ b ≠ g.bm := by
  have hnd := h.nd
  simp only [List.nodup_cons, List.mem_cons, not_or] at hnd
  obtain ⟨⟨hps, hpu, hpL⟩, ⟨hsu, hsL⟩, huL, hLL⟩ := hnd
  rcases hb with rfl | hb
  · have h4 : ∃ v, w.cell? ⟨g.bp, 4, none⟩ = some v := by
      obtain ⟨c, C, hC⟩ := head_of g.bp g.bl
      have hl := h.links
      rw [List.cons_append, hC] at hl
      exact ⟨_, hl.1.1⟩
    have h3 : ∃ v, w.cell? ⟨g.bp, 3, none⟩ = some v := by
      obtain ⟨A, a, hA⟩ := last_of g.bp g.bl
      have hl := h.links
      rw [hA, List.append_assoc] at hl
      exact ⟨_, (links_split (C := []) hl).2.1.2⟩
    exact ⟨h4, h3, h.fp, hps, hpu, h.map.not_cell h.c5⟩
  · obtain ⟨x, hx, rfl⟩ := List.mem_map.1 hb
    obtain ⟨X, Y, hL⟩ := List.append_of_mem hx
    have hk := h.hook hL
    exact ⟨⟨_, hk.c4⟩, ⟨_, hk.c3⟩, hk.e.fz, fun e => hsL (e ▸ hb), fun e => huL (e ▸ hb), h.map.not_cell hk.e.c0⟩

theorem bl_split {L X Y : List Ent} {x : Ent} (hL : L = X ++ x :: Y) : L.map Ent.b = X.map Ent.b ++ x.b :: Y.map Ent.b := by rw [hL]; simp

theorem take_pool (w : World) (g : Gh) (X Y : List Ent) (x : Ent) (h : PoolIs w g) (hL : g.L = X ++ x :: Y) :
    Calls Tryz.prog 40 #[ptr g.bp, ptr x.b] w fun e w' => e = .returned (.tuple #[]) ∧ PoolIs w' { g with L := X ++ Y } ∧ Keep (Gh.foot { g with L := X ++ Y }) w w' := by
  obtain ⟨A, hA⟩ := lastB_eq g.bp X
  obtain ⟨C, hC⟩ := headB_eq g.bp Y
  have hk := h.hook hL
  have hpath := h.path hL hA hC
  have hnd := h.nd
  simp only [List.nodup_cons, List.mem_cons, not_or] at hnd
  obtain ⟨⟨hps, hpu, hpL⟩, ⟨hsu, hsL⟩, huL, hLL⟩ := hnd
  have hbl : g.bl = X.map Ent.b ++ x.b :: Y.map Ent.b := bl_split hL
  have hx : x ∈ g.L := by rw [hL]; simp
  have hxe : x.e ∈ g.es := List.mem_map_of_mem hx
  have hxb : x.b ∈ g.bl := List.mem_map_of_mem hx
  obtain ⟨ht, hz⟩ := h.rng x.e hxe
  have har : lastB g.bp X = g.bp ∨ lastB g.bp X ∈ g.bl := (lastB_mem g.bp X).imp id (fun h => by rw [hbl]; simp only [List.mem_append]; exact .inl h)
  have hcr : headB g.bp Y = g.bp ∨ headB g.bp Y ∈ g.bl := (headB_mem g.bp Y).imp id (fun h => by rw [hbl]; simp only [List.mem_append, List.mem_cons]; exact .inr (.inr h))
  obtain ⟨⟨va, hva⟩, _, hfa, has, hau, ham⟩ := ring_cells h har
  obtain ⟨_, ⟨vc, hvc⟩, hfc, hcs, hcu, hcm⟩ := ring_cells h hcr
  have hum := h.map.not_cell (h.us _ ht)
  have hxu : x.b ≠ g.bu := fun e => huL (e ▸ hxb)
  have hpos : ∀ y ∈ g.es, 1 ≤ y.z := fun y hy => (h.rng y hy).2
  have htn := tot_nonneg _ hpos
  have hun := usedOf_nonneg _ x.e.t hpos
  have hul := usedOf_le_tot _ x.e.t hpos
  have hzu := usedOf_mem_le _ x.e hpos hxe
  have hle := h.le; have hcap := h.cap
  have hes : g.es = X.map Ent.e ++ x.e :: Y.map Ent.e := by simp [Gh.es, hL]
  refine (take_any g.bp x.b (lastB g.bp X) (headB g.bp Y) g.bm g.bu g.sh.length g.uc x.e.t x.e.key va vc (usedOf g.es x.e.t) (g.cap - tot g.es) x.e.z (-x.e.z) (usedOf g.es x.e.t - x.e.z) (g.cap - tot g.es + x.e.z) _ w
    hk.c3 hk.c4 hva hvc (hfa _) (hfc _) h.c8 hk.e.c0 (h.ks _ hxe) h.map ht h.c7 h.c9 (h.fp _) hk.e.c1 hk.e.c2 (h.us _ ht) (h.fu _) hpu hxu hau hcu
    (by rw [wrap_in (by omega) (by omega)]; omega) (by rw [wrap_in (by omega) (by omega)]; omega) (by rw [wrap_in (by omega) (by omega)]; omega)).mono ?_
  rintro e w' ⟨rfl, ob, k, hw', hm'⟩
  have hU := upd_of hw' hm' hva hvc (h.us _ ht) h.c9 ham hcm hum (h.map.not_cell h.c5) hau hcu hpu
  refine ⟨rfl, ?_, hU.keep.mono ?_⟩
  · rw [hbl] at hLL hpL huL hsL
    simp only [List.mem_append, List.mem_cons, not_or] at hpL huL hsL
    rw [List.nodup_append] at hLL
    obtain ⟨nX, nY, nXY⟩ := hLL
    rw [List.nodup_cons] at nY
    refine h.turn (X ++ Y) hU has hcs hau hcu ?_ (fun y hy => h.ents y (by rw [hL]; simp at hy ⊢; rcases hy with h | h <;> simp [h])) ?_ ?_ ?_ ?_ ?_ ?_ ?_ ?_
    · -- the links
      have e : g.bp :: (X ++ Y).map Ent.b ++ [g.bp] = A ++ lastB g.bp X :: headB g.bp Y :: C := by
        have : g.bp :: (X ++ Y).map Ent.b ++ [g.bp] = (g.bp :: X.map Ent.b) ++ (Y.map Ent.b ++ [g.bp]) := by simp
        rw [this, hA, hC]; simp
      rw [e]
      obtain ⟨l1, _, l2⟩ := links_split hpath
      have l3 := l2.2
      have nA : (A ++ [lastB g.bp X]).Nodup := by rw [← hA]; exact List.nodup_cons.2 ⟨hpL.1, nX⟩
      have nC : (headB g.bp Y :: C).Nodup := by
        rw [← hC, List.nodup_append]
        exact ⟨nY.2, by simp, fun a ha b hb e => by simp at hb; subst hb; subst e; exact hpL.2.2 ha⟩
      have oth4 : ∀ b, (b = g.bp ∨ b ∈ g.bl) → b ≠ lastB g.bp X → w'.cell? ⟨b, 4, none⟩ = w.cell? ⟨b, 4, none⟩ := fun b hb hne => by
        obtain ⟨_, _, _, hbs, hbu, hbm⟩ := ring_cells h hb
        exact hU.oth b 4 hbm (fun e => hne e.1) (by omega) (fun e => hbu e.1) (by omega)
      have oth3 : ∀ b, (b = g.bp ∨ b ∈ g.bl) → b ≠ headB g.bp Y → w'.cell? ⟨b, 3, none⟩ = w.cell? ⟨b, 3, none⟩ := fun b hb hne => by
        obtain ⟨_, _, _, hbs, hbu, hbm⟩ := ring_cells h hb
        exact hU.oth b 3 hbm (by omega) (fun e => hne e.1) (fun e => hbu e.1) (by omega)
      have inA : ∀ b ∈ A ++ [lastB g.bp X], b = g.bp ∨ b ∈ X.map Ent.b := fun b hb => by rw [← hA] at hb; simpa using hb
      have inC : ∀ b ∈ headB g.bp Y :: C, b = g.bp ∨ b ∈ Y.map Ent.b := fun b hb => by
        rw [← hC] at hb; simp only [List.mem_append, List.mem_cons, List.not_mem_nil, or_false] at hb; exact hb.symm
      have upX : ∀ b, (b = g.bp ∨ b ∈ X.map Ent.b) → (b = g.bp ∨ b ∈ g.bl) := fun b hb => hb.imp id (fun h => by rw [hbl]; simp only [List.mem_append]; exact .inl h)
      have upY : ∀ b, (b = g.bp ∨ b ∈ Y.map Ent.b) → (b = g.bp ∨ b ∈ g.bl) := fun b hb => hb.imp id (fun h => by rw [hbl]; simp only [List.mem_append, List.mem_cons]; exact .inr (.inr h))
      refine links_join (links_frame _ (fun b hb => ?_) (fun b hb => ?_) l1) hU.c1 hU.c2 (links_frame _ (fun b hb => ?_) (fun b hb => ?_) l3)
      · rw [List.dropLast_concat] at hb
        refine oth4 b (upX b (inA b (by simp [hb]))) (fun e => ?_)
        rw [List.nodup_append] at nA
        exact nA.2.2 b hb _ (by simp) e
      · have hbA : b ∈ X.map Ent.b := by rw [← hA] at hb; simpa using hb
        refine oth3 b (upX b (.inr hbA)) (fun e => ?_)
        rcases headB_mem g.bp Y with h1 | h1
        · rw [h1] at e; exact hpL.1 (e ▸ hbA)
        · exact nXY b hbA b (List.mem_cons_of_mem _ (e ▸ h1)) rfl
      · have hbC : b ∈ Y.map Ent.b := by
          rw [← hC, List.dropLast_concat] at hb; exact hb
        refine oth4 b (upY b (.inr hbC)) (fun e => ?_)
        rcases lastB_mem g.bp X with h1 | h1
        · rw [h1] at e; exact hpL.2.2 (e ▸ hbC)
        · exact nXY _ (e ▸ h1) b (List.mem_cons_of_mem _ hbC) rfl
      · simp only [List.tail_cons] at hb
        refine oth3 b (upY b (inC b (by simp [hb]))) (fun e => ?_)
        rw [List.nodup_cons] at nC
        exact nC.1 (e ▸ hb)
    · intro i _
      rw [List.map_append, hes, usedOf_append, usedOf_append, usedOf_cons, usedOf_append, usedOf_cons, if_pos rfl]
      by_cases hi : i = x.e.t
      · rw [if_pos hi, hi]; omega
      · rw [if_neg hi, if_neg (fun e => hi e.symm)]; omega
    · rw [List.map_append, hes, tot_append, tot_append, tot_cons]; omega
    · intro k v
      have hkeys := h.keys
      rw [hes, List.map_append, List.map_cons, List.nodup_append, List.nodup_cons] at hkeys
      obtain ⟨kX, ⟨kx, kY⟩, kXY⟩ := hkeys
      rw [hL]
      constructor
      · rintro ⟨hne, y, hy, rfl, rfl⟩
        refine ⟨y, ?_, rfl, rfl⟩
        simp only [List.mem_append, List.mem_cons] at hy ⊢
        rcases hy with hy | rfl | hy
        · exact .inl hy
        · exact absurd rfl hne
        · exact .inr hy
      · rintro ⟨y, hy, rfl, rfl⟩
        simp only [List.mem_append] at hy
        refine ⟨fun e => ?_, y, by simp only [List.mem_append, List.mem_cons]; exact hy.imp id .inr, rfl, rfl⟩
        have ek : y.e.key = x.e.key := by simpa using e
        rcases hy with hy | hy
        · exact kXY y.e.key (List.mem_map_of_mem (List.mem_map_of_mem hy)) x.e.key (by simp) ek
        · exact kx (ek ▸ List.mem_map_of_mem (List.mem_map_of_mem hy))
    · simp only [List.nodup_cons, List.mem_cons, not_or, List.map_append, List.mem_append]
      refine ⟨⟨hps, hpu, hpL.1, hpL.2.2⟩, ⟨hsu, hsL.1, hsL.2.2⟩, ⟨huL.1, huL.2.2⟩, ?_⟩
      rw [List.nodup_append]
      exact ⟨nX, nY.2, fun a ha b hb => nXY a ha b (List.mem_cons_of_mem _ hb)⟩
    · have hkeys := h.keys
      rw [hes, List.map_append, List.map_cons, List.nodup_append, List.nodup_cons] at hkeys
      obtain ⟨kX, ⟨kx, kY⟩, kXY⟩ := hkeys
      rw [List.map_append, List.map_append, List.nodup_append]
      exact ⟨kX, kY, fun a ha b hb => kXY a ha b (List.mem_cons_of_mem _ hb)⟩
    · intro y hy; refine h.ks y ?_; rw [hes]; simp only [List.map_append, List.mem_append, List.mem_cons] at hy ⊢; exact hy.imp id .inr
    · intro y hy; refine h.rng y ?_; rw [hes]; simp only [List.map_append, List.mem_append, List.mem_cons] at hy ⊢; exact hy.imp id .inr
    · have : tot ((X ++ Y).map Ent.e) = tot g.es - x.e.z := by rw [List.map_append, hes, tot_append, tot_append, tot_cons]; omega
      rw [this]; omega
  · rintro k (rfl | rfl | rfl | rfl | rfl)
    · rcases lastB_mem g.bp X with h1 | h1
      · exact .inl h1
      · exact .inr (.inr (.inr (.inr (by show _ ∈ (X ++ Y).map Ent.b; rw [List.map_append, List.mem_append]; exact .inl h1))))
    · rcases headB_mem g.bp Y with h1 | h1
      · exact .inl h1
      · exact .inr (.inr (.inr (.inr (by show _ ∈ (X ++ Y).map Ent.b; rw [List.map_append, List.mem_append]; exact .inr h1))))
    · exact .inr (.inr (.inl rfl))
    · exact .inl rfl
    · exact .inr (.inr (.inr (.inl rfl)))

/-- The two parts of a ring around a gap, when only the gap's two ends have turned. -/
theorem segs {w w' : World} {bp : Nat} {X Y A C : List Nat} {a c : Nat} (hA : bp :: X = A ++ [a]) (hC : Y ++ [bp] = c :: C) (hn : (bp :: (X ++ Y)).Nodup)
    (o4 : ∀ b, b ∈ bp :: (X ++ Y) → b ≠ a → w'.cell? ⟨b, 4, none⟩ = w.cell? ⟨b, 4, none⟩) (o3 : ∀ b, b ∈ bp :: (X ++ Y) → b ≠ c → w'.cell? ⟨b, 3, none⟩ = w.cell? ⟨b, 3, none⟩)
    (l1 : Links w (A ++ [a])) (l2 : Links w (c :: C)) : Links w' (A ++ [a]) ∧ Links w' (c :: C) := by
  simp only [List.nodup_cons, List.mem_append, not_or, List.nodup_append] at hn
  obtain ⟨⟨hpX, hpY⟩, nX, nY, nXY⟩ := hn
  have nA : (A ++ [a]).Nodup := by rw [← hA]; exact List.nodup_cons.2 ⟨hpX, nX⟩
  have nC : (c :: C).Nodup := by
    rw [← hC, List.nodup_append]
    exact ⟨nY, by simp, fun a ha b hb e => by simp at hb; subst hb; subst e; exact hpY ha⟩
  have ma : a = bp ∨ a ∈ X := by
    have : a ∈ bp :: X := by rw [hA]; simp
    simpa using this
  have mc : c = bp ∨ c ∈ Y := by
    have : c ∈ Y ++ [bp] := by rw [hC]; simp
    simp only [List.mem_append, List.mem_cons, List.not_mem_nil, or_false] at this
    exact this.symm
  refine ⟨links_frame _ (fun b hb => ?_) (fun b hb => ?_) l1, links_frame _ (fun b hb => ?_) (fun b hb => ?_) l2⟩
  · rw [List.dropLast_concat] at hb
    have hbX : b ∈ bp :: X := by rw [hA]; simp [hb]
    refine o4 b (by simp only [List.mem_cons, List.mem_append] at hbX ⊢; exact hbX.imp id .inl) (fun e => ?_)
    rw [List.nodup_append] at nA
    exact nA.2.2 b hb _ (by simp) e
  · have hbX : b ∈ X := by rw [← hA] at hb; simpa using hb
    refine o3 b (by simp [hbX]) (fun e => ?_)
    rcases mc with h1 | h1
    · rw [h1] at e; exact hpX (e ▸ hbX)
    · exact nXY b hbX b (e ▸ h1) rfl
  · have hbY : b ∈ Y := by rw [← hC, List.dropLast_concat] at hb; exact hb
    refine o4 b (by simp [hbY]) (fun e => ?_)
    rcases ma with h1 | h1
    · rw [h1] at e; exact hpY (e ▸ hbY)
    · exact nXY _ (e ▸ h1) b hbY rfl
  · simp only [List.tail_cons] at hb
    have hbY : b ∈ Y ++ [bp] := by rw [hC]; simp [hb]
    refine o3 b (by simp only [List.mem_cons, List.mem_append, List.not_mem_nil, or_false] at hbY ⊢; exact hbY.elim (fun h => .inr (.inr h)) .inl) (fun e => ?_)
    rw [List.nodup_cons] at nC
    exact nC.1 (e ▸ hb)

theorem path_split {w : World} {g : Gh} (h : PoolIs w g) {X Y : List Ent} (hL : g.L = X ++ Y) {A C : List Nat} {a c : Nat} (hA : g.bp :: X.map Ent.b = A ++ [a]) (hC : Y.map Ent.b ++ [g.bp] = c :: C) :
    Links w (A ++ a :: c :: C) := by
  have e : g.bp :: g.bl ++ [g.bp] = A ++ a :: c :: C := by
    rw [← hC, Gh.bl, hL, List.map_append]
    have : g.bp :: (X.map Ent.b ++ Y.map Ent.b) ++ [g.bp] = (g.bp :: X.map Ent.b) ++ (Y.map Ent.b ++ [g.bp]) := by simp
    rw [this, hA]; simp
  rw [← e]; exact h.links

theorem PoolIs.add {w w' : World} {g : Gh} {X Y : List Ent} {x : Ent} {R' : Value → Value → Prop} (h : PoolIs w g) (hL : g.L = X ++ Y) (hk : Hook w g.bp X x Y)
    (hxp : x.b ≠ g.bp) (hxs : x.b ≠ g.bs) (hxu : x.b ≠ g.bu) (hxL : x.b ∉ g.bl) (hxk : x.e.key ∉ g.es.map E.key) (hxks : x.e.key.size ≤ maxLen) (hxt : x.e.t < g.sh.length) (hxz : 1 ≤ x.e.z) (hfit : tot g.es + x.e.z ≤ g.cap)
    (hU : Upd w w' (lastB g.bp X) (headB g.bp Y) g.bu x.e.t g.bp g.bm (ptr x.b) (ptr x.b) (usedOf g.es x.e.t + x.e.z) (g.cap - tot g.es - x.e.z) R')
    (hR : ∀ k v, R' k v ↔ (k = .string x.e.key ∧ v = ptr x.b) ∨ (k ≠ .string x.e.key ∧ ∃ y ∈ g.L, k = .string y.e.key ∧ v = ptr y.b)) : PoolIs w' { g with L := X ++ x :: Y } := by
  obtain ⟨A, hA⟩ := lastB_eq g.bp X
  obtain ⟨C, hC⟩ := headB_eq g.bp Y
  have hpath := path_split h hL hA hC
  have hnd := h.nd
  simp only [List.nodup_cons, List.mem_cons, not_or] at hnd
  obtain ⟨⟨hps, hpu, hpL⟩, ⟨hsu, hsL⟩, huL, hLL⟩ := hnd
  have hbl : g.bl = X.map Ent.b ++ Y.map Ent.b := by rw [Gh.bl, hL, List.map_append]
  have hes : g.es = X.map Ent.e ++ Y.map Ent.e := by simp [Gh.es, hL]
  have har : lastB g.bp X = g.bp ∨ lastB g.bp X ∈ g.bl := (lastB_mem g.bp X).imp id (fun h => by rw [hbl]; simp only [List.mem_append]; exact .inl h)
  have hcr : headB g.bp Y = g.bp ∨ headB g.bp Y ∈ g.bl := (headB_mem g.bp Y).imp id (fun h => by rw [hbl]; simp only [List.mem_append]; exact .inr h)
  obtain ⟨_, _, hfa, has, hau, ham⟩ := ring_cells h har
  obtain ⟨_, _, hfc, hcs, hcu, hcm⟩ := ring_cells h hcr
  have hxm := h.map.not_cell hk.e.c0
  have hle := h.le; have hcap := h.cap
  have hxa : x.b ≠ lastB g.bp X := fun e => har.elim (fun h => hxp (e.trans h)) (fun h => hxL (e ▸ h))
  have hxc : x.b ≠ headB g.bp Y := fun e => hcr.elim (fun h => hxp (e.trans h)) (fun h => hxL (e ▸ h))
  refine h.turn (X ++ x :: Y) hU has hcs hau hcu ?_ ?_ ?_ ?_ ?_ ?_ ?_ ?_ ?_ ?_
  · have e : g.bp :: (X ++ x :: Y).map Ent.b ++ [g.bp] = A ++ lastB g.bp X :: x.b :: headB g.bp Y :: C := by
      have : g.bp :: (X ++ x :: Y).map Ent.b ++ [g.bp] = (g.bp :: X.map Ent.b) ++ x.b :: (Y.map Ent.b ++ [g.bp]) := by simp
      rw [this, hA, hC]; simp
    rw [e]
    obtain ⟨l1, _, l2⟩ := links_split hpath
    have ring : ∀ b, b ∈ g.bp :: (X.map Ent.b ++ Y.map Ent.b) → (b = g.bp ∨ b ∈ g.bl) := fun b hb => by rw [hbl]; simpa using hb
    obtain ⟨s1, s2⟩ := segs (w' := w') hA hC (by rw [← hbl]; exact List.nodup_cons.2 ⟨hpL, hLL⟩)
      (fun b hb hne => by obtain ⟨_, _, _, hbs, hbu, hbm⟩ := ring_cells h (ring b hb); exact hU.oth b 4 hbm (fun e => hne e.1) (by omega) (fun e => hbu e.1) (by omega))
      (fun b hb hne => by obtain ⟨_, _, _, hbs, hbu, hbm⟩ := ring_cells h (ring b hb); exact hU.oth b 3 hbm (by omega) (fun e => hne e.1) (fun e => hbu e.1) (by omega)) l1 l2
    exact links_join s1 hU.c1 ((hU.oth x.b 3 hxm (by omega) (fun e => hxc e.1) (fun e => hxu e.1) (by omega)).trans hk.c3)
      ⟨⟨(hU.oth x.b 4 hxm (fun e => hxa e.1) (by omega) (fun e => hxu e.1) (by omega)).trans hk.c4, hU.c2⟩, s2⟩
  · intro y hy
    simp only [List.mem_append, List.mem_cons] at hy
    rcases hy with hy | rfl | hy
    · exact h.ents y (by rw [hL]; simp [hy])
    · exact hk.e
    · exact h.ents y (by rw [hL]; simp [hy])
  · intro i _
    rw [List.map_append, List.map_cons, hes, usedOf_append, usedOf_append, usedOf_cons, usedOf_append]
    by_cases hi : i = x.e.t
    · rw [if_pos hi, hi, if_pos rfl]; omega
    · rw [if_neg hi, if_neg (fun e => hi e.symm)]; omega
  · rw [List.map_append, List.map_cons, hes, tot_append, tot_append, tot_cons]; omega
  · intro k v
    rw [hR, hL]
    constructor
    · rintro (⟨rfl, rfl⟩ | ⟨hne, y, hy, rfl, rfl⟩)
      · exact ⟨x, by simp, rfl, rfl⟩
      · refine ⟨y, ?_, rfl, rfl⟩
        simp only [List.mem_append, List.mem_cons] at hy ⊢
        exact hy.imp id .inr
    · rintro ⟨y, hy, rfl, rfl⟩
      simp only [List.mem_append, List.mem_cons] at hy
      have aux : y ∈ g.L → (Value.string y.e.key ≠ .string x.e.key) := fun hy e => by
        have ek : y.e.key = x.e.key := by simpa using e
        exact hxk (ek ▸ List.mem_map_of_mem (List.mem_map_of_mem hy))
      rcases hy with hy | rfl | hy
      · exact .inr ⟨aux (by rw [hL]; simp [hy]), y, by simp [hy], rfl, rfl⟩
      · exact .inl ⟨rfl, rfl⟩
      · exact .inr ⟨aux (by rw [hL]; simp [hy]), y, by simp [hy], rfl, rfl⟩
  · rw [hbl] at hpL hsL huL hLL hxL
    simp only [List.mem_append, not_or] at hpL hsL huL hxL
    rw [List.nodup_append] at hLL
    simp only [List.nodup_cons, List.mem_cons, not_or, List.map_append, List.map_cons, List.mem_append]
    refine ⟨⟨hps, hpu, hpL.1, hxp.symm, hpL.2⟩, ⟨hsu, hsL.1, hxs.symm, hsL.2⟩, ⟨huL.1, hxu.symm, huL.2⟩, ?_⟩
    rw [List.nodup_append]
    refine ⟨hLL.1, List.nodup_cons.2 ⟨hxL.2, hLL.2.1⟩, fun a ha b hb e => ?_⟩
    rcases List.mem_cons.1 hb with rfl | hb
    · exact hxL.1 (e ▸ ha)
    · exact hLL.2.2 a ha b hb e
  · have hkeys := h.keys
    rw [hes, List.map_append, List.nodup_append] at hkeys
    rw [hes, List.map_append, List.mem_append, not_or] at hxk
    simp only [List.map_append, List.map_cons]
    rw [List.nodup_append]
    refine ⟨hkeys.1, List.nodup_cons.2 ⟨hxk.2, hkeys.2.1⟩, fun a ha b hb e => ?_⟩
    rcases List.mem_cons.1 hb with rfl | hb
    · exact hxk.1 (e ▸ ha)
    · exact hkeys.2.2 a ha b hb e
  · intro y hy
    simp only [List.map_append, List.map_cons, List.mem_append, List.mem_cons] at hy
    rcases hy with hy | rfl | hy
    · exact h.ks y (by rw [hes, List.mem_append]; exact .inl hy)
    · exact hxks
    · exact h.ks y (by rw [hes, List.mem_append]; exact .inr hy)
  · intro y hy
    simp only [List.map_append, List.map_cons, List.mem_append, List.mem_cons] at hy
    rcases hy with hy | rfl | hy
    · exact h.rng y (by rw [hes, List.mem_append]; exact .inl hy)
    · exact ⟨hxt, hxz⟩
    · exact h.rng y (by rw [hes, List.mem_append]; exact .inr hy)
  · have : tot ((X ++ x :: Y).map Ent.e) = tot g.es + x.e.z := by rw [List.map_append, List.map_cons, hes, tot_append, tot_append, tot_cons]; omega
    rw [this]; omega

theorem back_pool (w : World) (g : Gh) (X Y : List Ent) (x : Ent) (h : PoolIs w g) (hL : g.L = X ++ Y) (hk : Hook w g.bp X x Y)
    (hxp : x.b ≠ g.bp) (hxs : x.b ≠ g.bs) (hxu : x.b ≠ g.bu) (hxL : x.b ∉ g.bl) (hxk : x.e.key ∉ g.es.map E.key) (hxks : x.e.key.size ≤ maxLen) (hxt : x.e.t < g.sh.length) (hxz : 1 ≤ x.e.z) (hfit : tot g.es + x.e.z ≤ g.cap) :
    Calls Tryz.prog 43 #[ptr g.bp, ptr x.b] w fun e w' => e = .returned (.tuple #[]) ∧ PoolIs w' { g with L := X ++ x :: Y } ∧ Keep g.foot w w' := by
  obtain ⟨A, hA⟩ := lastB_eq g.bp X
  obtain ⟨C, hC⟩ := headB_eq g.bp Y
  have hpath := path_split h hL hA hC
  have hnd := h.nd
  simp only [List.nodup_cons, List.mem_cons, not_or] at hnd
  obtain ⟨⟨hps, hpu, hpL⟩, ⟨hsu, hsL⟩, huL, hLL⟩ := hnd
  have hbl : g.bl = X.map Ent.b ++ Y.map Ent.b := by rw [Gh.bl, hL, List.map_append]
  have hes : g.es = X.map Ent.e ++ Y.map Ent.e := by simp [Gh.es, hL]
  have har : lastB g.bp X = g.bp ∨ lastB g.bp X ∈ g.bl := (lastB_mem g.bp X).imp id (fun h => by rw [hbl]; simp only [List.mem_append]; exact .inl h)
  have hcr : headB g.bp Y = g.bp ∨ headB g.bp Y ∈ g.bl := (headB_mem g.bp Y).imp id (fun h => by rw [hbl]; simp only [List.mem_append]; exact .inr h)
  obtain ⟨⟨va, hva⟩, _, hfa, has, hau, ham⟩ := ring_cells h har
  obtain ⟨_, ⟨vc, hvc⟩, hfc, hcs, hcu, hcm⟩ := ring_cells h hcr
  have hum := h.map.not_cell (h.us _ hxt)
  have hxm := h.map.not_cell hk.e.c0
  have hpos : ∀ y ∈ g.es, 1 ≤ y.z := fun y hy => (h.rng y hy).2
  have htn := tot_nonneg _ hpos
  have hun := usedOf_nonneg _ x.e.t hpos
  have hul := usedOf_le_tot _ x.e.t hpos
  have hle := h.le; have hcap := h.cap
  refine (back_any g.bp x.b (lastB g.bp X) (headB g.bp Y) g.bm g.bu g.sh.length g.uc x.e.t x.e.key va vc (usedOf g.es x.e.t) (g.cap - tot g.es) x.e.z x.e.z (usedOf g.es x.e.t + x.e.z) (g.cap - tot g.es - x.e.z) _ w
    hk.c3 hk.c4 hva hvc (hfa _) (hfc _) h.c8 hk.e.c0 hxks h.map hxt h.c7 h.c9 (h.fp _) hk.e.c1 hk.e.c2 (h.us _ hxt) (h.fu _) hpu hxu hau hcu
    (by rw [wrap_in (by omega) (by omega)]; omega) (by rw [wrap_in (by omega) (by omega)]) (by rw [wrap_in (by omega) (by omega)])).mono ?_
  rintro e w' ⟨rfl, ob, k, hw', hm'⟩
  have hU := upd_of hw' hm' hva hvc (h.us _ hxt) h.c9 ham hcm hum (h.map.not_cell h.c5) hau hcu hpu
  refine ⟨rfl, h.add hL hk hxp hxs hxu hxL hxk hxks hxt hxz hfit hU (fun _ _ => Iff.rfl), hU.keep.mono ?_⟩
  rintro k (rfl | rfl | rfl | rfl | rfl)
  · exact har.elim .inl (fun h => .inr (.inr (.inr (.inr h))))
  · exact hcr.elim .inl (fun h => .inr (.inr (.inr (.inr h))))
  · exact .inr (.inr (.inl rfl))
  · exact .inl rfl
  · exact .inr (.inr (.inr (.inl rfl)))

theorem PoolIs.relink {w w' : World} {g : Gh} (L' : List Ent) (h : PoolIs w g) (hmem : ∀ x, x ∈ L' ↔ x ∈ g.L)
    (oth : ∀ b o, b ≠ g.bm → ((b = g.bp ∨ b ∈ g.bl) → o ≠ 3 ∧ o ≠ 4) → w'.cell? ⟨b, o, none⟩ = w.cell? ⟨b, o, none⟩) (frz : ∀ b o, b ≠ g.bm → w'.frozen? ⟨b, o, none⟩ = w.frozen? ⟨b, o, none⟩)
    (hm : w'.heap[g.bm]? = w.heap[g.bm]?) (hlinks : Links w' (g.bp :: L'.map Ent.b ++ [g.bp]))
    (hused : ∀ i, usedOf (L'.map Ent.e) i = usedOf g.es i) (htot : tot (L'.map Ent.e) = tot g.es) (hnL : (L'.map Ent.b).Nodup) (hnk : ((L'.map Ent.e).map E.key).Nodup) : PoolIs w' { g with L := L' } := by
  have hpm : g.bp ≠ g.bm := h.map.not_cell h.c5
  have hum : g.bu ≠ g.bm := h.map.not_cell (h.us 0 h.n0)
  obtain ⟨x0, hx0⟩ : ∃ x, g.sh[0]? = some x := ⟨_, List.getElem?_eq_getElem h.n0⟩
  have hsm : g.bs ≠ g.bm := h.map.not_cell (h.sh 0 x0 hx0)
  have hnd := h.nd
  simp only [List.nodup_cons, List.mem_cons, not_or] at hnd
  obtain ⟨⟨hps, hpu, hpL⟩, ⟨hsu, hsL⟩, huL, hLL⟩ := hnd
  have hbmem : ∀ b, b ∈ L'.map Ent.b ↔ b ∈ g.bl := fun b => by simp only [Gh.bl, List.mem_map, hmem]
  have hemem : ∀ b, b ∈ L'.map Ent.e ↔ b ∈ g.es := fun b => by simp only [Gh.es, List.mem_map, hmem]
  have fp : ∀ o v, o ≠ 3 → o ≠ 4 → w.cell? ⟨g.bp, o, none⟩ = some v → w'.cell? ⟨g.bp, o, none⟩ = some v := fun o v h3 h4 hc => (oth g.bp o hpm (fun _ => ⟨h3, h4⟩)).trans hc
  refine ⟨fp 5 _ (by decide) (by decide) h.c5, fp 6 _ (by decide) (by decide) h.c6, fp 7 _ (by decide) (by decide) h.c7, fp 8 _ (by decide) (by decide) h.c8, ?_, fun o => (frz _ _ hpm).trans (h.fp o), fun o => (frz _ _ hum).trans (h.fu o), fun i x hx => ?_, fun i hi => ?_, hlinks, fun x hx => ?_, (h.map.of_heap hm).congr (fun k v => ?_), ?_, hnk, fun x hx => h.ks x ((hemem x).1 hx), fun x hx => h.rng x ((hemem x).1 hx), h.n0, h.n8, h.cap, by show tot (L'.map Ent.e) ≤ _; rw [htot]; exact h.le, h.shr⟩
  · show w'.cell? ⟨g.bp, 9, none⟩ = some (.int .i64 (g.cap - tot (L'.map Ent.e)))
    rw [htot]; exact fp 9 _ (by decide) (by decide) h.c9
  · exact (oth g.bs i hsm (fun e => e.elim (fun e => absurd e.symm hps) (fun e => absurd e hsL))).trans (h.sh i x hx)
  · show w'.cell? ⟨g.bu, i, none⟩ = some (.int .i64 (usedOf (L'.map Ent.e) i))
    rw [hused]
    exact (oth g.bu i hum (fun e => e.elim (fun e => absurd e.symm hpu) (fun e => absurd e huL))).trans (h.us i hi)
  · have hx' := h.ents x ((hmem x).1 hx)
    have hxm := h.map.not_cell hx'.c0
    exact ⟨(oth _ _ hxm (fun _ => ⟨by decide, by decide⟩)).trans hx'.c0, (oth _ _ hxm (fun _ => ⟨by decide, by decide⟩)).trans hx'.c1, (oth _ _ hxm (fun _ => ⟨by decide, by decide⟩)).trans hx'.c2, fun o => (frz _ _ hxm).trans (hx'.fz o)⟩
  · simp only [hmem]
  · simp only [List.nodup_cons, List.mem_cons, not_or, hbmem]
    exact ⟨⟨hps, hpu, hpL⟩, ⟨hsu, hsL⟩, huL, hnL⟩

end Go.Proofs.YtcnpncndecjahaaGreatDoor.Mem

/-
  find, Has, Tenant, Remove, Touch, Used, Free over a pool, and over nil.
-/
namespace Go.Proofs.YtcnpncndecjahaaGreatDoor.Mem
open Go.RowKit

theorem zero55 (w : World) : (zeroValue 78).run Tryz.prog w = .ok (.pointer none) w := by kernel_rfl

theorem PoolIs.look {w : World} {g : Gh} (h : PoolIs w g) {key : ByteArray} (hk : key.size ≤ maxLen) :
    ((key ∉ g.es.map E.key) ∧ (Instr.lookup 77 (.map (some g.bm)) (.string key) true).run Tryz.prog w = .ok (.tuple #[.pointer none, .bool false]) w) ∨
    (∃ x, x ∈ g.L ∧ x.e.key = key ∧ (Instr.lookup 77 (.map (some g.bm)) (.string key) true).run Tryz.prog w = .ok (.tuple #[ptr x.b, .bool true]) w) := by
  rcases h.map.look (t := 77) (et := 78) strKeyed Tryz.underlying77 (zero55 w) true (keyStr hk) with ⟨h1, h2⟩ | ⟨v, ⟨x, hx, h1, rfl⟩, h2⟩
  · refine .inl ⟨fun hm => ?_, h2⟩
    obtain ⟨e, he, hek⟩ := List.mem_map.1 hm
    obtain ⟨x, hx, rfl⟩ := List.mem_map.1 he
    exact h1 (ptr x.b) ⟨x, hx, by rw [hek], rfl⟩
  · exact .inr ⟨x, hx, by simpa using h1.symm, h2⟩

set_option maxHeartbeats 400000 in
theorem find_nil (key : ByteArray) (w : World) :
    Calls Tryz.prog 47 #[.pointer none, .string key] w fun e w' => e = .returned (.tuple #[.pointer none, .bool false]) ∧ w = w' := by
  go_enter Tryz.func47, Tryz.ntmps47
  go_wp2
  go_ret2
  exact ⟨rfl, rfl⟩

set_option maxHeartbeats 400000 in
theorem find_of (p : Nat) (bm : Nat) (key : ByteArray) (v : Value) (b : Bool) (w : World) (h8 : w.cell? ⟨p, 8, none⟩ = some (.map (some bm)))
    (hl : (Instr.lookup 77 (.map (some bm)) (.string key) true).run Tryz.prog w = .ok (.tuple #[v, .bool b]) w) :
    Calls Tryz.prog 47 #[ptr p, .string key] w fun e w' => e = .returned (.tuple #[v, .bool b]) ∧ w = w' := by
  go_enter Tryz.func47, Tryz.ntmps47
  go_wp2
  go_ret2
  exact ⟨rfl, rfl⟩

/-- What find answers. -/
def Found (g : Gh) (key : ByteArray) (v : Value) (b : Bool) : Prop := (key ∉ g.es.map E.key ∧ v = .pointer none ∧ b = false) ∨ (∃ x ∈ g.L, x.e.key = key ∧ v = ptr x.b ∧ b = true)

theorem find_pool (g : Gh) (key : ByteArray) (w : World) (h : PoolIs w g) (hk : key.size ≤ maxLen) :
    ∃ v b, Found g key v b ∧ Calls Tryz.prog 47 #[ptr g.bp, .string key] w fun e w' => e = .returned (.tuple #[v, .bool b]) ∧ w = w' := by
  rcases h.look hk with ⟨h1, h2⟩ | ⟨x, hx, h1, h2⟩
  · exact ⟨_, _, .inl ⟨h1, rfl, rfl⟩, find_of _ _ _ _ _ _ h.c8 h2⟩
  · exact ⟨_, _, .inr ⟨x, hx, h1, rfl, rfl⟩, find_of _ _ _ _ _ _ h.c8 h2⟩

theorem Found.no {g : Gh} {key : ByteArray} {v : Value} {b : Bool} (h : Found g key v b) (hk : key ∉ g.es.map E.key) : v = .pointer none ∧ b = false := by
  rcases h with h | ⟨x, hx, rfl, _⟩
  · exact h.2
  · exact absurd (List.mem_map_of_mem (List.mem_map_of_mem hx)) hk

theorem key_inj {g : Gh} {w : World} (h : PoolIs w g) {x y : Ent} (hx : x ∈ g.L) (hy : y ∈ g.L) (hk : x.e.key = y.e.key) : x = y := by
  obtain ⟨i, hi⟩ := List.mem_iff_getElem?.1 hx
  obtain ⟨j, hj⟩ := List.mem_iff_getElem?.1 hy
  have hn := h.keys
  rw [Gh.es, List.map_map] at hn
  have := nodup_idx hn hi hj hk
  subst this
  rw [hi] at hj
  exact Option.some.inj hj

theorem Found.yes {g : Gh} {key : ByteArray} {v : Value} {b : Bool} {w : World} (hp : PoolIs w g) (h : Found g key v b) {x : Ent} (hx : x ∈ g.L) (hk : x.e.key = key) : v = ptr x.b ∧ b = true := by
  rcases h with h | ⟨y, hy, hk', h1, h2⟩
  · exact absurd (hk ▸ List.mem_map_of_mem (List.mem_map_of_mem hx)) h.1
  · rw [key_inj hp hx hy (hk.trans hk'.symm)]; exact ⟨h1, h2⟩

theorem find_no (g : Gh) (key : ByteArray) (w : World) (h : PoolIs w g) (hks : key.size ≤ maxLen) (hk : key ∉ g.es.map E.key) :
    Calls Tryz.prog 47 #[ptr g.bp, .string key] w fun e w' => e = .returned (.tuple #[.pointer none, .bool false]) ∧ w = w' := by
  obtain ⟨v, b, hf, hc⟩ := find_pool g key w h hks
  obtain ⟨rfl, rfl⟩ := hf.no hk
  exact hc

theorem find_yes (g : Gh) (x : Ent) (w : World) (h : PoolIs w g) (hx : x ∈ g.L) :
    Calls Tryz.prog 47 #[ptr g.bp, .string x.e.key] w fun e w' => e = .returned (.tuple #[ptr x.b, .bool true]) ∧ w = w' := by
  obtain ⟨v, b, hf, hc⟩ := find_pool g x.e.key w h (h.ks _ (List.mem_map_of_mem hx))
  obtain ⟨rfl, rfl⟩ := hf.yes h hx rfl
  exact hc

/-! ### Has -/
set_option maxHeartbeats 400000 in
theorem has_nil (key : ByteArray) (w : World) : Calls Tryz.prog 18 #[.pointer none, .string key] w fun e w' => e = .returned (.bool false) ∧ w = w' := by
  go_enter Tryz.func18, Tryz.ntmps18
  go_wp2_with (go_at_call 47; refine (find_nil _ _).mono ?_; rintro e w' ⟨rfl, rfl⟩)
  go_ret
  exact ⟨rfl, rfl⟩

set_option maxHeartbeats 400000 in
theorem has_yes (g : Gh) (x : Ent) (w : World) (h : PoolIs w g) (hx : x ∈ g.L) : Calls Tryz.prog 18 #[ptr g.bp, .string x.e.key] w fun e w' => e = .returned (.bool true) ∧ w = w' := by
  have H := Lib.hid h; clear h
  go_enter Tryz.func18, Tryz.ntmps18
  go_wp2_with (go_at_call 47; refine (find_yes g x _ H.out hx).mono ?_; rintro e w' ⟨rfl, rfl⟩)
  go_ret
  exact ⟨rfl, rfl⟩

set_option maxHeartbeats 400000 in
theorem has_no (g : Gh) (key : ByteArray) (w : World) (h : PoolIs w g) (hks : key.size ≤ maxLen) (hk : key ∉ g.es.map E.key) : Calls Tryz.prog 18 #[ptr g.bp, .string key] w fun e w' => e = .returned (.bool false) ∧ w = w' := by
  have H := Lib.hid h; clear h
  have HK := Lib.hid hk; clear hk
  go_enter Tryz.func18, Tryz.ntmps18
  go_wp2_with (go_at_call 47; refine (find_no g key _ H.out hks HK.out).mono ?_; rintro e w' ⟨rfl, rfl⟩)
  go_ret
  exact ⟨rfl, rfl⟩

/-! ### Tenant -/
set_option maxHeartbeats 400000 in
theorem tenant_nil (key : ByteArray) (w : World) : Calls Tryz.prog 19 #[.pointer none, .string key] w fun e w' => e = .returned (.int .i64 (-1)) ∧ w = w' := by
  go_enter Tryz.func19, Tryz.ntmps19
  go_wp2_with (go_at_call 47; refine (find_nil _ _).mono ?_; rintro e w' ⟨rfl, rfl⟩)
  go_ret
  exact ⟨rfl, rfl⟩

set_option maxHeartbeats 400000 in
theorem tenant_yes (g : Gh) (x : Ent) (w : World) (h : PoolIs w g) (hx : x ∈ g.L) : Calls Tryz.prog 19 #[ptr g.bp, .string x.e.key] w fun e w' => e = .returned (.int .i64 x.e.t) ∧ w = w' := by
  have hc := (h.ents x hx).c1
  have H := Lib.hid h; clear h
  go_enter Tryz.func19, Tryz.ntmps19
  go_wp2_with (go_at_call 47; refine (find_yes g x _ H.out hx).mono ?_; rintro e w' ⟨rfl, rfl⟩)
  go_ret
  exact ⟨rfl, rfl⟩

set_option maxHeartbeats 400000 in
theorem tenant_no (g : Gh) (key : ByteArray) (w : World) (h : PoolIs w g) (hks : key.size ≤ maxLen) (hk : key ∉ g.es.map E.key) : Calls Tryz.prog 19 #[ptr g.bp, .string key] w fun e w' => e = .returned (.int .i64 (-1)) ∧ w = w' := by
  have H := Lib.hid h; clear h
  have HK := Lib.hid hk; clear hk
  go_enter Tryz.func19, Tryz.ntmps19
  go_wp2_with (go_at_call 47; refine (find_no g key _ H.out hks HK.out).mono ?_; rintro e w' ⟨rfl, rfl⟩)
  go_ret
  exact ⟨rfl, rfl⟩

/-! ### Free, Used -/
set_option maxHeartbeats 400000 in
theorem free_nil (w : World) : Calls Tryz.prog 16 #[.pointer none] w fun e w' => e = .returned (.int .i64 0) ∧ w = w' := by
  go_enter Tryz.func16, Tryz.ntmps16
  go_wp2
  go_ret
  exact ⟨rfl, rfl⟩

set_option maxHeartbeats 400000 in
theorem free_low (p : Nat) (f : Int) (w : World) (h : w.cell? ⟨p, 9, none⟩ = some (.int .i64 f)) : Calls Tryz.prog 16 #[ptr p] w fun e w' => e = .returned (.int .i64 f) ∧ w = w' := by
  go_enter Tryz.func16, Tryz.ntmps16
  go_wp2
  go_ret
  exact ⟨rfl, rfl⟩

theorem free_pool (g : Gh) (w : World) (h : PoolIs w g) : Calls Tryz.prog 16 #[ptr g.bp] w fun e w' => e = .returned (.int .i64 (g.cap - tot g.es)) ∧ w = w' := free_low _ _ _ h.c9

set_option maxHeartbeats 400000 in
theorem used_nil (t : Int) (w : World) : Calls Tryz.prog 15 #[.pointer none, .int .i64 t] w fun e w' => e = .returned (.int .i64 0) ∧ w = w' := by
  go_enter Tryz.func15, Tryz.ntmps15
  go_wp2
  go_ret
  exact ⟨rfl, rfl⟩
end Go.Proofs.YtcnpncndecjahaaGreatDoor.Mem

/-
  Used, Remove, Touch over a pool, and over nil.
-/
namespace Go.Proofs.YtcnpncndecjahaaGreatDoor.Mem
open Go.RowKit

set_option maxHeartbeats 400000 in
theorem used_neg (p : Nat) (t : Int) (w : World) (ht : t < 0) : Calls Tryz.prog 15 #[ptr p, .int .i64 t] w fun e w' => e = .returned (.int .i64 0) ∧ w = w' := by
  have hd : decide (t < 0) = true := by simpa using ht
  go_enter Tryz.func15, Tryz.ntmps15
  go_wp2
  go_ret
  exact ⟨rfl, rfl⟩

set_option maxHeartbeats 400000 in
theorem used_big (p bu n c : Nat) (t : Int) (w : World) (h7 : w.cell? ⟨p, 7, none⟩ = some (.slice (some ⟨bu, 0, none⟩) n c)) (h0 : 0 ≤ t) (ht : (n : Int) ≤ t) : Calls Tryz.prog 15 #[ptr p, .int .i64 t] w fun e w' => e = .returned (.int .i64 0) ∧ w = w' := by
  have hd : decide (t < 0) = false := by simpa using h0
  have hd2 : decide ((n : Int) ≤ t) = true := by simpa using ht
  go_enter Tryz.func15, Tryz.ntmps15
  go_wp2
  go_ret
  exact ⟨rfl, rfl⟩

set_option maxHeartbeats 400000 in
theorem used_in (p bu n c t : Nat) (u : Int) (w : World) (h7 : w.cell? ⟨p, 7, none⟩ = some (.slice (some ⟨bu, 0, none⟩) n c)) (ht : t < n) (hu : w.cell? ⟨bu, t, none⟩ = some (.int .i64 u)) :
    Calls Tryz.prog 15 #[ptr p, .int .i64 t] w fun e w' => e = .returned (.int .i64 u) ∧ w = w' := by
  have hd : decide ((t : Int) < 0) = false := by simp
  have hd2 : decide ((n : Int) ≤ (t : Int)) = false := by simp; omega
  go_enter Tryz.func15, Tryz.ntmps15
  go_wp2
  go_ret
  exact ⟨rfl, rfl⟩

/-- The use of a tenant, whatever number names it. -/
def usedAt (g : Gh) (t : Int) : Int := if 0 ≤ t ∧ t < g.sh.length then usedOf g.es t.toNat else 0

theorem used_pool (g : Gh) (t : Int) (w : World) (h : PoolIs w g) : Calls Tryz.prog 15 #[ptr g.bp, .int .i64 t] w fun e w' => e = .returned (.int .i64 (usedAt g t)) ∧ w = w' := by
  by_cases h0 : t < 0
  · rw [usedAt, if_neg (by omega)]; exact used_neg _ _ _ h0
  · by_cases h1 : (g.sh.length : Int) ≤ t
    · rw [usedAt, if_neg (by omega)]; exact used_big _ _ _ _ _ _ h.c7 (by omega) h1
    · obtain ⟨k, rfl⟩ := Int.eq_ofNat_of_zero_le (show 0 ≤ t by omega)
      rw [usedAt, if_pos (by omega), Int.toNat_natCast]
      exact used_in _ _ _ _ _ _ _ h.c7 (by omega) (h.us k (by omega))

/-! ### Remove -/
set_option maxHeartbeats 400000 in
theorem remove_nil (key : ByteArray) (w : World) : Calls Tryz.prog 21 #[.pointer none, .string key] w fun e w' => e = .returned (.bool false) ∧ w = w' := by
  go_enter Tryz.func21, Tryz.ntmps21
  go_wp2_with (go_at_call 47; refine (find_nil _ _).mono ?_; rintro e w' ⟨rfl, rfl⟩)
  go_ret
  exact ⟨rfl, rfl⟩

set_option maxHeartbeats 400000 in
theorem remove_no (g : Gh) (key : ByteArray) (w : World) (h : PoolIs w g) (hks : key.size ≤ maxLen) (hk : key ∉ g.es.map E.key) : Calls Tryz.prog 21 #[ptr g.bp, .string key] w fun e w' => e = .returned (.bool false) ∧ w = w' := by
  have H := Lib.hid h; clear h
  have HK := Lib.hid hk; clear hk
  go_enter Tryz.func21, Tryz.ntmps21
  go_wp2_with (go_at_call 47; refine (find_no g key _ H.out hks HK.out).mono ?_; rintro e w' ⟨rfl, rfl⟩)
  go_ret
  exact ⟨rfl, rfl⟩

set_option maxHeartbeats 400000 in
theorem remove_yes (g : Gh) (X Y : List Ent) (x : Ent) (w : World) (h : PoolIs w g) (hL : g.L = X ++ x :: Y) : Calls Tryz.prog 21 #[ptr g.bp, .string x.e.key] w fun e w' =>
    e = .returned (.bool true) ∧ PoolIs w' { g with L := X ++ Y } ∧ Keep (Gh.foot { g with L := X ++ Y }) w w' := by
  have HL := Lib.hid hL; clear hL
  have H := Lib.hid h; clear h
  go_enter Tryz.func21, Tryz.ntmps21
  go_wp2_with fail
  refine (find_yes g x _ H.out (by rw [HL.out]; simp)).mono ?_
  rintro e w' ⟨rfl, rfl⟩
  go_wp2_with fail
  refine (take_pool _ g X Y x H.out HL.out).mono ?_
  rintro e w' ⟨rfl, hp, hk⟩
  have HP := Lib.hid hp; clear hp
  have HK := Lib.hid hk; clear hk
  go_wp2_with fail
  go_ret
  exact ⟨rfl, HP.out, HK.out⟩

/-! ### Touch -/
set_option maxHeartbeats 400000 in
theorem touch_nil (key : ByteArray) (w : World) : Calls Tryz.prog 20 #[.pointer none, .string key] w fun e w' => e = .returned (.bool false) ∧ w = w' := by
  go_enter Tryz.func20, Tryz.ntmps20
  go_wp2_with (go_at_call 47; refine (find_nil _ _).mono ?_; rintro e w' ⟨rfl, rfl⟩)
  go_ret
  exact ⟨rfl, rfl⟩

set_option maxHeartbeats 400000 in
theorem touch_no (g : Gh) (key : ByteArray) (w : World) (h : PoolIs w g) (hks : key.size ≤ maxLen) (hk : key ∉ g.es.map E.key) : Calls Tryz.prog 20 #[ptr g.bp, .string key] w fun e w' => e = .returned (.bool false) ∧ w = w' := by
  have H := Lib.hid h; clear h
  have HK := Lib.hid hk; clear hk
  go_enter Tryz.func20, Tryz.ntmps20
  go_wp2_with (go_at_call 47; refine (find_no g key _ H.out hks HK.out).mono ?_; rintro e w' ⟨rfl, rfl⟩)
  go_ret
  exact ⟨rfl, rfl⟩

/-- unlink and insert at the end, over a pool: what becomes of the world. -/
def touched (w : World) (bp a c x l k : Nat) : World :=
  (((((((w.setCell ⟨a, 4, none⟩ (ptr c)).setCell ⟨c, 3, none⟩ (ptr a)).drewN k).setCell ⟨x, 3, none⟩ (ptr l)).setCell ⟨x, 4, none⟩ (ptr bp)).setCell ⟨l, 4, none⟩ (ptr x)).setCell ⟨bp, 3, none⟩ (ptr x))

theorem PoolIs.touch {w : World} {g : Gh} (h : PoolIs w g) {X Y : List Ent} {x : Ent} (hL : g.L = X ++ x :: Y) (k : Nat) :
    let w1 := ((w.setCell ⟨lastB g.bp X, 4, none⟩ (ptr (headB g.bp Y))).setCell ⟨headB g.bp Y, 3, none⟩ (ptr (lastB g.bp X))).drewN k
    ((∃ v, w1.cell? ⟨x.b, 3, none⟩ = some v) ∧ (∃ v, w1.cell? ⟨x.b, 4, none⟩ = some v) ∧ w1.cell? ⟨g.bp, 3, none⟩ = some (ptr (lastB g.bp (X ++ Y))) ∧ (∃ v, w1.cell? ⟨lastB g.bp (X ++ Y), 4, none⟩ = some v) ∧
      w1.frozen? ⟨x.b, 3, none⟩ = false ∧ w1.frozen? ⟨x.b, 4, none⟩ = false ∧ w1.frozen? ⟨g.bp, 3, none⟩ = false ∧ w1.frozen? ⟨lastB g.bp (X ++ Y), 4, none⟩ = false ∧ x.b ≠ g.bp ∧ x.b ≠ lastB g.bp (X ++ Y)) ∧
    PoolIs (touched w g.bp (lastB g.bp X) (headB g.bp Y) x.b (lastB g.bp (X ++ Y)) k) { g with L := X ++ Y ++ [x] } ∧
    Keep g.foot w (touched w g.bp (lastB g.bp X) (headB g.bp Y) x.b (lastB g.bp (X ++ Y)) k) := by
  intro w1
  obtain ⟨A, hA⟩ := lastB_eq g.bp X
  obtain ⟨C, hC⟩ := headB_eq g.bp Y
  have hk := h.hook hL
  have hpath := h.path hL hA hC
  have hnd := h.nd
  simp only [List.nodup_cons, List.mem_cons, not_or] at hnd
  obtain ⟨⟨hps, hpu, hpL⟩, ⟨hsu, hsL⟩, huL, hLL⟩ := hnd
  have hbl : g.bl = X.map Ent.b ++ x.b :: Y.map Ent.b := bl_split hL
  have hx : x ∈ g.L := by rw [hL]; simp
  have hxb : x.b ∈ g.bl := List.mem_map_of_mem hx
  have har : lastB g.bp X = g.bp ∨ lastB g.bp X ∈ g.bl := (lastB_mem g.bp X).imp id (fun h => by rw [hbl]; simp only [List.mem_append]; exact .inl h)
  have hcr : headB g.bp Y = g.bp ∨ headB g.bp Y ∈ g.bl := (headB_mem g.bp Y).imp id (fun h => by rw [hbl]; simp only [List.mem_append, List.mem_cons]; exact .inr (.inr h))
  have hlm := lastB_mem g.bp (X ++ Y)
  have hlr : lastB g.bp (X ++ Y) = g.bp ∨ lastB g.bp (X ++ Y) ∈ g.bl := hlm.imp id (fun h => by
    rw [List.map_append, List.mem_append] at h; rw [hbl]; simp only [List.mem_append, List.mem_cons]; exact h.imp id .inr)
  obtain ⟨⟨va, hva⟩, _, hfa, has, hau, ham⟩ := ring_cells h har
  obtain ⟨_, ⟨vc, hvc⟩, hfc, hcs, hcu, hcm⟩ := ring_cells h hcr
  obtain ⟨⟨vl, hvl⟩, _, hfl, hls, hlu, hlm'⟩ := ring_cells h hlr
  obtain ⟨_, _, hfx, hxs, hxu, hxm⟩ := ring_cells h (.inr hxb)
  obtain ⟨_, _, hfp, hps', hpu', hpm⟩ := ring_cells h (.inl rfl)
  rw [hbl] at hLL hpL
  simp only [List.mem_append, List.mem_cons, not_or] at hpL
  rw [List.nodup_append] at hLL
  obtain ⟨nX, nY, nXY⟩ := hLL
  rw [List.nodup_cons] at nY
  have hxp : x.b ≠ g.bp := fun e => hpL.2.1 e.symm
  have hxl : x.b ≠ lastB g.bp (X ++ Y) := fun e => by
    rcases hlm with h1 | h1
    · exact hxp (e.trans h1)
    · rw [List.map_append, List.mem_append, ← e] at h1
      rcases h1 with h1 | h1
      · exact nXY _ h1 _ (by simp) rfl
      · exact nY.1 h1
  have hxa : lastB g.bp X ≠ x.b := fun e => by
    rcases lastB_mem g.bp X with h1 | h1
    · exact hxp (e.symm.trans h1)
    · rw [e] at h1; exact nXY _ h1 _ (by simp) rfl
  have hxc : headB g.bp Y ≠ x.b := fun e => by
    rcases headB_mem g.bp Y with h1 | h1
    · exact hxp (e.symm.trans h1)
    · rw [e] at h1; exact nY.1 h1
  have nXYd : (X.map Ent.b ++ Y.map Ent.b).Nodup := List.nodup_append.2 ⟨nX, nY.2, fun a ha b hb => nXY a ha b (List.mem_cons_of_mem _ hb)⟩
  -- the ring without x, in w1
  have e1 : ∀ b o, w1.cell? ⟨b, o, none⟩ = ((w.setCell ⟨lastB g.bp X, 4, none⟩ (ptr (headB g.bp Y))).setCell ⟨headB g.bp Y, 3, none⟩ (ptr (lastB g.bp X))).cell? ⟨b, o, none⟩ := fun _ _ => cell_drewN _ _ _
  have r4 : ∀ b, b ≠ lastB g.bp X → w1.cell? ⟨b, 4, none⟩ = w.cell? ⟨b, 4, none⟩ := fun b hne => by rw [e1, cell_set_off (by decide), cell_set_blk (fun e => hne e.symm)]
  have r3 : ∀ b, b ≠ headB g.bp Y → w1.cell? ⟨b, 3, none⟩ = w.cell? ⟨b, 3, none⟩ := fun b hne => by rw [e1, cell_set_blk (fun e => hne e.symm), cell_set_off (by decide)]
  have a4 : w1.cell? ⟨lastB g.bp X, 4, none⟩ = some (ptr (headB g.bp Y)) := by rw [e1, cell_set_off (by decide)]; exact cell_set_same hva
  have c3 : w1.cell? ⟨headB g.bp Y, 3, none⟩ = some (ptr (lastB g.bp X)) := by rw [e1]; exact cell_set_same (by rw [cell_set_off (by decide)]; exact hvc)
  have L1 : Links w1 (g.bp :: (X ++ Y).map Ent.b ++ [g.bp]) := by
    have e : g.bp :: (X ++ Y).map Ent.b ++ [g.bp] = A ++ lastB g.bp X :: headB g.bp Y :: C := by
      have : g.bp :: (X ++ Y).map Ent.b ++ [g.bp] = (g.bp :: X.map Ent.b) ++ (Y.map Ent.b ++ [g.bp]) := by simp
      rw [this, hA, hC]; simp
    rw [e]
    obtain ⟨l1, _, l2⟩ := links_split hpath
    obtain ⟨s1, s2⟩ := segs (w' := w1) hA hC (List.nodup_cons.2 ⟨by simp only [List.mem_append, not_or]; exact ⟨hpL.1, hpL.2.2⟩, nXYd⟩) (fun b _ hne => r4 b hne) (fun b _ hne => r3 b hne) l1 l2.2
    exact links_join s1 a4 c3 s2
  obtain ⟨A2, hA2⟩ := lastB_eq g.bp (X ++ Y)
  have L1' : Links w1 (A2 ++ lastB g.bp (X ++ Y) :: g.bp :: []) := by
    have e : g.bp :: (X ++ Y).map Ent.b ++ [g.bp] = A2 ++ lastB g.bp (X ++ Y) :: g.bp :: [] := by rw [hA2]; simp
    rw [← e]; exact L1
  obtain ⟨m1, ⟨m2, m3⟩, _⟩ := links_split L1'
  have fz1 : ∀ b o, w1.frozen? ⟨b, o, none⟩ = w.frozen? ⟨b, o, none⟩ := fun b o => by show (World.drewN _ k).frozen? _ = _; rw [frozen_drewN, World.frozen?_setCell, World.frozen?_setCell]
  have x3 := (r3 x.b (fun e => hxc e.symm)).trans hk.c3
  have x4 := (r4 x.b (fun e => hxa e.symm)).trans hk.c4
  refine ⟨⟨⟨_, x3⟩, ⟨_, x4⟩, m3, ⟨_, m2⟩, (fz1 _ _).trans (hfx _), (fz1 _ _).trans (hfx _), (fz1 _ _).trans (hfp _), (fz1 _ _).trans (hfl _), hxp, hxl⟩, ?_, ?_⟩
  · have e2 : touched w g.bp (lastB g.bp X) (headB g.bp Y) x.b (lastB g.bp (X ++ Y)) k = (((w1.setCell ⟨x.b, 3, none⟩ (ptr (lastB g.bp (X ++ Y)))).setCell ⟨x.b, 4, none⟩ (ptr g.bp)).setCell ⟨lastB g.bp (X ++ Y), 4, none⟩ (ptr x.b)).setCell ⟨g.bp, 3, none⟩ (ptr x.b) := rfl
    generalize touched w g.bp (lastB g.bp X) (headB g.bp Y) x.b (lastB g.bp (X ++ Y)) k = w2 at e2
    have q4 : ∀ b, b ≠ x.b → b ≠ lastB g.bp (X ++ Y) → w2.cell? ⟨b, 4, none⟩ = w1.cell? ⟨b, 4, none⟩ := fun b n1 n2 => by
      rw [e2, cell_set_off (by decide), cell_set_blk (fun e => n2 e.symm), cell_set_blk (fun e => n1 e.symm), cell_set_off (by decide)]
    have q3 : ∀ b, b ≠ x.b → b ≠ g.bp → w2.cell? ⟨b, 3, none⟩ = w1.cell? ⟨b, 3, none⟩ := fun b n1 n2 => by
      rw [e2, cell_set_blk (fun e => n2 e.symm), cell_set_off (by decide), cell_set_off (by decide), cell_set_blk (fun e => n1 e.symm)]
    have y3 : w2.cell? ⟨x.b, 3, none⟩ = some (ptr (lastB g.bp (X ++ Y))) := by
      rw [e2, cell_set_blk (fun e => hxp e.symm), cell_set_off (by decide), cell_set_off (by decide)]; exact cell_set_same x3
    have y4 : w2.cell? ⟨x.b, 4, none⟩ = some (ptr g.bp) := by
      rw [e2, cell_set_off (by decide), cell_set_blk (fun e => hxl e.symm)]; exact cell_set_same (by rw [cell_set_off (by decide)]; exact x4)
    have l4 : w2.cell? ⟨lastB g.bp (X ++ Y), 4, none⟩ = some (ptr x.b) := by
      rw [e2, cell_set_off (by decide)]; exact cell_set_same (by rw [cell_set_blk hxl, cell_set_off (by decide)]; exact m2)
    have p3 : w2.cell? ⟨g.bp, 3, none⟩ = some (ptr x.b) := by
      rw [e2]; exact cell_set_same (by rw [cell_set_off (by decide), cell_set_off (by decide), cell_set_blk hxp]; exact m3)
    have inXY : ∀ b, b ∈ X.map Ent.b ++ Y.map Ent.b → b ≠ x.b := fun b hb e => by
      subst e
      rw [List.mem_append] at hb
      rcases hb with h1 | h1
      · exact nXY _ h1 _ (by simp) rfl
      · exact nY.1 h1
    refine h.relink (X ++ Y ++ [x]) (fun y => by rw [hL]; simp only [List.mem_append, List.mem_cons, List.not_mem_nil, or_false]; exact ⟨fun h => h.elim (fun h => h.elim .inl (fun h => .inr (.inr h))) (fun h => .inr (.inl h)), fun h => h.elim (fun h => .inl (.inl h)) (fun h => h.elim .inr (fun h => .inl (.inr h)))⟩) ?_ ?_ ?_ ?_ ?_ ?_ ?_ ?_
    · intro b o hbm hb
      have n : ∀ d i, (d = g.bp ∨ d ∈ g.bl) → (i = 3 ∨ i = 4) → (d ≠ b ∨ i ≠ o) := fun d i hd hi => by
        by_cases e : d = b
        · subst e; have := hb hd; right; omega
        · exact .inl e
      rw [e2, cell_set_ne (n _ _ (.inl rfl) (.inl rfl)), cell_set_ne (n _ _ hlr (.inr rfl)), cell_set_ne (n _ _ (.inr hxb) (.inr rfl)), cell_set_ne (n _ _ (.inr hxb) (.inl rfl)), e1, cell_set_ne (n _ _ hcr (.inl rfl)), cell_set_ne (n _ _ har (.inr rfl))]
    · intro b o _
      rw [e2, World.frozen?_setCell, World.frozen?_setCell, World.frozen?_setCell, World.frozen?_setCell, fz1]
    · rw [e2, heap_set_ne hpm.symm, heap_set_ne hlm'.symm, heap_set_ne hxm.symm, heap_set_ne hxm.symm]
      exact (heap_set_ne hcm.symm).trans (heap_set_ne ham.symm)
    · have e : g.bp :: (X ++ Y ++ [x]).map Ent.b ++ [g.bp] = A2 ++ lastB g.bp (X ++ Y) :: x.b :: g.bp :: [] := by
        have : g.bp :: (X ++ Y ++ [x]).map Ent.b ++ [g.bp] = (g.bp :: (X ++ Y).map Ent.b) ++ [x.b, g.bp] := by simp
        rw [this, hA2]; simp
      rw [e]
      obtain ⟨s1, s2⟩ := segs (w' := w2) (X := (X ++ Y).map Ent.b) (Y := []) (C := []) (c := g.bp) hA2 rfl (by rw [List.append_nil, List.map_append]; exact List.nodup_cons.2 ⟨by simp only [List.mem_append, not_or]; exact ⟨hpL.1, hpL.2.2⟩, nXYd⟩)
        (fun b hb hne => q4 b (fun e => by
          rw [List.append_nil, List.map_append] at hb
          rcases List.mem_cons.1 hb with rfl | hb
          · exact hxp e.symm
          · exact inXY b hb e) hne)
        (fun b hb hne => q3 b (fun e => by
          rw [List.append_nil, List.map_append] at hb
          rcases List.mem_cons.1 hb with rfl | hb
          · exact hxp e.symm
          · exact inXY b hb e) hne) m1 trivial
      exact links_join s1 l4 y3 ⟨⟨y4, p3⟩, s2⟩
    · intro i
      simp only [Gh.es, hL, List.map_append, List.map_cons, List.map_nil, usedOf_append, usedOf_cons, usedOf_nil]; omega
    · simp only [Gh.es, hL, List.map_append, List.map_cons, List.map_nil, tot_append, tot_cons, tot_nil]; omega
    · simp only [List.map_append, List.map_cons, List.map_nil]
      rw [List.nodup_append]
      exact ⟨nXYd, by simp, fun a ha b hb e => by simp at hb; subst hb; exact inXY a ha e⟩
    · have hkeys := h.keys
      simp only [Gh.es, hL, List.map_append, List.map_cons] at hkeys
      rw [List.nodup_append, List.nodup_cons] at hkeys
      obtain ⟨kX, ⟨kx, kY⟩, kXY⟩ := hkeys
      simp only [List.map_append, List.map_cons, List.map_nil]
      rw [List.nodup_append, List.nodup_append]
      refine ⟨⟨kX, kY, fun a ha b hb => kXY a ha b (List.mem_cons_of_mem _ hb)⟩, by simp, fun a ha b hb e => ?_⟩
      simp only [List.mem_cons, List.not_mem_nil, or_false] at hb
      subst hb; subst e
      rcases List.mem_append.1 ha with h1 | h1
      · exact kXY _ h1 _ (by simp) rfl
      · exact kx h1
  · have f1 : ∀ b, (b = g.bp ∨ b ∈ g.bl) → g.foot b := fun b hb => hb.elim .inl (fun h => .inr (.inr (.inr (.inr h))))
    exact (((((((Keep.refl g.foot w).setCell (p := ⟨lastB g.bp X, 4, none⟩) _ (.inl (f1 _ har))).setCell (p := ⟨headB g.bp Y, 3, none⟩) _ (.inl (f1 _ hcr))).drewN k).setCell (p := ⟨x.b, 3, none⟩) _ (.inl (f1 _ (.inr hxb)))).setCell (p := ⟨x.b, 4, none⟩) _ (.inl (f1 _ (.inr hxb)))).setCell (p := ⟨lastB g.bp (X ++ Y), 4, none⟩) _ (.inl (f1 _ hlr))).setCell (p := ⟨g.bp, 3, none⟩) _ (.inl (f1 _ (.inl rfl)))

set_option maxHeartbeats 400000 in
theorem touch_yes (g : Gh) (X Y : List Ent) (x : Ent) (w : World) (h : PoolIs w g) (hL : g.L = X ++ x :: Y) : Calls Tryz.prog 20 #[ptr g.bp, .string x.e.key] w fun e w' =>
    e = .returned (.bool true) ∧ PoolIs w' { g with L := X ++ Y ++ [x] } ∧ Keep g.foot w w' := by
  have hx : x ∈ g.L := by rw [hL]; simp
  have hxb : x.b ∈ g.bl := List.mem_map_of_mem hx
  have hbl : g.bl = X.map Ent.b ++ x.b :: Y.map Ent.b := bl_split hL
  have hk := h.hook hL
  have har : lastB g.bp X = g.bp ∨ lastB g.bp X ∈ g.bl := (lastB_mem g.bp X).imp id (fun h => by rw [hbl]; simp only [List.mem_append]; exact .inl h)
  have hcr : headB g.bp Y = g.bp ∨ headB g.bp Y ∈ g.bl := (headB_mem g.bp Y).imp id (fun h => by rw [hbl]; simp only [List.mem_append, List.mem_cons]; exact .inr (.inr h))
  obtain ⟨⟨va, hva⟩, _, hfa, has, hau, ham⟩ := ring_cells h har
  obtain ⟨_, ⟨vc, hvc⟩, hfc, hcs, hcu, hcm⟩ := ring_cells h hcr
  have HL := Lib.hid hL; clear hL
  have HB := Lib.hid hbl; clear hbl
  have H := Lib.hid h; clear h
  have HF := Lib.hid (And.intro hfa hfc); clear hfa hfc
  go_enter Tryz.func20, Tryz.ntmps20
  go_wp2_with fail
  refine (find_yes g x _ H.out hx).mono ?_
  rintro e w' ⟨rfl, rfl⟩
  go_wp2_with fail
  refine (unlink_any x.b _ _ va vc _ hk.c3 hk.c4 hva hvc (HF.out.1 _) (HF.out.2 _)).mono ?_
  rintro e w' ⟨rfl, k, rfl⟩
  obtain ⟨⟨⟨v3, q1⟩, ⟨v4, q2⟩, q3, ⟨vl, q4⟩, q5, q6, q7, q8, q9, q10⟩, hP, hK⟩ := H.out.touch HL.out k
  have HP := Lib.hid hP; clear hP
  have HK := Lib.hid hK; clear hK
  obtain ⟨w1, hw1⟩ : ∃ w1, w1 = ((w.setCell ⟨lastB g.bp X, 4, none⟩ (ptr (headB g.bp Y))).setCell ⟨headB g.bp Y, 3, none⟩ (ptr (lastB g.bp X))).drewN k := ⟨_, rfl⟩
  rw [← hw1] at q1 q2 q3 q4 q5 q6 q7 q8 ⊢
  have HW := Lib.hid hw1; clear hw1 hva hvc hk
  go_wp2_with fail
  refine (insert_any x.b g.bp _ v3 v4 vl _ q9 q10 q1 q2 q3 q4 q5 q6 q7 q8).mono ?_
  rintro e w' ⟨rfl, hw2⟩
  have HW2 := Lib.hid hw2; clear hw2
  go_wp2_with fail
  go_ret
  have e2 : w' = touched w g.bp (lastB g.bp X) (headB g.bp Y) x.b (lastB g.bp (X ++ Y)) k := by rw [HW2.out, HW.out]; rfl
  exact ⟨rfl, by rw [e2]; exact HP.out, by rw [e2]; exact HK.out⟩
end Go.Proofs.YtcnpncndecjahaaGreatDoor.Mem

/-
  A range over a function whose iterator yields a list that is known ahead: one law for the caller, by index.
-/
namespace Go.Proofs.YtcnpncndecjahaaGreatDoor.Mem
open Go Go.RowKit

/-- What an iterator with N known values does, in the wide fence: it reads under A, it leaves the heap alone by itself. -/
def IterL (P : Program) (gf : Nat) (lb : Array Value) (N : Nat) (encs : Nat → Array Value) (A : World → Prop) : Prop :=
  ∀ (l : Nat) (J Jx : Nat → World → Prop) (W : World),
    (∀ i V, J i V → A V) → (∀ i V, J i V → J i V.drew) →
    (∀ i V, i < N → J i V → YieldAt Fence.wide 0 P l (encs i) V fun e V' => (e = .returned (.bool true) ∧ J (i + 1) V') ∨ (e = .returned (.bool false) ∧ Jx i V')) →
    J 0 W →
    CallsIn Fence.wide 0 P gf (#[.func (.yield l) #[] #[]] ++ lb) W fun e W' => (∃ v, e = .returned v) ∧ (J N W' ∨ ∃ i, i < N ∧ Jx i W')

/-- How a round's body may be left. -/
def roundL (B : Nat) (I : Nat → World → Prop) (Ix : Code → Nat → World → Prop) (i : Nat) (V : World) : Exit → Act → World → Prop
  | .normal, _, V' => KeepsFrom B V V' ∧ I (i + 1) V'
  | .ret, _, V' => KeepsFrom B V V' ∧ Ix .ret i V'
  | .exit id, _, V' => KeepsFrom B V V' ∧ Ix (.exit id) i V'
  | .goto t, _, V' => KeepsFrom B V V' ∧ Ix (.goto t) i V'
  | .panic _, _, _ => False
  | .outgrown, _, _ => False

theorem grownBy_drew (W : World) : W.grownBy W.drew none := ⟨rfl, rfl, rfl, Nat.le_refl _, fun _ _ _ => rfl⟩

theorem range_list {P : Program} {g : Operand} {ps : Array Tmp} {assign body : Code} {Q : Exit → Act → World → Prop} {a : Act} {w : World}
    {gf : Nat} {lb : Array Value} (hg : a.eval g = .func (.func gf) #[] lb) (eg : ∀ args w, (callFunc gf args).run P w = .ok (.enter gf args) w)
    {N : Nat} {encs : Nat → Array Value} {A : World → Prop} (hseq : IterL P gf lb N encs A) (hps : ∀ i, i < N → (encs i).size = ps.size)
    (I : Nat → World → Prop) (Ix : Code → Nat → World → Prop) (hI : OwnFrom w.heap.size I) (hIx : ∀ c, OwnFrom w.heap.size (Ix c))
    (hA : ∀ i V, I i V → A V) (h0 : I 0 w) (a₁ : Nat → Act)
    (hassign : ∀ (l i : Nat) (V : World) (K : Act → World → Prop), i < N → K (a₁ i) V →
      assign.wpIn (Fence.wide.inRound l) 0 P (Exit.then K (fun _ _ _ => False)) { tmps := (ps.zip (encs i)).foldl (fun t (p, v) => t.setIfInBounds p v) a.tmps, defers := [] } V)
    (hbody : ∀ (l i : Nat) (V : World), i < N → I i V → w.heap.size ≤ V.heap.size → body.wpIn (Fence.wide.inRound l) 0 P (roundL w.heap.size I Ix i V) (a₁ i) V)
    (hdone : ∀ (D : Nat) (V : World), w.heap.size ≤ D → I N V → V.heap[D]? = some (.deferred (some [])) → Q .normal { a with defers := { target := .collected D, args := #[] } :: a.defers } V)
    (hstop : ∀ (D : Nat) (c : Code) (i : Nat) (V : World), w.heap.size ≤ D → i < N → Ix c i V → V.heap[D]? = some (.deferred (some [])) → c.wpIn Fence.wide 0 P Q { a with defers := { target := .collected D, args := #[] } :: a.defers } V) :
    (Code.rangeFunc g ps assign body).wpIn Fence.wide 0 P Q a w := by
  refine wpIn_rangeFunc fun fn hfn => ?_
  let rec_ : LoopState → Option Code → Loop := fun st pe => { state := st, pending := pe, fn, tmps := a.tmps, params := ps, assign, body, defers := w.heap.size }
  obtain ⟨W1, hW1⟩ : ∃ W1, (w.alloc (.deferred (some []))).alloc (.loop (rec_ .ready none)) = W1 := ⟨_, rfl⟩
  have hl1 : W1.heap[w.heap.size + 1]? = some (.loop (rec_ .ready none)) := by
    have := World.alloc_heap_new (w.alloc (.deferred (some []))) (.loop (rec_ .ready none))
    rw [World.size_alloc, hW1] at this; exact this
  have hk1 : W1.heap[w.heap.size]? = some (.deferred (some [])) := by
    rw [← hW1]; exact (Below.heap_alloc _ _ _ (by simp)).trans (World.alloc_heap_new w _)
  have hI1 : I 0 W1 := by rw [← hW1]; exact hI.alloc _ (hI.alloc _ h0)
  refine ⟨w.heap.size + 1, [{ target := .collected w.heap.size, args := #[] }], W1, { target := .fn (.func gf) lb, args := #[.func (.yield (w.heap.size + 1)) #[] #[]] }, W1, gf,
    #[.func (.yield (w.heap.size + 1)) #[] #[]] ++ lb, W1, ?_, ?_, fun _ _ => trivial, ?_, fun h => by simp [Fence.wide] at h, ?_⟩
  · rw [← hW1]; exact run_enterLoop_outer _ _ _ _ _
  · simp only [resolve, hg]
    simp [go_sem]
  · simp [invoke, go_sem, eg]
  · refine (hseq (w.heap.size + 1)
      (fun i V => I i V ∧ V.heap[w.heap.size + 1]? = some (.loop (rec_ .ready none)) ∧ V.heap[w.heap.size]? = some (.deferred (some [])))
      (fun i V => ∃ c, Ix c i V ∧ V.heap[w.heap.size + 1]? = some (.loop (rec_ .done (some c))) ∧ V.heap[w.heap.size]? = some (.deferred (some [])))
      W1 (fun i V h => hA i V h.1) (fun i V h => ⟨hI i V _ none h.1 (grownBy_drew V) (fun r e => by cases e), h.2.1, h.2.2⟩) ?_ ⟨hI1, hl1, hk1⟩).mono ?_
    · rintro i V hi ⟨hiv, hl, hk⟩
      have hlt : w.heap.size + 1 < V.heap.size := (Array.getElem?_eq_some_iff.1 hl).1
      have hy := run_yield (P := P) (args := encs i) hl (hps i hi)
      refine ⟨fn, _, assign, body, hy, roundIn_of_wpIn hfn (hassign _ i V _ hi ⟨_, run_beginRound hl rfl, ?_⟩)⟩
      obtain ⟨V2, hV2⟩ : ∃ V2, V.putObj (w.heap.size + 1) (.loop { rec_ .ready none with state := .busy }) = V2 := ⟨_, rfl⟩
      have hl2 : V2.heap[w.heap.size + 1]? = some (.loop (rec_ .busy none)) := by rw [← hV2]; exact World.putObj_heap_same hlt
      have hk2 : V2.heap[w.heap.size]? = some (.deferred (some [])) := by rw [← hV2]; exact (World.putObj_heap_other (by omega)).trans hk
      have hi2 : I i V2 := by rw [← hV2]; exact hI.putObj _ hiv (by omega) hl rfl
      have hs2 : w.heap.size ≤ V2.heap.size := by rw [← hV2, World.putObj_size]; omega
      have key : ∀ (jump : Option Code) (V3 : World), KeepsFrom w.heap.size V2 V3 →
          (Instr.endRound (w.heap.size + 1) jump).run P V3 = .ok (.bool jump.isNone) (V3.putObj (w.heap.size + 1) (.loop (rec_ (if jump.isNone then .ready else .done) jump))) ∧
          V3.heap[w.heap.size + 1]? = some (.loop (rec_ .busy none)) ∧
          (V3.putObj (w.heap.size + 1) (.loop (rec_ (if jump.isNone then .ready else .done) jump))).heap[w.heap.size + 1]? = some (.loop (rec_ (if jump.isNone then .ready else .done) jump)) ∧
          (V3.putObj (w.heap.size + 1) (.loop (rec_ (if jump.isNone then .ready else .done) jump))).heap[w.heap.size]? = some (.deferred (some [])) := by
        intro jump V3 hk3
        have hl3 := hk3.same _ _ (by omega) hl2 rfl
        exact ⟨run_endRound (P := P) jump hl3, hl3, World.putObj_heap_same (Array.getElem?_eq_some_iff.1 hl3).1, (World.putObj_heap_other (by omega)).trans (hk3.same _ _ (Nat.le_refl _) hk2 rfl)⟩
      have hV2' : V.putObj (w.heap.size + 1) (.loop { rec_ .ready none with state := .busy }) = V2 := hV2
      rw [show V.putObj (w.heap.size + 1) _ = V2 from hV2']
      refine wpIn_mono (hbody _ i V2 hi hi2 hs2) ?_
      rintro e a3 V3 hp
      cases e with
      | normal =>
        obtain ⟨hk3, hi3⟩ := hp
        obtain ⟨hr, hl3, hl4, hk4⟩ := key none V3 hk3
        exact ⟨_, _, hr, .inl ⟨rfl, hI.putObj _ hi3 (by omega) hl3 rfl, hl4, hk4⟩⟩
      | ret =>
        obtain ⟨hk3, hi3⟩ := hp
        obtain ⟨hr, hl3, hl4, hk4⟩ := key (some .ret) V3 hk3
        exact ⟨_, _, hr, .inr ⟨rfl, .ret, (hIx _).putObj _ hi3 (by omega) hl3 rfl, hl4, hk4⟩⟩
      | exit id =>
        obtain ⟨hk3, hi3⟩ := hp
        obtain ⟨hr, hl3, hl4, hk4⟩ := key (some (.exit id)) V3 hk3
        exact ⟨_, _, hr, .inr ⟨rfl, .exit id, (hIx _).putObj _ hi3 (by omega) hl3 rfl, hl4, hk4⟩⟩
      | goto t =>
        obtain ⟨hk3, hi3⟩ := hp
        obtain ⟨hr, hl3, hl4, hk4⟩ := key (some (.goto t)) V3 hk3
        exact ⟨_, _, hr, .inr ⟨rfl, .goto t, (hIx _).putObj _ hi3 (by omega) hl3 rfl, hl4, hk4⟩⟩
      | panic ch => exact hp.elim
      | outgrown => exact hp.elim
    · rintro e V2 ⟨⟨v, rfl⟩, (⟨hi, hl, hk⟩ | ⟨i, hiN, c, hi, hl, hk⟩)⟩
      · exact ⟨none, _, run_endLoop (P := P) hl (by simp [rec_]), hdone _ _ (Nat.le_refl _) (hI.putObj _ hi (by omega) hl rfl) ((World.putObj_heap_other (by omega)).trans hk)⟩
      · exact ⟨some c, _, run_endLoop (P := P) hl (by simp [rec_]), hstop _ c i _ (Nat.le_refl _) hiN ((hIx c).putObj _ hi (by omega) hl rfl) ((World.putObj_heap_other (by omega)).trans hk)⟩

end Go.Proofs.YtcnpncndecjahaaGreatDoor.Mem

/-
  The iterators: (*order).all and slices.Backward.
-/
namespace Go.Proofs.YtcnpncndecjahaaGreatDoor.Mem
open Go.RowKit Go.Shelf
attribute [local go_sem] Oper.semAt_some

set_option maxHeartbeats 400000 in
theorem all_any (p : Nat) (w : World) :
    Calls Tryz.prog 46 #[ptr p] w fun e w' => e = .returned (.func (.func 80) #[] #[.pointer (some ⟨w.heap.size, 0, none⟩)]) ∧ w' = w.alloc (.cells #[ptr p] 132) := by
  go_enter Tryz.func46, Tryz.ntmps46
  go_wp2
  go_ret
  exact ⟨rfl, rfl⟩

set_option maxHeartbeats 400000 in
theorem backward_any (v : Value) (w : World) (a : Option Addr) (n c : Nat) (hv : v = .slice a n c) :
    Calls Tryz.prog 42 #[v] w fun e w' => e = .returned (.func (.func 78) #[] #[.pointer (some ⟨w.heap.size, 0, none⟩)]) ∧ w' = w.alloc (.cells #[v] 111) := by
  subst hv
  go_enter Tryz.func42, Tryz.ntmps42
  go_wp2
  go_ret
  exact ⟨rfl, rfl⟩

theorem cells_at {w : World} {b o : Nat} {v : Value} (h : w.cell? ⟨b, o, none⟩ = some v) : ∃ c t f, w.heap[b]? = some (.cells c t f) := by
  unfold World.cell? at h
  split at h
  · rename_i c t f e; exact ⟨c, t, f, e⟩
  · cases h

/-- Two addresses of two rows of cells of which no byte is a string's. -/
theorem run_sameAddr_ne {P : Program} {w : World} {a b o o' : Nat} {va vb : Value} (ha : w.cell? ⟨a, o, none⟩ = some va) (hb : w.cell? ⟨b, o', none⟩ = some vb) (fa : ∀ o, w.frozen? ⟨a, o, none⟩ = false) (fb : ∀ o, w.frozen? ⟨b, o, none⟩ = false) (hne : a ≠ b) :
    (sameAddr ⟨a, 0, none⟩ ⟨b, 0, none⟩).run P w = .ok false w := by
  obtain ⟨ca, ta, f1, ea⟩ := cells_at ha
  obtain ⟨cb, tb, f2, eb⟩ := cells_at hb
  have a0 := fa 0; have b0 := fb 0
  have an := fa ca.size; have bn := fb cb.size
  simp [sameAddr, hne, noView, viewAt, World.shape?, mayBeOne, stringish, ea, eb, a0, b0, an, bn]

theorem run_neq_ptr_ne {P : Program} {w : World} {tp te : TypeId} {j : TypeInfo} {a b o o' : Nat} {va vb : Value} (hp : P.underlying tp = some (.pointer te)) (hte : P.info? te = some j) (hsz : j.size ≠ 0)
    (ha : w.cell? ⟨a, o, none⟩ = some va) (hb : w.cell? ⟨b, o', none⟩ = some vb) (fa : ∀ o, w.frozen? ⟨a, o, none⟩ = false) (fb : ∀ o, w.frozen? ⟨b, o, none⟩ = false) (hne : a ≠ b) :
    (binOp .neq tp (ptr a) (ptr b)).run P w = .ok (.bool true) w := by
  have h : ∀ d : Nat, (Op.equalIn (d + 1) tp (ptr a) (ptr b)).run P w = .ok false w := fun d => by
    simp [Op.equalIn, run_underlying hp, sizeOf, typeInfo, hte, hsz, run_sameAddr_ne ha hb fa fb hne]
  simp only [binOp]
  simp [Op.equal, Op.maxDepth, h 9999]

theorem run_neq_ptr_eq {P : Program} {w : World} {tp te : TypeId} {j : TypeInfo} (a : Nat) (hp : P.underlying tp = some (.pointer te)) (hte : P.info? te = some j) :
    (binOp .neq tp (ptr a) (ptr a)).run P w = .ok (.bool false) w := by
  have h : ∀ d : Nat, (Op.equalIn (d + 1) tp (ptr a) (ptr a)).run P w = .ok true w := fun d => by
    simp [Op.equalIn, run_underlying hp, sizeOf, typeInfo, hte, sameAddr]
  simp only [binOp]
  simp [Op.equal, Op.maxDepth, h 9999]

theorem info59 : ∃ j, Tryz.prog.info? 80 = some j ∧ j.size ≠ 0 := by
  have h : (Tryz.prog.info? 80).map (fun i => i.size) = some 5 := by kernel_rfl
  cases e : Tryz.prog.info? 80 with
  | none => rw [e] at h; cases h
  | some j => rw [e] at h; simp at h; exact ⟨j, rfl, by omega⟩

/-- What the iterator over a pool's order reads. -/
def AllReads (bx bp : Nat) (bl : List Nat) (W : World) : Prop := W.cell? ⟨bx, 0, none⟩ = some (ptr bp) ∧ Links W (bp :: bl ++ [bp]) ∧ ∀ b, (b = bp ∨ b ∈ bl) → ∀ o, W.frozen? ⟨b, o, none⟩ = false

def ringAt (bp : Nat) (bl : List Nat) (i : Nat) : Nat := (bl[i]?).getD bp
theorem ringAt_lt {bp : Nat} {bl : List Nat} {i : Nat} (h : i < bl.length) : ringAt bp bl i ∈ bl := by
  rw [ringAt, List.getElem?_eq_getElem h]; exact List.getElem_mem h
theorem ringAt_end {bp : Nat} {bl : List Nat} : ringAt bp bl bl.length = bp := by simp [ringAt]

theorem AllReads.first {bx bp : Nat} {bl : List Nat} {W : World} (h : AllReads bx bp bl W) : W.cell? ⟨bp, 4, none⟩ = some (ptr (ringAt bp bl 0)) := by
  have := h.2.1
  cases bl with
  | nil => exact this.1.1
  | cons x r => exact this.1.1

theorem AllReads.next {bx bp : Nat} {bl : List Nat} {W : World} (h : AllReads bx bp bl W) {i : Nat} (hi : i < bl.length) : W.cell? ⟨ringAt bp bl i, 4, none⟩ = some (ptr (ringAt bp bl (i + 1))) := by
  refine (links_get _ (i + 1) _ _ h.2.1 ?_ ?_).1
  · rw [List.cons_append, List.getElem?_cons_succ, List.getElem?_append_left hi, ringAt, List.getElem?_eq_getElem hi]; rfl
  · rw [List.cons_append, List.getElem?_cons_succ]
    by_cases h1 : i + 1 < bl.length
    · rw [List.getElem?_append_left h1, ringAt, List.getElem?_eq_getElem h1]; rfl
    · have : i + 1 = bl.length := by omega
      rw [this, ringAt_end]; simp

set_option maxRecDepth 100000 in
set_option maxHeartbeats 1000000 in
theorem all1_iter (bx bp : Nat) (bl : List Nat) (hbp : bp ∉ bl) : IterL Tryz.prog 80 #[.pointer (some ⟨bx, 0, none⟩)] bl.length (fun i => #[ptr (ringAt bp bl i)]) (AllReads bx bp bl) := by
  intro l J Jx W hA hD hY h0
  have hA0 := hA 0 W h0
  have r0 := hA0.1
  have r1 := hA0.first
  have HA := Lib.hid hA; clear hA
  have HD := Lib.hid hD; clear hD
  have HY := Lib.hid hY; clear hY
  have HJ := Lib.hid h0; clear h0
  refine callsIn_of_wp Tryz.func80 rfl trivial ?_ rfl
  simp only [Tryz.ntmps80, List.size_toArray, List.length_cons, List.length_nil, Nat.reduceAdd, Nat.reduceSub, Array.replicate_succ, Array.replicate_zero, List.push_toArray, List.append_toArray, List.nil_append, List.cons_append]
  gi_wp2
  gi_loopg [3] (bl.length) (fun k p wr => k ≤ bl.length ∧ p = ptr (ringAt bp bl (bl.length - k)) ∧ J (bl.length - k) wr)
  case atStart => exact ⟨Nat.le_refl _, by rw [Nat.sub_self], by rw [Nat.sub_self]; exact HJ.out⟩
  case round =>
    obtain ⟨hk, rfl, hj⟩ := hrel
    have ha := HA.out _ _ hj
    have q0 := ha.1
    obtain ⟨j59, hj59, hsz59⟩ := info59
    cases gk with
    | zero =>
      rw [Nat.sub_zero, ringAt_end]
      rw [Nat.sub_zero] at hj
      have hc := run_neq_ptr_eq (P := Tryz.prog) (w := wr) (tp := 78) bp Tryz.underlying78 hj59
      have HJ2 := Lib.hid hj; clear hj ha hj59
      gi_wp2
      go_end0
      exact ⟨⟨_, rfl⟩, .inl HJ2.out⟩
    | succ k =>
      have hi : bl.length - (k + 1) < bl.length := by omega
      obtain ⟨fn, tmps, assign, body, hy, hR⟩ := HY.out _ _ hi hj
      have hm := ringAt_lt (bp := bp) hi
      have hne : ringAt bp bl (bl.length - (k + 1)) ≠ bp := fun e => hbp (e ▸ hm)
      have hs : bl.length - (k + 1) + 1 = bl.length - k := by omega
      have hc := run_neq_ptr_ne (P := Tryz.prog) (w := wr) (tp := 78) Tryz.underlying78 hj59 hsz59 (ha.next hi) ha.first (ha.2.2 _ (.inr hm)) (ha.2.2 _ (.inl rfl)) hne
      have HR := Lib.hid hR; clear hR hj ha hj59
      have HS := Lib.hid hs; clear hs
      have HI := Lib.hid hi; clear hi
      generalize hx : ringAt bp bl (bl.length - (k + 1)) = x at *
      have HX := Lib.hid hx; clear hx
      gi_wp2
      refine ⟨rfl, HR.out.mono ?_⟩
      rintro e W3 (⟨rfl, hj3⟩ | ⟨rfl, hx3⟩)
      · have hn3 := (HA.out _ _ hj3).next HI.out
        rw [HX.out, HS.out] at hn3
        rw [HS.out] at hj3
        have HJ3 := Lib.hid hj3; clear hj3
        gi_wp2
        go_roundg k
        case rel => exact ⟨by omega, rfl, HJ3.out⟩
        case measure => omega
      · have HX3 := Lib.hid hx3; clear hx3
        gi_wp2
        refine bodyPost_ret (results_none rfl _ _ _) rfl ?_
        exact ⟨⟨_, rfl⟩, .inr ⟨_, HI.out, HX3.out⟩⟩

/-- What the iterator over a slice, backwards, reads. -/
def BackReads (bx bt c : Nat) (xs : List Nat) (W : World) : Prop := W.cell? ⟨bx, 0, none⟩ = some (.slice (some ⟨bt, 0, none⟩) xs.length c) ∧ ∀ k x, xs[k]? = some x → W.cell? ⟨bt, k, none⟩ = some (ptr x)

set_option maxRecDepth 100000 in
set_option maxHeartbeats 1000000 in
theorem back1_iter (bx bt c : Nat) (xs : List Nat) (hlen : xs.length ≤ 1000000000) : IterL Tryz.prog 78 #[.pointer (some ⟨bx, 0, none⟩)] xs.length (fun i => #[.int .i64 ((xs.length - 1 - i : Nat) : Int), ptr (xs.getD (xs.length - 1 - i) 0)]) (BackReads bx bt c xs) := by
  intro l J Jx W hA hD hY h0
  have hA0 := hA 0 W h0
  have r0 := hA0.1
  have HA := Lib.hid hA; clear hA
  have HD := Lib.hid hD; clear hD
  have HY := Lib.hid hY; clear hY
  have HJ := Lib.hid h0; clear h0 hA0
  refine callsIn_of_wp Tryz.func78 rfl trivial ?_ rfl
  simp only [Tryz.ntmps78, List.size_toArray, List.length_cons, List.length_nil, Nat.reduceAdd, Nat.reduceSub, Array.replicate_succ, Array.replicate_zero, List.push_toArray, List.append_toArray, List.nil_append, List.cons_append]
  gi_wp2
  gi_loopg [3] (xs.length) (fun k p wr => k ≤ xs.length ∧ p = .int .i64 ((k : Int) - 1) ∧ J (xs.length - k) wr)
  case atStart => exact ⟨Nat.le_refl _, rfl, by rw [Nat.sub_self]; exact HJ.out⟩
  case round =>
    obtain ⟨hk, rfl, hj⟩ := hrel
    have ha := HA.out _ _ hj
    have q0 := ha.1
    cases gk with
    | zero =>
      rw [Nat.sub_zero] at hj
      have HJ2 := Lib.hid hj; clear hj ha
      gi_wp2
      go_end0
      exact ⟨⟨_, rfl⟩, .inl HJ2.out⟩
    | succ k =>
      have hi : xs.length - (k + 1) < xs.length := by omega
      obtain ⟨fn, tmps, assign, body, hy, hR⟩ := HY.out _ _ hi hj
      have hs : xs.length - (k + 1) + 1 = xs.length - k := by omega
      have hk1 : xs.length - 1 - (xs.length - (k + 1)) = k := by omega
      rw [hk1] at hy
      have hkl : k < xs.length := by omega
      have hx : xs[k]? = some (xs.getD k 0) := by simp [List.getD, List.getElem?_eq_getElem hkl]
      have hc := ha.2 k _ hx
      have e1 : (((k + 1 : Nat) : Int) - 1) = (k : Int) := by omega
      rw [e1]
      have HR := Lib.hid hR; clear hR hj ha
      have HS := Lib.hid hs; clear hs hk1
      have HI := Lib.hid hi; clear hi hx e1
      generalize xs.getD k 0 = x at *
      gi_wp2
      refine ⟨rfl, HR.out.mono ?_⟩
      rintro e W3 (⟨rfl, hj3⟩ | ⟨rfl, hx3⟩)
      · rw [HS.out] at hj3
        have HJ3 := Lib.hid hj3; clear hj3
        gi_wp2
        go_roundg k
        case rel => exact ⟨by omega, rfl, HJ3.out⟩
        case measure => omega
      · have HX3 := Lib.hid hx3; clear hx3
        gi_wp2
        refine bodyPost_ret (results_none rfl _ _ _) rfl ?_
        exact ⟨⟨_, rfl⟩, .inr ⟨_, HI.out, HX3.out⟩⟩

/-- .. over a slice without an element. -/
def NilReads (bx : Nat) (a : Option Addr) (c : Nat) (W : World) : Prop := W.cell? ⟨bx, 0, none⟩ = some (.slice a 0 c)

set_option maxRecDepth 100000 in
set_option maxHeartbeats 1000000 in
theorem back1_nil (bx c : Nat) (a : Option Addr) : IterL Tryz.prog 78 #[.pointer (some ⟨bx, 0, none⟩)] 0 (fun i => #[.int .i64 i, ptr 0]) (NilReads bx a c) := by
  intro l J Jx W hA hD hY h0
  have r0 : W.cell? ⟨bx, 0, none⟩ = some (.slice a 0 c) := hA 0 W h0
  have HA := Lib.hid hA; clear hA
  have HD := Lib.hid hD; clear hD
  have HY := Lib.hid hY; clear hY
  have HJ := Lib.hid h0; clear h0
  refine callsIn_of_wp Tryz.func78 rfl trivial ?_ rfl
  simp only [Tryz.ntmps78, List.size_toArray, List.length_cons, List.length_nil, Nat.reduceAdd, Nat.reduceSub, Array.replicate_succ, Array.replicate_zero, List.push_toArray, List.append_toArray, List.nil_append, List.cons_append]
  gi_wp2
  gi_loopg [3] (0) (fun k p wr => k = 0 ∧ p = .int .i64 (-1) ∧ J 0 wr)
  case atStart => exact ⟨rfl, rfl, HJ.out⟩
  case round =>
    obtain ⟨rfl, rfl, hj⟩ := hrel
    have HJ2 := Lib.hid hj; clear hj
    gi_wp2
    go_end0
    exact ⟨⟨_, rfl⟩, .inl HJ2.out⟩
end Go.Proofs.YtcnpncndecjahaaGreatDoor.Mem

/-
  isOver and the two tests of victim.
-/
namespace Go.Proofs.YtcnpncndecjahaaGreatDoor.Mem
open Go.RowKit Go.Shelf

set_option maxHeartbeats 400000 in
theorem isOver_any (p bs bu n sc uc t : Nat) (s u m d : Int) (w : World) (ht : t < n)
    (h6 : w.cell? ⟨p, 6, none⟩ = some (.slice (some ⟨bs, 0, none⟩) n sc)) (h7 : w.cell? ⟨p, 7, none⟩ = some (.slice (some ⟨bu, 0, none⟩) n uc))
    (hs : w.cell? ⟨bs, t, none⟩ = some (.int .i64 s)) (hu : w.cell? ⟨bu, t, none⟩ = some (.int .i64 u)) (e1 : IntKind.i64.wrap (s - m) = d) :
    Calls Tryz.prog 76 #[ptr p, .int .i64 t, .int .i64 m] w fun e w' => e = .returned (.bool (decide (d < u))) ∧ ∃ k, w' = w.drewN k := by
  have hb : (0 : Int) ≤ (t : Int) := by omega
  have hb2 : (t : Int) < (n : Int) := by omega
  go_enter Tryz.func76, Tryz.ntmps76
  go_wp2
  go_quiet (fail)
  go_wp2
  go_ret
  exact ⟨rfl, _, rfl⟩

set_option maxHeartbeats 400000 in
theorem fits1_any (x bx t : Nat) (tt : Int) (w : World) (h1 : w.cell? ⟨x, 1, none⟩ = some (.int .i64 t)) (hb : w.cell? ⟨bx, 0, none⟩ = some (.int .i64 tt)) :
    Calls Tryz.prog 75 #[ptr x, .pointer (some ⟨bx, 0, none⟩)] w fun e w' => e = .returned (.bool ((t : Int) == tt)) ∧ ∃ k, w' = w.drewN k := by
  go_enter Tryz.func75, Tryz.ntmps75
  go_wp2
  go_quiet (fail)
  go_wp2
  go_ret
  exact ⟨rfl, _, rfl⟩

set_option maxHeartbeats 400000 in
theorem fits2_same (x bx bq t : Nat) (tt : Int) (w : World) (h1 : w.cell? ⟨x, 1, none⟩ = some (.int .i64 t)) (hb : w.cell? ⟨bx, 0, none⟩ = some (.int .i64 tt)) (he : ((t : Int) != tt) = false) :
    Calls Tryz.prog 77 #[ptr x, .pointer (some ⟨bx, 0, none⟩), .pointer (some ⟨bq, 0, none⟩)] w fun e w' => e = .returned (.bool false) ∧ ∃ k, w' = w.drewN k := by
  go_enter Tryz.func77, Tryz.ntmps77
  go_wp2
  go_quiet (fail)
  go_wp2
  go_ret
  exact ⟨rfl, _, rfl⟩

set_option maxHeartbeats 400000 in
theorem fits2_other (x bx bq p bs bu n sc uc t : Nat) (tt u z s d : Int) (w : World) (h1 : w.cell? ⟨x, 1, none⟩ = some (.int .i64 t)) (h2 : w.cell? ⟨x, 2, none⟩ = some (.int .i64 z)) (hb : w.cell? ⟨bx, 0, none⟩ = some (.int .i64 tt)) (hq : w.cell? ⟨bq, 0, none⟩ = some (ptr p)) (he : ((t : Int) != tt) = true)
    (ht : t < n) (h6 : w.cell? ⟨p, 6, none⟩ = some (.slice (some ⟨bs, 0, none⟩) n sc)) (h7 : w.cell? ⟨p, 7, none⟩ = some (.slice (some ⟨bu, 0, none⟩) n uc))
    (hs : w.cell? ⟨bs, t, none⟩ = some (.int .i64 s)) (hu : w.cell? ⟨bu, t, none⟩ = some (.int .i64 u)) (e1 : IntKind.i64.wrap (u - z) = d) :
    Calls Tryz.prog 77 #[ptr x, .pointer (some ⟨bx, 0, none⟩), .pointer (some ⟨bq, 0, none⟩)] w fun e w' => e = .returned (.bool (decide (s ≤ d))) ∧ ∃ k, w' = w.drewN k := by
  have hb0 : (0 : Int) ≤ (t : Int) := by omega
  have hb2 : (t : Int) < (n : Int) := by omega
  go_enter Tryz.func77, Tryz.ntmps77
  go_wp2
  go_quiet (fail)
  go_wp2
  go_ret
  exact ⟨rfl, _, rfl⟩
end Go.Proofs.YtcnpncndecjahaaGreatDoor.Mem

/-
  victim.
-/
namespace Go.Proofs.YtcnpncndecjahaaGreatDoor.Mem
open Go.RowKit Go.Shelf
attribute [local go_sem] Oper.semAt_some

/-- Is a tenant above its share with more units? -/
def overB (S : List Int) (L : List E) (t : Nat) (z : Int) : Bool := decide (S.getD t 0 - z < usedOf L t)
/-- May an entry be removed for a tenant? -/
def fitsB (S : List Int) (L : List E) (t : Nat) (z : Int) (x : E) : Bool :=
  if overB S L t z then (x.t : Int) == (t : Int) else ((x.t : Int) != (t : Int)) && decide (S.getD x.t 0 ≤ usedOf L x.t - x.z)


/-- One cell of a call's own. -/
def Box (W : World) (b : Nat) (v : Value) : Prop := ∃ t, W.heap[b]? = some (.cells #[v] t (0, 0))
theorem Box.cell {W : World} {b : Nat} {v : Value} (h : Box W b v) : W.cell? ⟨b, 0, none⟩ = some v := by obtain ⟨t, h⟩ := h; simp [World.cell?, h]
theorem Box.frozen {W : World} {b : Nat} {v : Value} (h : Box W b v) (o : Nat) : W.frozen? ⟨b, o, none⟩ = false := by obtain ⟨t, h⟩ := h; simp [World.frozen?, h]
theorem Box.lt {W : World} {b : Nat} {v : Value} (h : Box W b v) : b < W.heap.size := by obtain ⟨t, h⟩ := h; exact (Array.getElem?_eq_some_iff.1 h).1
theorem Box.new (W : World) (t : TypeId) (v : Value) : Box (W.alloc (.cells #[v] t)) W.heap.size v := ⟨t, World.alloc_heap_new W _⟩
theorem Box.keep {W W' : World} {b : Nat} {v : Value} {A : Nat → Prop} (h : Box W b v) (k : Keep A W W') (hA : ¬ A b) : Box W' b v := by obtain ⟨t, h⟩ := h; exact ⟨t, k.heap h hA⟩
theorem Box.alloc {W : World} {b : Nat} {v : Value} (h : Box W b v) (o : Obj) : Box (W.alloc o) b v := h.keep (A := fun _ => False) ((Keep.refl _ W).alloc o) (fun h => h)
theorem Box.drew {W : World} {b : Nat} {v : Value} (h : Box W b v) : Box W.drew b v := h
theorem Box.drewN {W : World} {b : Nat} {v : Value} (h : Box W b v) (k : Nat) : Box (W.drewN k) b v := h
theorem Box.set {W : World} {b : Nat} {v : Value} (h : Box W b v) (v' : Value) : Box (W.setCell ⟨b, 0, none⟩ v') b v' := by
  obtain ⟨t, h⟩ := h
  refine ⟨t, ?_⟩
  simp [World.setCell, Array.getElem?_modify, h]
theorem PoolIs.drewN {w : World} {g : Gh} (h : PoolIs w g) (k : Nat) : PoolIs (w.drewN k) g := h.keep (A := fun _ => False) ((Keep.refl _ w).drewN k) (fun _ _ h => h)
theorem Box.of_heap {W : World} {b : Nat} {v : Value} {t : TypeId} (h : W.heap[b]? = some (.cells #[v] t (0, 0))) : Box W b v := ⟨t, h⟩

/-- What victim's own boxes are. -/
structure VB (W : World) (n : Nat) (g : Gh) (t : Nat) (f : Value) (r : Value) : Prop where
  b0 : Box W n (ptr g.bp)
  b1 : Box W (n + 1) (.int .i64 t)
  b2 : Box W (n + 1 + 1) r
  b3 : Box W (n + 1 + 1 + 1) f
  p : PoolIs W g

theorem VB.keep {W W' : World} {n : Nat} {g : Gh} {t : Nat} {f r : Value} {A : Nat → Prop} (h : VB W n g t f r) (k : Keep A W W') (hA : ∀ i, i ≤ n + 3 → ¬ A i) (hg : ∀ i, g.foot i → ¬ A i) : VB W' n g t f r :=
  ⟨h.b0.keep k (hA _ (by omega)), h.b1.keep k (hA _ (by omega)), h.b2.keep k (hA _ (by omega)), h.b3.keep k (hA _ (by omega)), h.p.keep k hg⟩

theorem vb_made (w : World) (g : Gh) (t : Nat) (f : Value) (h : PoolIs w g) :
    VB ((((w.alloc (.cells #[ptr g.bp] 32)).alloc (.cells #[.int .i64 t] 3)).alloc (.cells #[.pointer none] 78)).alloc (.cells #[f] 147)) w.heap.size g t f (.pointer none) := by
  refine ⟨(((Box.new w 32 _).alloc _).alloc _).alloc _, ?_, ?_, ?_, (((h.alloc _).alloc _).alloc _).alloc _⟩
  · have := Box.new (w.alloc (.cells #[ptr g.bp] 32)) 3 (.int .i64 t)
    rw [World.size_alloc] at this
    exact (this.alloc _).alloc _
  · have := Box.new ((w.alloc (.cells #[ptr g.bp] 32)).alloc (.cells #[.int .i64 t] 3)) 78 (.pointer none)
    rw [World.size_alloc, World.size_alloc] at this
    exact this.alloc _
  · have := Box.new (((w.alloc (.cells #[ptr g.bp] 32)).alloc (.cells #[.int .i64 t] 3)).alloc (.cells #[.pointer none] 78)) 147 f
    rw [World.size_alloc, World.size_alloc, World.size_alloc] at this
    exact this

theorem PoolIs.share {w : World} {g : Gh} (h : PoolIs w g) {t : Nat} (ht : t < g.sh.length) : w.cell? ⟨g.bs, t, none⟩ = some (.int .i64 (g.sh.getD t 0)) ∧ 0 ≤ g.sh.getD t 0 ∧ g.sh.getD t 0 ≤ 1000000 := by
  have e : g.sh[t]? = some (g.sh.getD t 0) := by simp [List.getD, List.getElem?_eq_getElem ht]
  exact ⟨h.sh t _ e, h.shr _ (List.mem_of_getElem? e)⟩

theorem PoolIs.used_bd {w : World} {g : Gh} (h : PoolIs w g) (t : Nat) : 0 ≤ usedOf g.es t ∧ usedOf g.es t ≤ 1000000 := by
  have hpos : ∀ y ∈ g.es, 1 ≤ y.z := fun y hy => (h.rng y hy).2
  have h1 := usedOf_nonneg g.es t hpos
  have h2 := usedOf_le_tot g.es t hpos
  have h3 := h.le; have h4 := h.cap
  omega

theorem PoolIs.z_bd {w : World} {g : Gh} (h : PoolIs w g) {x : E} (hx : x ∈ g.es) : 1 ≤ x.z ∧ x.z ≤ usedOf g.es x.t := by
  have hpos : ∀ y ∈ g.es, 1 ≤ y.z := fun y hy => (h.rng y hy).2
  exact ⟨hpos x hx, usedOf_mem_le _ x hpos hx⟩

theorem isOver_pool (g : Gh) (t : Nat) (z : Int) (w : World) (h : PoolIs w g) (ht : t < g.sh.length) (hz : 1 ≤ z) (hz2 : z ≤ 9223372036854775807) :
    Calls Tryz.prog 76 #[ptr g.bp, .int .i64 t, .int .i64 z] w fun e w' => e = .returned (.bool (overB g.sh g.es t z)) ∧ ∃ k, w' = w.drewN k := by
  obtain ⟨h1, h2, h3⟩ := h.share ht
  exact isOver_any g.bp g.bs g.bu g.sh.length g.sc g.uc t _ _ z _ w ht h.c6 h.c7 h1 (h.us t ht) (wrap_in (by omega) (by omega))

theorem fits_over (g : Gh) (t n : Nat) (z : Int) (x : Ent) (w : World) {f r : Value} (h : VB w n g t f r) (hx : x ∈ g.L) (ho : overB g.sh g.es t z = true) :
    Calls Tryz.prog 75 #[ptr x.b, .pointer (some ⟨n + 1, 0, none⟩)] w fun e w' => e = .returned (.bool (fitsB g.sh g.es t z x.e)) ∧ ∃ k, w' = w.drewN k := by
  rw [fitsB, if_pos ho]
  exact fits1_any x.b (n + 1) x.e.t t w (h.p.ents x hx).c1 h.b1.cell

theorem fits_under (g : Gh) (t n : Nat) (z : Int) (x : Ent) (w : World) {f r : Value} (h : VB w n g t f r) (hx : x ∈ g.L) (ho : overB g.sh g.es t z = false) :
    Calls Tryz.prog 77 #[ptr x.b, .pointer (some ⟨n + 1, 0, none⟩), .pointer (some ⟨n, 0, none⟩)] w fun e w' => e = .returned (.bool (fitsB g.sh g.es t z x.e)) ∧ ∃ k, w' = w.drewN k := by
  have hxe : x.e ∈ g.es := List.mem_map_of_mem hx
  rw [fitsB, if_neg (by rw [ho]; decide)]
  by_cases he : ((x.e.t : Int) != (t : Int)) = true
  · rw [he, Bool.true_and]
    obtain ⟨h1, h2, h3⟩ := h.p.share (h.p.rng _ hxe).1
    have h4 := h.p.used_bd x.e.t
    have h5 := h.p.z_bd hxe
    exact fits2_other x.b (n + 1) n g.bp g.bs g.bu g.sh.length g.sc g.uc x.e.t t (usedOf g.es x.e.t) x.e.z (g.sh.getD x.e.t 0) _ w (h.p.ents x hx).c1 (h.p.ents x hx).c2 h.b1.cell h.b0.cell he (h.p.rng _ hxe).1 h.p.c6 h.p.c7 h1 (h.p.us _ (h.p.rng _ hxe).1) (wrap_in (by omega) (by omega))
  · have he' : ((x.e.t : Int) != (t : Int)) = false := by simpa using he
    rw [he', Bool.false_and]
    exact fits2_same x.b (n + 1) n x.e.t t w (h.p.ents x hx).c1 h.b1.cell he'

/-- Between two rounds. -/
def VI (w : World) (g : Gh) (t : Nat) (z : Int) (f : Value) (i : Nat) (V : World) : Prop :=
  VB V w.heap.size g t f (.pointer none) ∧ Box V (w.heap.size + 1 + 1 + 1 + 1) (ptr g.bp) ∧ Keep (fun _ => False) w V ∧ ∀ y ∈ g.L.take i, fitsB g.sh g.es t z y.e = false
/-- A round has found one. -/
def VX (w : World) (g : Gh) (t : Nat) (z : Int) (c : Code) (i : Nat) (V : World) : Prop :=
  c = .ret ∧ ∃ x, g.L[i]? = some x ∧ Box V (w.heap.size + 1 + 1) (ptr x.b) ∧ Keep (fun _ => False) w V ∧ (∀ y ∈ g.L.take i, fitsB g.sh g.es t z y.e = false) ∧ fitsB g.sh g.es t z x.e = true

theorem VI_own (w : World) (g : Gh) (t : Nat) (z : Int) (f : Value) (h : PoolIs w g) (B : Nat) (hB : w.heap.size + 5 ≤ B) : OwnFrom B (VI w g t z f) := by
  rintro i V V' row ⟨h1, h2, h3, h4⟩ hg hr
  have k := Keep.of_grown hg
  have hA : ∀ i, i < w.heap.size + 5 → ¬ (row = some i) := fun i hi e => by have := (hr i e).1; omega
  exact ⟨h1.keep k (fun i hi => hA i (by omega)) (fun i hi => hA i (by have := h.foot_lt hi; omega)), h2.keep k (hA _ (by omega)), h3.trans' k (fun i e => .inr (by have := (hr i e).1; omega)), h4⟩

theorem VX_own (w : World) (g : Gh) (t : Nat) (z : Int) (B : Nat) (hB : w.heap.size + 5 ≤ B) (c : Code) : OwnFrom B (VX w g t z c) := by
  rintro i V V' row ⟨h0, x, h1, h2, h3, h4, h5⟩ hg hr
  have k := Keep.of_grown hg
  have hA : ∀ i, i < w.heap.size + 5 → ¬ (row = some i) := fun i hi e => by have := (hr i e).1; omega
  exact ⟨h0, x, h1, h2.keep k (hA _ (by omega)), h3.trans' k (fun i e => .inr (by have := (hr i e).1; omega)), h4, h5⟩

theorem keepsOthers_of_keep {V V' : World} (h : Keep (fun _ => False) V V') : KeepsOthers V V' :=
  ⟨h.size, fun _k _o hk _ => h.heap hk (fun h => h)⟩
theorem take_succ_get {α : Type} {l : List α} {i : Nat} {x : α} (h : l[i]? = some x) : l.take (i + 1) = l.take i ++ [x] := by
  rw [List.take_add_one, h]; rfl
theorem split_at {α : Type} {l : List α} {i : Nat} {x : α} (h : l[i]? = some x) : l = l.take i ++ x :: l.drop (i + 1) := by
  obtain ⟨hi, rfl⟩ := List.getElem?_eq_some_iff.1 h
  rw [← List.drop_eq_getElem_cons hi, List.take_append_drop]
theorem ringAt_get {g : Gh} {i : Nat} {x : Ent} (h : g.L[i]? = some x) : ringAt g.bp g.bl i = x.b := by simp [ringAt, Gh.bl, h]
theorem PoolIs.reads {W : World} {g : Gh} {bx : Nat} (h : PoolIs W g) (hb : Box W bx (ptr g.bp)) : AllReads bx g.bp g.bl W :=
  ⟨hb.cell, h.links, fun _b hb => (ring_cells h hb).2.2.1⟩
theorem PoolIs.bp_notin {W : World} {g : Gh} (h : PoolIs W g) : g.bp ∉ g.bl := by
  have hnd := h.nd
  simp only [List.nodup_cons, List.mem_cons, not_or] at hnd
  exact hnd.1.2.2

set_option maxRecDepth 100000 in
set_option maxHeartbeats 1000000 in
theorem victim_over (g : Gh) (t : Nat) (z : Int) (w : World) (h : PoolIs w g) (ht : t < g.sh.length) (hz : 1 ≤ z) (hz2 : z ≤ 9223372036854775807) (ho : overB g.sh g.es t z = true) :
    Calls Tryz.prog 41 #[ptr g.bp, .int .i64 t, .int .i64 z] w fun e w' =>
      ((∃ X x Y, g.L = X ++ x :: Y ∧ (∀ y ∈ X, fitsB g.sh g.es t z y.e = false) ∧ fitsB g.sh g.es t z x.e = true ∧ e = .returned (ptr x.b)) ∨
        ((∀ y ∈ g.L, fitsB g.sh g.es t z y.e = false) ∧ e = .returned (.pointer none))) ∧ Keep (fun _ => False) w w' := by
  have H := Lib.hid h; clear h
  have HO := Lib.hid ho; clear ho
  refine (callsIn_wide (n := 0)).1 ?_
  refine callsIn_of_wp_marks Tryz.func41 rfl trivial ?_ rfl
  simp only [Tryz.ntmps41, List.size_toArray, List.length_cons, List.length_nil, Nat.reduceAdd, Nat.reduceSub, Array.replicate_succ, Array.replicate_zero, List.push_toArray, List.append_toArray, List.nil_append, List.cons_append]
  gi_wp2_with fail
  have hv := vb_made w g t (.func (.func 75) #[] #[.pointer (some ⟨w.heap.size + 1, 0, none⟩)]) H.out
  have hkp := (((Keep.refl (fun _ => False) w).alloc (.cells #[ptr g.bp] 32)).alloc (.cells #[.int .i64 t] 3)).alloc (.cells #[.pointer none] 78) |>.alloc (.cells #[.func (.func 75) #[] #[.pointer (some ⟨w.heap.size + 1, 0, none⟩)]] 147)
  have hsz : ((((w.alloc (.cells #[ptr g.bp] 32)).alloc (.cells #[.int .i64 t] 3)).alloc (.cells #[.pointer none] 78)).alloc (.cells #[.func (.func 75) #[] #[.pointer (some ⟨w.heap.size + 1, 0, none⟩)]] 147)).heap.size = w.heap.size + 4 := by simp
  generalize (((w.alloc (.cells #[ptr g.bp] 32)).alloc (.cells #[.int .i64 t] 3)).alloc (.cells #[.pointer none] 78)).alloc (.cells #[.func (.func 75) #[] #[.pointer (some ⟨w.heap.size + 1, 0, none⟩)]] 147) = w1 at hv hkp hsz ⊢
  refine ⟨trivial, rfl, (callsIn_wide.2 (isOver_pool g t z w1 hv.p ht hz hz2)).mono ?_⟩
  rintro e w' ⟨rfl, k, rfl⟩
  rw [HO.out]
  have hv2 : VB (w1.drewN k) w.heap.size g t _ _ := hv.keep (A := fun _ => False) ((Keep.refl _ w1).drewN k) (fun _ _ h => h) (fun _ _ h => h)
  have hkp2 := hkp.drewN k
  have hsz2 : (w1.drewN k).heap.size = w.heap.size + 1 + 1 + 1 + 1 := hsz
  generalize w1.drewN k = w2 at hv2 hkp2 hsz2 ⊢
  clear hv hkp hsz
  have c0 := hv2.b0.cell
  have c3 := hv2.b3.cell
  have HV := Lib.hid hv2; clear hv2
  have HK := Lib.hid hkp2; clear hkp2
  have HZ := Lib.hid hsz2; clear hsz2
  gi_wp2_with fail
  refine ⟨trivial, rfl, (callsIn_wide.2 (all_any g.bp w2)).mono ?_⟩
  rintro e w' ⟨rfl, rfl⟩
  have hv3 : VB (w2.alloc (.cells #[ptr g.bp] 132)) w.heap.size g t _ _ := HV.out.keep (A := fun _ => False) ((Keep.refl _ w2).alloc _) (fun _ _ h => h) (fun _ _ h => h)
  have hkp3 := HK.out.alloc (.cells #[ptr g.bp] 132)
  have hb3 := Box.new w2 132 (ptr g.bp)
  have hsz3 : (w2.alloc (.cells #[ptr g.bp] 132)).heap.size = w.heap.size + 1 + 1 + 1 + 1 + 1 := by rw [World.size_alloc, HZ.out]
  rw [HZ.out] at hb3
  rw [HZ.out]
  generalize w2.alloc (.cells #[ptr g.bp] 132) = w3 at hv3 hkp3 hb3 hsz3 ⊢
  clear HV HK HZ c0 c3
  gi_wp2_with fail
  refine range_list (gf := 80) (lb := #[.pointer (some ⟨w.heap.size + 1 + 1 + 1 + 1, 0, none⟩)]) rfl (enters_of Tryz.func80 (by kernel_rfl) rfl) (all1_iter _ g.bp g.bl H.out.bp_notin) (fun _ _ => rfl)
    (VI w g t z (.func (.func 75) #[] #[.pointer (some ⟨w.heap.size + 1, 0, none⟩)])) (VX w g t z) (VI_own _ _ _ _ _ H.out _ (by omega)) (VX_own _ _ _ _ _ (by omega))
    (fun i V h => h.1.p.reads h.2.1) ⟨hv3, hb3, hkp3, by simp⟩
    (fun i => { tmps := #[ptr g.bp, .int .i64 t, .int .i64 z, .pointer (some ⟨w.heap.size, 0, none⟩), .pointer (some ⟨w.heap.size + 1, 0, none⟩), undef, .pointer (some ⟨w.heap.size + 1 + 1, 0, none⟩), .pointer (some ⟨w.heap.size + 1 + 1 + 1, 0, none⟩), ptr (ringAt g.bp g.bl i),
      .func (.func 75) #[] #[.pointer (some ⟨w.heap.size + 1, 0, none⟩)], ptr g.bp, .int .i64 t, .int .i64 z, .bool true, .bool false, undef, ptr g.bp, .pointer (some ⟨g.bp, 0, none⟩), .pointer (some ⟨g.bp, 0, none⟩),
      .func (.func 80) #[] #[.pointer (some ⟨w.heap.size + 1 + 1 + 1 + 1, 0, none⟩)], ptr (ringAt g.bp g.bl i), undef, undef, undef, undef], defers := [] }) ?assign ?body ?done ?stop
  case assign =>
    intro l i V K hi hK
    gi_wp2
    exact hK
  case body =>
    rintro l i V hi ⟨h1, h2, h3, h4⟩ hs
    have hil : i < g.L.length := by simpa [Gh.bl] using hi
    have hx : g.L[i]? = some g.L[i] := List.getElem?_eq_getElem hil
    generalize g.L[i] = x at hx
    have hxm : x ∈ g.L := List.mem_of_getElem? hx
    rw [ringAt_get hx]
    have c3 := h1.b3.cell
    have hfit := fits_over g t w.heap.size z x V h1 hxm HO.out
    have H1 := Lib.hid h1; clear h1
    have H2 := Lib.hid h2; clear h2
    have H3 := Lib.hid h3; clear h3
    have H4 := Lib.hid h4; clear h4
    have HX := Lib.hid hx; clear hx
    have HF := Lib.hid hfit; clear hfit
    have HS := Lib.hid hs; clear hs
    have HSZ := Lib.hid hsz3; clear hsz3
    gi_wp2_with fail
    refine ⟨trivial, rfl, ((callsIn_wide.2 HF.out).inRound l).mono ?_⟩
    rintro e w' ⟨rfl, k, rfl⟩
    have c2 : (V.drewN k).cell? ⟨w.heap.size + 1 + 1, 0, none⟩ = some (.pointer none) := H1.out.b2.cell
    have f2 : (V.drewN k).frozen? ⟨w.heap.size + 1 + 1, 0, none⟩ = false := H1.out.b2.frozen 0
    have hkd := (Keep.refl (fun _ => False) V).drewN k
    have H1' : VB (V.drewN k) w.heap.size g t _ _ := H1.out.keep hkd (fun _ _ h => h) (fun _ _ h => h)
    have H2' := H2.out.drewN k
    have H3' := H3.out.drewN k
    have hko := keepsOthers_of_keep hkd
    generalize V.drewN k = V2 at c2 f2 H1' H2' H3' hko ⊢
    clear H1 H2 H3 c3 HF hkd
    cases hfb : fitsB g.sh g.es t z x.e with
    | true =>
      have HFB := Lib.hid hfb; clear hfb
      have HB := Lib.hid (And.intro H1' (And.intro H2' (And.intro H3' hko))); clear H1' H2' H3' hko
      gi_wp2_with fail
      obtain ⟨v1, v2, v3, v4⟩ := HB.out
      exact ⟨(v4.trans (KeepsOthers.setCell _ _ _)).from _, rfl, x, HX.out, v1.b2.set _, v3.setCell (p := ⟨w.heap.size + 1 + 1, 0, none⟩) _ (.inr (by show _ ≤ w.heap.size + 1 + 1; omega)), H4.out, HFB.out⟩
    | false =>
      have HFB := Lib.hid hfb; clear hfb
      have HB := Lib.hid (And.intro H1' (And.intro H2' (And.intro H3' hko))); clear H1' H2' H3' hko
      gi_wp2_with fail
      obtain ⟨v1, v2, v3, v4⟩ := HB.out
      refine ⟨v4.from _, v1, v2, v3, ?_⟩
      rw [take_succ_get HX.out]
      intro y hy
      rcases List.mem_append.1 hy with hy | hy
      · exact H4.out y hy
      · simp at hy; subst hy; exact HFB.out
  case done =>
    rintro D V hD ⟨h1, h2, h3, h4⟩ hK
    have c2 := h1.b2.cell
    have f2 := h1.b2.frozen 0
    have hlen : g.bl.length = g.L.length := by simp [Gh.bl]
    rw [hlen, List.take_length] at h4
    have H1 := Lib.hid h1; clear h1
    have H2 := Lib.hid h2; clear h2
    have H3 := Lib.hid h3; clear h3
    have H4 := Lib.hid h4; clear h4
    have HK := Lib.hid hK; clear hK
    have HL := Lib.hid hlen; clear hlen
    gi_wp2_with fail
    have hK' := (KeepsOthers.setCell V ⟨w.heap.size + 1 + 1, 0, none⟩ (.pointer none)).same D _ HK.out rfl
    refine ⟨by simp, .inl ⟨_, _, rfl, run_takeDeferred hK', ?_⟩⟩
    have hc5 := cell_kept (World.cell?_setCell_same' V ⟨w.heap.size + 1 + 1, 0, none⟩ (.pointer none) (by rw [c2]; rfl)) (grownBy_putObj' _ D (.deferred none)) (fun r e => by cases e; exact ⟨_, hK', rfl⟩)
    refine ⟨.pointer none, by simp [results, Tryz.f41, go_sem, hc5], .inr ⟨H4.out, rfl⟩, ?_⟩
    exact (H3.out.setCell (p := ⟨w.heap.size + 1 + 1, 0, none⟩) _ (.inr (by show _ ≤ w.heap.size + 1 + 1; omega))).putObj _ (.inr (by rw [hsz3] at hD; omega))
  case stop =>
    rintro D c i V hD hi ⟨rfl, x, h1, h2, h3, h4, h5⟩ hK
    have H2 := Lib.hid h2; clear h2
    have H1 := Lib.hid h1; clear h1
    have H3 := Lib.hid h3; clear h3
    have H4 := Lib.hid h4; clear h4
    have H5 := Lib.hid h5; clear h5
    have HK := Lib.hid hK; clear hK
    gi_wp2_with fail
    refine ⟨by simp, .inl ⟨_, _, rfl, run_takeDeferred HK.out, ?_⟩⟩
    have hc5 := cell_kept H2.out.cell (grownBy_putObj' _ D (.deferred none)) (fun r e => by cases e; exact ⟨_, HK.out, rfl⟩)
    refine ⟨ptr x.b, by simp [results, Tryz.f41, go_sem, hc5], .inl ⟨_, x, _, split_at H1.out, H4.out, H5.out, rfl⟩, ?_⟩
    exact H3.out.putObj _ (.inr (by rw [hsz3] at hD; omega))
set_option maxRecDepth 100000 in
set_option maxHeartbeats 1000000 in
theorem victim_under (g : Gh) (t : Nat) (z : Int) (w : World) (h : PoolIs w g) (ht : t < g.sh.length) (hz : 1 ≤ z) (hz2 : z ≤ 9223372036854775807) (ho : overB g.sh g.es t z = false) :
    Calls Tryz.prog 41 #[ptr g.bp, .int .i64 t, .int .i64 z] w fun e w' =>
      ((∃ X x Y, g.L = X ++ x :: Y ∧ (∀ y ∈ X, fitsB g.sh g.es t z y.e = false) ∧ fitsB g.sh g.es t z x.e = true ∧ e = .returned (ptr x.b)) ∨
        ((∀ y ∈ g.L, fitsB g.sh g.es t z y.e = false) ∧ e = .returned (.pointer none))) ∧ Keep (fun _ => False) w w' := by
  have H := Lib.hid h; clear h
  have HO := Lib.hid ho; clear ho
  refine (callsIn_wide (n := 0)).1 ?_
  refine callsIn_of_wp_marks Tryz.func41 rfl trivial ?_ rfl
  simp only [Tryz.ntmps41, List.size_toArray, List.length_cons, List.length_nil, Nat.reduceAdd, Nat.reduceSub, Array.replicate_succ, Array.replicate_zero, List.push_toArray, List.append_toArray, List.nil_append, List.cons_append]
  gi_wp2_with fail
  have hv := vb_made w g t (.func (.func 75) #[] #[.pointer (some ⟨w.heap.size + 1, 0, none⟩)]) H.out
  have hkp := (((Keep.refl (fun _ => False) w).alloc (.cells #[ptr g.bp] 32)).alloc (.cells #[.int .i64 t] 3)).alloc (.cells #[.pointer none] 78) |>.alloc (.cells #[.func (.func 75) #[] #[.pointer (some ⟨w.heap.size + 1, 0, none⟩)]] 147)
  have hsz : ((((w.alloc (.cells #[ptr g.bp] 32)).alloc (.cells #[.int .i64 t] 3)).alloc (.cells #[.pointer none] 78)).alloc (.cells #[.func (.func 75) #[] #[.pointer (some ⟨w.heap.size + 1, 0, none⟩)]] 147)).heap.size = w.heap.size + 4 := by simp
  generalize (((w.alloc (.cells #[ptr g.bp] 32)).alloc (.cells #[.int .i64 t] 3)).alloc (.cells #[.pointer none] 78)).alloc (.cells #[.func (.func 75) #[] #[.pointer (some ⟨w.heap.size + 1, 0, none⟩)]] 147) = w1 at hv hkp hsz ⊢
  refine ⟨trivial, rfl, (callsIn_wide.2 (isOver_pool g t z w1 hv.p ht hz hz2)).mono ?_⟩
  rintro e w' ⟨rfl, k, rfl⟩
  rw [HO.out]
  have hv2 : VB (w1.drewN k) w.heap.size g t _ _ := hv.keep (A := fun _ => False) ((Keep.refl _ w1).drewN k) (fun _ _ h => h) (fun _ _ h => h)
  have hkp2 := hkp.drewN k
  have hsz2 : (w1.drewN k).heap.size = w.heap.size + 1 + 1 + 1 + 1 := hsz
  generalize w1.drewN k = w2 at hv2 hkp2 hsz2 ⊢
  clear hv hkp hsz
  have c0 := hv2.b0.cell
  have c3 := hv2.b3.cell
  have f3 := hv2.b3.frozen 0
  have HV := Lib.hid hv2; clear hv2
  have HK := Lib.hid hkp2; clear hkp2
  have HZ := Lib.hid hsz2; clear hsz2
  gi_wp2_with fail
  have hks := (Keep.refl (fun k => k = w.heap.size + 1 + 1 + 1) w2).setCell (p := ⟨w.heap.size + 1 + 1 + 1, 0, none⟩) (.func (.func 77) #[] #[.pointer (some ⟨w.heap.size + 1, 0, none⟩), .pointer (some ⟨w.heap.size, 0, none⟩)]) (.inl rfl)
  have hnf : ∀ i, g.foot i → ¬ (i = w.heap.size + 1 + 1 + 1) := fun i hi e => by have := H.out.foot_lt hi; omega
  have hv2' : VB (w2.setCell ⟨w.heap.size + 1 + 1 + 1, 0, none⟩ (.func (.func 77) #[] #[.pointer (some ⟨w.heap.size + 1, 0, none⟩), .pointer (some ⟨w.heap.size, 0, none⟩)])) w.heap.size g t (.func (.func 77) #[] #[.pointer (some ⟨w.heap.size + 1, 0, none⟩), .pointer (some ⟨w.heap.size, 0, none⟩)]) (.pointer none) :=
    ⟨HV.out.b0.keep hks (by omega), HV.out.b1.keep hks (by omega), HV.out.b2.keep hks (by omega), HV.out.b3.set _, HV.out.p.keep hks hnf⟩
  have hkp2' := HK.out.setCell (p := ⟨w.heap.size + 1 + 1 + 1, 0, none⟩) (.func (.func 77) #[] #[.pointer (some ⟨w.heap.size + 1, 0, none⟩), .pointer (some ⟨w.heap.size, 0, none⟩)]) (.inr (by show _ ≤ w.heap.size + 1 + 1 + 1; omega))
  have hsz2' : (w2.setCell ⟨w.heap.size + 1 + 1 + 1, 0, none⟩ (.func (.func 77) #[] #[.pointer (some ⟨w.heap.size + 1, 0, none⟩), .pointer (some ⟨w.heap.size, 0, none⟩)])).heap.size = w.heap.size + 1 + 1 + 1 + 1 := by rw [World.size_setCell, HZ.out]
  generalize w2.setCell ⟨w.heap.size + 1 + 1 + 1, 0, none⟩ (.func (.func 77) #[] #[.pointer (some ⟨w.heap.size + 1, 0, none⟩), .pointer (some ⟨w.heap.size, 0, none⟩)]) = w2' at hv2' hkp2' hsz2' ⊢
  clear HV HK HZ c0 c3 f3 hks
  have HV := Lib.hid hv2'; clear hv2'
  have HK := Lib.hid hkp2'; clear hkp2'
  have HZ := Lib.hid hsz2'; clear hsz2'
  refine ⟨trivial, rfl, (callsIn_wide.2 (all_any g.bp w2')).mono ?_⟩
  rintro e w' ⟨rfl, rfl⟩
  have hv3 : VB (w2'.alloc (.cells #[ptr g.bp] 132)) w.heap.size g t _ _ := HV.out.keep (A := fun _ => False) ((Keep.refl _ w2').alloc _) (fun _ _ h => h) (fun _ _ h => h)
  have hkp3 := HK.out.alloc (.cells #[ptr g.bp] 132)
  have hb3 := Box.new w2' 132 (ptr g.bp)
  have hsz3 : (w2'.alloc (.cells #[ptr g.bp] 132)).heap.size = w.heap.size + 1 + 1 + 1 + 1 + 1 := by rw [World.size_alloc, HZ.out]
  rw [HZ.out] at hb3
  rw [HZ.out]
  generalize w2'.alloc (.cells #[ptr g.bp] 132) = w3 at hv3 hkp3 hb3 hsz3 ⊢
  clear HV HK HZ
  gi_wp2_with fail
  refine range_list (gf := 80) (lb := #[.pointer (some ⟨w.heap.size + 1 + 1 + 1 + 1, 0, none⟩)]) rfl (enters_of Tryz.func80 (by kernel_rfl) rfl) (all1_iter _ g.bp g.bl H.out.bp_notin) (fun _ _ => rfl)
    (VI w g t z (.func (.func 77) #[] #[.pointer (some ⟨w.heap.size + 1, 0, none⟩), .pointer (some ⟨w.heap.size, 0, none⟩)])) (VX w g t z) (VI_own _ _ _ _ _ H.out _ (by omega)) (VX_own _ _ _ _ _ (by omega))
    (fun i V h => h.1.p.reads h.2.1) ⟨hv3, hb3, hkp3, by simp⟩
    (fun i => { tmps := #[ptr g.bp, .int .i64 t, .int .i64 z, .pointer (some ⟨w.heap.size, 0, none⟩), .pointer (some ⟨w.heap.size + 1, 0, none⟩), undef, .pointer (some ⟨w.heap.size + 1 + 1, 0, none⟩), .pointer (some ⟨w.heap.size + 1 + 1 + 1, 0, none⟩), ptr (ringAt g.bp g.bl i),
      .func (.func 75) #[] #[.pointer (some ⟨w.heap.size + 1, 0, none⟩)], ptr g.bp, .int .i64 t, .int .i64 z, .bool false, .bool true, .func (.func 77) #[] #[.pointer (some ⟨w.heap.size + 1, 0, none⟩), .pointer (some ⟨w.heap.size, 0, none⟩)], ptr g.bp, .pointer (some ⟨g.bp, 0, none⟩), .pointer (some ⟨g.bp, 0, none⟩),
      .func (.func 80) #[] #[.pointer (some ⟨w.heap.size + 1 + 1 + 1 + 1, 0, none⟩)], ptr (ringAt g.bp g.bl i), undef, undef, undef, undef], defers := [] }) ?assign ?body ?done ?stop
  case assign =>
    intro l i V K hi hK
    gi_wp2
    exact hK
  case body =>
    rintro l i V hi ⟨h1, h2, h3, h4⟩ hs
    have hil : i < g.L.length := by simpa [Gh.bl] using hi
    have hx : g.L[i]? = some g.L[i] := List.getElem?_eq_getElem hil
    generalize g.L[i] = x at hx
    have hxm : x ∈ g.L := List.mem_of_getElem? hx
    rw [ringAt_get hx]
    have c3 := h1.b3.cell
    have hfit := fits_under g t w.heap.size z x V h1 hxm HO.out
    have H1 := Lib.hid h1; clear h1
    have H2 := Lib.hid h2; clear h2
    have H3 := Lib.hid h3; clear h3
    have H4 := Lib.hid h4; clear h4
    have HX := Lib.hid hx; clear hx
    have HF := Lib.hid hfit; clear hfit
    have HS := Lib.hid hs; clear hs
    have HSZ := Lib.hid hsz3; clear hsz3
    gi_wp2_with fail
    refine ⟨trivial, rfl, ((callsIn_wide.2 HF.out).inRound l).mono ?_⟩
    rintro e w' ⟨rfl, k, rfl⟩
    have c2 : (V.drewN k).cell? ⟨w.heap.size + 1 + 1, 0, none⟩ = some (.pointer none) := H1.out.b2.cell
    have f2 : (V.drewN k).frozen? ⟨w.heap.size + 1 + 1, 0, none⟩ = false := H1.out.b2.frozen 0
    have hkd := (Keep.refl (fun _ => False) V).drewN k
    have H1' : VB (V.drewN k) w.heap.size g t _ _ := H1.out.keep hkd (fun _ _ h => h) (fun _ _ h => h)
    have H2' := H2.out.drewN k
    have H3' := H3.out.drewN k
    have hko := keepsOthers_of_keep hkd
    generalize V.drewN k = V2 at c2 f2 H1' H2' H3' hko ⊢
    clear H1 H2 H3 c3 HF hkd
    cases hfb : fitsB g.sh g.es t z x.e with
    | true =>
      have HFB := Lib.hid hfb; clear hfb
      have HB := Lib.hid (And.intro H1' (And.intro H2' (And.intro H3' hko))); clear H1' H2' H3' hko
      gi_wp2_with fail
      obtain ⟨v1, v2, v3, v4⟩ := HB.out
      exact ⟨(v4.trans (KeepsOthers.setCell _ _ _)).from _, rfl, x, HX.out, v1.b2.set _, v3.setCell (p := ⟨w.heap.size + 1 + 1, 0, none⟩) _ (.inr (by show _ ≤ w.heap.size + 1 + 1; omega)), H4.out, HFB.out⟩
    | false =>
      have HFB := Lib.hid hfb; clear hfb
      have HB := Lib.hid (And.intro H1' (And.intro H2' (And.intro H3' hko))); clear H1' H2' H3' hko
      gi_wp2_with fail
      obtain ⟨v1, v2, v3, v4⟩ := HB.out
      refine ⟨v4.from _, v1, v2, v3, ?_⟩
      rw [take_succ_get HX.out]
      intro y hy
      rcases List.mem_append.1 hy with hy | hy
      · exact H4.out y hy
      · simp at hy; subst hy; exact HFB.out
  case done =>
    rintro D V hD ⟨h1, h2, h3, h4⟩ hK
    have c2 := h1.b2.cell
    have f2 := h1.b2.frozen 0
    have hlen : g.bl.length = g.L.length := by simp [Gh.bl]
    rw [hlen, List.take_length] at h4
    have H1 := Lib.hid h1; clear h1
    have H2 := Lib.hid h2; clear h2
    have H3 := Lib.hid h3; clear h3
    have H4 := Lib.hid h4; clear h4
    have HK := Lib.hid hK; clear hK
    have HL := Lib.hid hlen; clear hlen
    gi_wp2_with fail
    have hK' := (KeepsOthers.setCell V ⟨w.heap.size + 1 + 1, 0, none⟩ (.pointer none)).same D _ HK.out rfl
    refine ⟨by simp, .inl ⟨_, _, rfl, run_takeDeferred hK', ?_⟩⟩
    have hc5 := cell_kept (World.cell?_setCell_same' V ⟨w.heap.size + 1 + 1, 0, none⟩ (.pointer none) (by rw [c2]; rfl)) (grownBy_putObj' _ D (.deferred none)) (fun r e => by cases e; exact ⟨_, hK', rfl⟩)
    refine ⟨.pointer none, by simp [results, Tryz.f41, go_sem, hc5], .inr ⟨H4.out, rfl⟩, ?_⟩
    exact (H3.out.setCell (p := ⟨w.heap.size + 1 + 1, 0, none⟩) _ (.inr (by show _ ≤ w.heap.size + 1 + 1; omega))).putObj _ (.inr (by rw [hsz3] at hD; omega))
  case stop =>
    rintro D c i V hD hi ⟨rfl, x, h1, h2, h3, h4, h5⟩ hK
    have H2 := Lib.hid h2; clear h2
    have H1 := Lib.hid h1; clear h1
    have H3 := Lib.hid h3; clear h3
    have H4 := Lib.hid h4; clear h4
    have H5 := Lib.hid h5; clear h5
    have HK := Lib.hid hK; clear hK
    gi_wp2_with fail
    refine ⟨by simp, .inl ⟨_, _, rfl, run_takeDeferred HK.out, ?_⟩⟩
    have hc5 := cell_kept H2.out.cell (grownBy_putObj' _ D (.deferred none)) (fun r e => by cases e; exact ⟨_, HK.out, rfl⟩)
    refine ⟨ptr x.b, by simp [results, Tryz.f41, go_sem, hc5], .inl ⟨_, x, _, split_at H1.out, H4.out, H5.out, rfl⟩, ?_⟩
    exact H3.out.putObj _ (.inr (by rw [hsz3] at hD; omega))

theorem victim_pool (g : Gh) (t : Nat) (z : Int) (w : World) (h : PoolIs w g) (ht : t < g.sh.length) (hz : 1 ≤ z) (hz2 : z ≤ 9223372036854775807) :
    Calls Tryz.prog 41 #[ptr g.bp, .int .i64 t, .int .i64 z] w fun e w' =>
      ((∃ X x Y, g.L = X ++ x :: Y ∧ (∀ y ∈ X, fitsB g.sh g.es t z y.e = false) ∧ fitsB g.sh g.es t z x.e = true ∧ e = .returned (ptr x.b)) ∨
        ((∀ y ∈ g.L, fitsB g.sh g.es t z y.e = false) ∧ e = .returned (.pointer none))) ∧ Keep (fun _ => False) w w' := by
  cases ho : overB g.sh g.es t z with
  | true => exact victim_over g t z w h ht hz hz2 ho
  | false => exact victim_under g t z w h ht hz hz2 ho
end Go.Proofs.YtcnpncndecjahaaGreatDoor.Mem

/-
  Appending one element; Keys.
-/
namespace Go.Proofs.YtcnpncndecjahaaGreatDoor.Mem
open Go.RowKit Go.Shelf
attribute [local go_sem] Oper.semAt_some

theorem info9 : (Tryz.prog.info? 9).map (fun i => (i.zero, i.size, i.bytes)) = some (some (.string ⟨#[]⟩), 1, 16) := by kernel_rfl
theorem info55 : (Tryz.prog.info? 78).map (fun i => (i.zero, i.size, i.bytes)) = some (some (.pointer none), 1, 8) := by kernel_rfl
theorem info3 : (Tryz.prog.info? 3).map (fun i => (i.zero, i.size, i.bytes)) = some (some (.int .i64 0), 1, 8) := by kernel_rfl

/-- One element more, for a slice of the call's own; the element lies in a new block. -/
theorem app_one {t e : TypeId} {z : Value} {bytes : Nat} (ht : Tryz.prog.underlying t = some (.slice e)) (hinfo : (Tryz.prog.info? e).map (fun i => (i.zero, i.size, i.bytes)) = some (some z, 1, bytes)) (hz : z.cells.size = 1)
    (W : World) (ty lo : Nat) (v : Value) (n : Nat) (xs : List Value) (x : Value) (hx : x.oneCell' = true) (hown : W.ownsRow lo e 1 v n xs) (hn : n + 1 ≤ 1000000000) (hb : bytes ≤ 1000) (hlo : lo ≤ W.heap.size) :
    ∃ v' w', (Builtin.append_ #[t, t] ty #[v, .slice (some ⟨W.heap.size, 0, none⟩) 1 1]).run Tryz.prog (W.alloc (.cells #[x] e)) = .ok v' w' ∧ w'.ownsRow lo e 1 v' (n + 1) (xs ++ [x]) ∧
      Keep (fun k => v.ownBlock = some k) W w' ∧ (v'.ownBlock = v.ownBlock ∨ v'.ownBlock = some (W.heap.size + 1)) ∧ ∃ g c, v' = .slice (some ⟨g, 0, none⟩) (n + 1) c := by
  obtain ⟨i0, hi, hz0, hz1, hz2⟩ := info_parts hinfo
  obtain ⟨v', w', h1, h2, h3, h4, h5⟩ := run_append_own_at (P := Tryz.prog) (W.alloc (.cells #[x] e)) lo t ty e i0 z 1 bytes ht hi hz0 hz1 hz2 hz (by decide) v n xs (hown.alloc _) ⟨W.heap.size, 0, none⟩ 1 1 [x] rfl (cell_one_new W x e)
    (by simpa using hx) (by unfold maxLen; omega) (by have := Nat.mul_le_mul hn hb; omega) (by rw [World.size_alloc]; omega)
  refine ⟨v', w', h1, h2, ((Keep.refl _ W).alloc _).trans (Keep.of_grown h3), by rw [World.size_alloc] at h5; exact h5, ?_⟩
  exact ownsRow_succ h2

theorem app_str (W : World) (ty lo : Nat) (v : Value) (n : Nat) (xs : List Value) (s : ByteArray) (hown : W.ownsRow lo 9 1 v n xs) (hn : n + 1 ≤ 1000000000) (hlo : lo ≤ W.heap.size) :
    ∃ v' w', (Builtin.append_ #[35, 35] ty #[v, .slice (some ⟨W.heap.size, 0, none⟩) 1 1]).run Tryz.prog (W.alloc (.cells #[.string s] 9)) = .ok v' w' ∧ w'.ownsRow lo 9 1 v' (n + 1) (xs ++ [.string s]) ∧
      Keep (fun k => v.ownBlock = some k) W w' ∧ (v'.ownBlock = v.ownBlock ∨ v'.ownBlock = some (W.heap.size + 1)) ∧ ∃ g c, v' = .slice (some ⟨g, 0, none⟩) (n + 1) c :=
  app_one Tryz.underlying35 info9 rfl W ty lo v n xs (.string s) rfl hown hn (by decide) hlo
theorem app_ptr (W : World) (ty lo : Nat) (v : Value) (n : Nat) (xs : List Value) (b : Nat) (hown : W.ownsRow lo 78 1 v n xs) (hn : n + 1 ≤ 1000000000) (hlo : lo ≤ W.heap.size) :
    ∃ v' w', (Builtin.append_ #[111, 111] ty #[v, .slice (some ⟨W.heap.size, 0, none⟩) 1 1]).run Tryz.prog (W.alloc (.cells #[ptr b] 78)) = .ok v' w' ∧ w'.ownsRow lo 78 1 v' (n + 1) (xs ++ [ptr b]) ∧
      Keep (fun k => v.ownBlock = some k) W w' ∧ (v'.ownBlock = v.ownBlock ∨ v'.ownBlock = some (W.heap.size + 1)) ∧ ∃ g c, v' = .slice (some ⟨g, 0, none⟩) (n + 1) c :=
  app_one Tryz.underlying111 info55 rfl W ty lo v n xs (ptr b) rfl hown hn (by decide) hlo
theorem app_int (W : World) (ty lo : Nat) (v : Value) (n : Nat) (xs : List Value) (b : Int) (hown : W.ownsRow lo 3 1 v n xs) (hn : n + 1 ≤ 1000000000) (hlo : lo ≤ W.heap.size) :
    ∃ v' w', (Builtin.append_ #[24, 24] ty #[v, .slice (some ⟨W.heap.size, 0, none⟩) 1 1]).run Tryz.prog (W.alloc (.cells #[.int .i64 b] 3)) = .ok v' w' ∧ w'.ownsRow lo 3 1 v' (n + 1) (xs ++ [.int .i64 b]) ∧
      Keep (fun k => v.ownBlock = some k) W w' ∧ (v'.ownBlock = v.ownBlock ∨ v'.ownBlock = some (W.heap.size + 1)) ∧ ∃ g c, v' = .slice (some ⟨g, 0, none⟩) (n + 1) c :=
  app_one Tryz.underlying24 info3 rfl W ty lo v n xs (.int .i64 b) rfl hown hn (by decide) hlo

theorem ownsRow_keep {W W' : World} {lo : Nat} {e : TypeId} {v : Value} {n : Nat} {xs : List Value} {A : Nat → Prop} (h : W.ownsRow lo e 1 v n xs) (k : Keep A W W') (hA : ∀ b, v.ownBlock = some b → ¬ A b) : W'.ownsRow lo e 1 v n xs := by
  have hlt := h.lt
  obtain ⟨h1, h2⟩ := h
  refine ⟨h1, ?_⟩
  rcases h2 with h2 | ⟨g, cap, cur, rfl, hb, hh, r⟩
  · exact .inl h2
  · exact .inr ⟨g, cap, cur, rfl, hb, k.heap hh (hA g rfl), r⟩

/-- The keys of a tenant, in their order. -/
def keysOf (L : List E) (t : Int) : List ByteArray := (L.filter (fun e => (e.t : Int) == t)).map E.key

theorem keysOf_snoc (L : List E) (x : E) (t : Int) : keysOf (L ++ [x]) t = keysOf L t ++ if ((x.t : Int) == t) then [x.key] else [] := by
  unfold keysOf
  rw [List.filter_append, List.map_append]
  by_cases h : ((x.t : Int) == t) = true
  · simp [h]
  · simp [h]
theorem keysOf_length (L : List E) (t : Int) : (keysOf L t).length ≤ L.length := by unfold keysOf; rw [List.length_map]; exact List.length_filter_le _ _

theorem length_le_tot : ∀ (L : List E), (∀ x ∈ L, 1 ≤ x.z) → (L.length : Int) ≤ tot L
  | [], _ => by simp [tot]
  | x :: r, h => by rw [tot_cons]; have := h x (by simp); have := length_le_tot r (fun y hy => h y (by simp [hy])); simp only [List.length_cons]; omega
theorem PoolIs.len {w : World} {g : Gh} (h : PoolIs w g) : g.L.length ≤ 1000000 := by
  have h1 := length_le_tot g.es (fun y hy => (h.rng y hy).2)
  have h2 := h.le; have h3 := h.cap
  simp [Gh.es] at h1 h2
  omega

/-- An append in a round, its run known. -/
theorem step_app {l n : Nat} {P : Program} {ops : Array Oper} {o : Oper} {a : Act} {w w' : World} {K : Act → World → Prop} {Q : Exit → Act → World → Prop} {E : Prop} {v v2 v' : Value}
    (hg : o.guard = none) (s x : Operand) (t : TypeId) (hop : o.op = Op.call { callee := Callee.builtin Builtin.append, args := #[s, x], argTypes := #[t, t] })
    (hs : a.eval s = v) (hx : a.eval x = v2) (hrun : (Builtin.append_ #[t, t] o.type #[v, v2]).run P w = .ok v' w') (hK : K (a.put o.dst v') w') :
    if Region.wanted o (yielded ops a.tmps) = true then Oper.wpIn (Fence.wide.inRound l) n P o a w K Q else E := by
  have hw : Region.wanted o (yielded ops a.tmps) = true := by simp [Region.wanted, hg]
  rw [if_pos hw]
  unfold Oper.wpIn
  refine ⟨fun _ _ => trivial, ?_⟩
  rw [Oper.semAt_plain _ _ _ (by rw [hop]; intro c hc'; cases hc')]
  simp [execOp, hop, resolve, invoke, builtin, hs, hx, hrun, Result.andThen]
  exact hK

/-- Between two rounds of Keys. -/
def KI (w : World) (g : Gh) (t : Int) (i : Nat) (V : World) : Prop :=
  Box V w.heap.size (.int .i64 t) ∧ Box V (w.heap.size + 1 + 1) (ptr g.bp) ∧ PoolIs V g ∧ Keep (fun _ => False) w V ∧ w.heap.size + 1 + 1 + 1 ≤ V.heap.size ∧
    ∃ v, Box V (w.heap.size + 1) v ∧ V.ownsRow (w.heap.size + 1 + 1 + 1) 9 1 v (keysOf ((g.L.take i).map Ent.e) t).length ((keysOf ((g.L.take i).map Ent.e) t).map Value.string)

theorem _root_.Go.Proofs.YtcnpncndecjahaaGreatDoor.Keep.of_drew2 {A : Nat → Prop} {V W : World} (h : Keep A V.drew.drew W) : Keep A V W := ⟨h.os, h.tape, h.output, h.size, h.block⟩

theorem KI_own (w : World) (g : Gh) (t : Int) (h : PoolIs w g) (B : Nat) (hB : w.heap.size + 3 ≤ B) : OwnFrom B (KI w g t) := by
  rintro i V V' row ⟨h1, h2, h3, h4, hs, v, h5, h6⟩ hg hr
  have k := Keep.of_grown hg
  have hA : ∀ i, i < w.heap.size + 3 → ¬ (row = some i) := fun i hi e => by have := (hr i e).1; omega
  refine ⟨h1.keep k (hA _ (by omega)), h2.keep k (hA _ (by omega)), h3.keep k (fun i hi => hA i (by have := h.foot_lt hi; omega)), h4.trans' k (fun i e => .inr (by have := (hr i e).1; omega)), Nat.le_trans hs k.size, v, h5.keep k (hA _ (by omega)), ?_⟩
  refine ownsRow_keep h6 k (fun b hb e => ?_)
  obtain ⟨_, o, ho, hc⟩ := hr b e
  rcases h6.2 with ⟨rfl, _⟩ | ⟨g', cap, cur, rfl, hb', hh, _⟩
  · cases hb
  · cases hb
    rw [hh] at ho
    cases ho
    cases hc

set_option maxHeartbeats 400000 in
theorem keys_nil (t : Int) (w : World) : Calls Tryz.prog 14 #[.pointer none, .int .i64 t] w fun e w' => e = .returned (.slice none 0 0) ∧ Keep (fun _ => False) w w' := by
  go_enter Tryz.func14, Tryz.ntmps14
  go_wp2
  refine bodyPost_ret (v := .slice none 0 0) (by simp [results, Tryz.f14, go_sem]) rfl ⟨rfl, ?_⟩
  exact ((Keep.refl _ w).alloc _).alloc _

set_option maxRecDepth 100000 in
set_option maxHeartbeats 1000000 in
theorem keys_pool (g : Gh) (t : Int) (w : World) (h : PoolIs w g) :
    Calls Tryz.prog 14 #[ptr g.bp, .int .i64 t] w fun e w' => ∃ v, e = .returned v ∧ w'.ownsRow w.heap.size 9 1 v (keysOf g.es t).length ((keysOf g.es t).map Value.string) ∧ Keep (fun _ => False) w w' := by
  have H := Lib.hid h; clear h
  refine (callsIn_wide (n := 0)).1 ?_
  refine callsIn_of_wp_marks Tryz.func14 rfl trivial ?_ rfl
  simp only [Tryz.ntmps14, List.size_toArray, List.length_cons, List.length_nil, Nat.reduceAdd, Nat.reduceSub, Array.replicate_succ, Array.replicate_zero, List.push_toArray, List.append_toArray, List.nil_append, List.cons_append]
  gi_wp2_with fail
  refine ⟨trivial, rfl, (callsIn_wide.2 (all_any g.bp _)).mono ?_⟩
  rintro e w' ⟨rfl, rfl⟩
  have hb0 : Box (((w.alloc (.cells #[.int .i64 t] 3)).alloc (.cells #[.slice none 0 0] 35)).alloc (.cells #[ptr g.bp] 132)) w.heap.size (.int .i64 t) := ((Box.new w 3 _).alloc _).alloc _
  have hb1 : Box (((w.alloc (.cells #[.int .i64 t] 3)).alloc (.cells #[.slice none 0 0] 35)).alloc (.cells #[ptr g.bp] 132)) (w.heap.size + 1) (.slice none 0 0) := by
    have := Box.new (w.alloc (.cells #[.int .i64 t] 3)) 35 (.slice none 0 0)
    rw [World.size_alloc] at this
    exact this.alloc _
  have hb2 : Box (((w.alloc (.cells #[.int .i64 t] 3)).alloc (.cells #[.slice none 0 0] 35)).alloc (.cells #[ptr g.bp] 132)) (w.heap.size + 1 + 1) (ptr g.bp) := by
    have := Box.new ((w.alloc (.cells #[.int .i64 t] 3)).alloc (.cells #[.slice none 0 0] 35)) 132 (ptr g.bp)
    rw [World.size_alloc, World.size_alloc] at this
    exact this
  have hp : PoolIs (((w.alloc (.cells #[.int .i64 t] 3)).alloc (.cells #[.slice none 0 0] 35)).alloc (.cells #[ptr g.bp] 132)) g := ((H.out.alloc _).alloc _).alloc _
  have hkp := (((Keep.refl (fun _ => False) w).alloc (.cells #[.int .i64 t] 3)).alloc (.cells #[.slice none 0 0] 35)).alloc (.cells #[ptr g.bp] 132)
  have hsz : (((w.alloc (.cells #[.int .i64 t] 3)).alloc (.cells #[.slice none 0 0] 35)).alloc (.cells #[ptr g.bp] 132)).heap.size = w.heap.size + 1 + 1 + 1 := by simp
  rw [show ((w.alloc (.cells #[.int .i64 t] 3)).alloc (.cells #[.slice none 0 0] 35)).heap.size = w.heap.size + 1 + 1 by simp]
  generalize ((w.alloc (.cells #[.int .i64 t] 3)).alloc (.cells #[.slice none 0 0] 35)).alloc (.cells #[ptr g.bp] 132) = w1 at hb0 hb1 hb2 hp hkp hsz ⊢
  have HSZ := Lib.hid hsz; clear hsz
  gi_wp2_with fail
  refine range_list (gf := 80) (lb := #[.pointer (some ⟨w.heap.size + 1 + 1, 0, none⟩)]) rfl (enters_of Tryz.func80 (by kernel_rfl) rfl) (all1_iter _ g.bp g.bl H.out.bp_notin) (fun _ _ => rfl)
    (KI w g t) (fun _ _ _ => False) (KI_own _ _ _ H.out _ (by rw [HSZ.out]; omega)) (fun _ _ _ _ _ h _ _ => h)
    (fun i V h => h.2.2.1.reads h.2.1) ⟨hb0, hb2, hp, hkp, by rw [HSZ.out]; omega, _, hb1, World.ownsRow_nil _ _ _ _⟩
    (fun i => { tmps := #[ptr g.bp, .int .i64 t, undef, .pointer (some ⟨w.heap.size, 0, none⟩), .pointer (some ⟨w.heap.size + 1, 0, none⟩), ptr (ringAt g.bp g.bl i), ptr g.bp, .bool false, ptr g.bp, .pointer (some ⟨g.bp, 0, none⟩), .pointer (some ⟨g.bp, 0, none⟩),
      .func (.func 80) #[] #[.pointer (some ⟨w.heap.size + 1 + 1, 0, none⟩)], ptr (ringAt g.bp g.bl i), undef, undef, undef, undef, undef, undef, undef, undef, undef, undef, undef, undef, undef, undef], defers := [] }) ?assign ?body ?done ?stop
  case assign =>
    intro l i V K hi hK
    gi_wp2
    exact hK
  case body =>
    rintro l i V hi ⟨h1, h2, h3, h4, h5, v, h6, h7⟩ hs
    have hil : i < g.L.length := by simpa [Gh.bl] using hi
    have hx : g.L[i]? = some g.L[i] := List.getElem?_eq_getElem hil
    generalize g.L[i] = x at hx
    have hxm : x ∈ g.L := List.mem_of_getElem? hx
    rw [ringAt_get hx]
    have hx' := h3.ents x hxm
    have c0 := hx'.c0
    have c1 := hx'.c1
    have cb := h1.cell
    have co := h6.cell
    have fo := h6.frozen 0
    have hkl := keysOf_length ((g.L.take i).map Ent.e) t
    have hln := H.out.len
    rw [List.length_map, List.length_take] at hkl
    have hstep : keysOf ((g.L.take (i + 1)).map Ent.e) t = keysOf ((g.L.take i).map Ent.e) t ++ if ((x.e.t : Int) == t) then [x.e.key] else [] := by
      rw [take_succ_get hx, List.map_append]; exact keysOf_snoc _ _ _
    have HST := Lib.hid hstep; clear hstep
    generalize keysOf ((g.L.take i).map Ent.e) t = ks at h7 HST hkl
    have HH := Lib.hid (And.intro h1 (And.intro h2 (And.intro h3 (And.intro h4 (And.intro h5 (And.intro h6 h7)))))); clear h1 h2 h3 h4 h5 h6 h7 hx'
    have HX := Lib.hid hx; clear hx
    have HS := Lib.hid hs; clear hs
    cases hte : ((x.e.t : Int) == t) with
    | false =>
      have hte' : ((x.e.t : Int) == t) = false := hte
      have fin : roundL w1.heap.size (KI w g t) (fun _ _ _ => False) i V .normal ⟨#[], []⟩ V.drew := by
        obtain ⟨h1, h2, h3, h4, h5, h6, h7⟩ := HH.out
        refine ⟨(KeepsOthers.drew V).from _, h1.drew, h2.drew, h3.drew, h4.drew, h5, v, h6.drew, ?_⟩
        rw [HST.out, hte', if_neg (by decide), List.append_nil]
        exact h7
      have FIN := Lib.hid fin; clear fin
      gi_wp2
      gi_region
      all_goals (gi_wp2; exact FIN.out)
    | true =>
      have hte' : ((x.e.t : Int) == t) = true := hte
      obtain ⟨v', w', happ, hown', hk', hloc, gb, cc, rfl⟩ := app_str V.drew.drew 35 (w.heap.size + 1 + 1 + 1) v ks.length (ks.map Value.string) x.e.key HH.out.2.2.2.2.2.2 (by omega) HH.out.2.2.2.2.1
      have happ' : (Builtin.append_ #[35, 35] 35 #[v, .slice (some ⟨V.heap.size, 0, none⟩) 1 1]).run Tryz.prog ((V.alloc (.cells #[.string x.e.key] 9)).drew.drew) = .ok (.slice (some ⟨gb, 0, none⟩) (ks.length + 1) cc) w' := happ
      have hk2 : Keep (fun k => v.ownBlock = some k) V w' := hk'.of_drew2
      have hob : ∀ b, v.ownBlock = some b → w.heap.size + 1 + 1 + 1 ≤ b := fun b hb => (HH.out.2.2.2.2.2.2.lt b hb).1
      have hbx : Box w' (w.heap.size + 1) v := HH.out.2.2.2.2.2.1.keep hk2 (fun e => by have := hob _ e; omega)
      have cw := hbx.cell
      have fw := hbx.frozen 0
      have coa : (V.alloc (.cells #[.string x.e.key] 9)).cell? ⟨w.heap.size + 1, 0, none⟩ = some v := (HH.out.2.2.2.2.2.1.alloc _).cell
      have fin : roundL w1.heap.size (KI w g t) (fun _ _ _ => False) i V .normal ⟨#[], []⟩ (w'.setCell ⟨w.heap.size + 1, 0, none⟩ (.slice (some ⟨gb, 0, none⟩) (ks.length + 1) cc)) := by
        obtain ⟨h1, h2, h3, h4, h5, h6, h7⟩ := HH.out
        have hgb : w.heap.size + 1 + 1 + 1 ≤ gb := (hown'.lt gb rfl).1
        have ks1 := (Keep.refl (fun k => k = w.heap.size + 1) w').setCell (p := ⟨w.heap.size + 1, 0, none⟩) (.slice (some ⟨gb, 0, none⟩) (ks.length + 1) cc) (.inl rfl)
        have hft : ∀ i, g.foot i → i < w.heap.size := fun i hi => H.out.foot_lt hi
        have a1 := (h1.keep hk2 (fun e => by have := hob _ e; omega)).keep ks1 (by omega)
        have a2 := (h2.keep hk2 (fun e => by have := hob _ e; omega)).keep ks1 (by omega)
        have a3 := (h3.keep hk2 (fun i hi e => by have := hob _ e; have := hft i hi; omega)).keep ks1 (fun i hi e => by have := hft i hi; omega)
        refine ⟨⟨?_, ?_⟩, a1, a2, a3, ?_, ?_, _, hbx.set _, ?_⟩
        · exact Nat.le_trans hk2.size ks1.size
        · intro k o hB hk ho
          refine ks1.heap (hk2.heap hk (fun e => ?_)) (by rw [HSZ.out] at hB; omega)
          rcases h7.2 with ⟨rfl, _⟩ | ⟨g', cap, cur, rfl, hb', hh, _⟩
          · cases e
          · cases e
            rw [hh] at hk
            cases hk
            cases ho
        · exact (h4.trans' hk2 (fun i e => .inr (by have := hob _ e; omega))).trans' ks1 (fun i e => .inr (by omega))
        · exact Nat.le_trans h5 (Nat.le_trans hk2.size ks1.size)
        · rw [HST.out, hte', if_pos rfl, List.length_append, List.map_append]
          exact ownsRow_keep hown' ks1 (fun b hb e => by cases hb; have : gb = w.heap.size + 1 := e; omega)
      have FIN := Lib.hid fin; clear fin
      clear happ hk' hloc hown' hbx
      have HK2 := Lib.hid hk2; clear hk2
      have HOB := Lib.hid hob; clear hob
      gi_wp2
      gi_region
      all_goals gi_wp2
      all_goals
        refine wpIn_region_any (by kernel_rfl) ?_
        change wpAnyIn _ _ _ _ _ _ _ _ _ (World.drew _)
        refine wpAnyIn_ready (rs := [0, 1]) (by kernel_rfl) (by simp) ?_
        refine AllReadyIn.cons rfl (fun K hK => ?_) ?_
        · go_simp
          refine hK _ _ ?_; clear hK K
          refine wpAnyIn_ready (rs := [1]) (by kernel_rfl) (by simp) ?_
          refine AllReadyIn.cons rfl (fun K hK => ?_) AllReadyIn.nil
          go_simp
          refine hK _ _ ?_; clear hK K
          refine wpAnyIn_ready (rs := [2]) (by kernel_rfl) (by simp) ?_
          refine AllReadyIn.cons rfl (fun K hK => ?_) AllReadyIn.nil
          go_simp
          refine hK _ _ ?_; clear hK K
          refine wpAnyIn_ready (rs := [3]) (by kernel_rfl) (by simp) ?_
          refine AllReadyIn.cons rfl (fun K hK => ?_) AllReadyIn.nil
          go_simp
          refine hK _ _ ?_; clear hK K
          refine wpAnyIn_ready (rs := [4]) (by kernel_rfl) (by simp) ?_
          refine AllReadyIn.cons rfl (fun K hK => ?_) AllReadyIn.nil
          go_simp
          refine hK _ _ ?_; clear hK K
          refine wpAnyIn_ready (rs := [5]) (by kernel_rfl) (by simp) ?_
          refine AllReadyIn.cons rfl (fun K hK => ?_) AllReadyIn.nil
          go_simp
          refine hK _ _ ?_; clear hK K
          refine wpAnyIn_ready (rs := [6]) (by kernel_rfl) (by simp) ?_
          refine AllReadyIn.cons rfl (fun K hK => ?_) AllReadyIn.nil
          refine step_app rfl (.tmp 19) (.tmp 24) 35 rfl (v := v) (v2 := .slice (some ⟨V.heap.size, 0, none⟩) 1 1) rfl rfl happ' (hK _ _ ?_); clear hK K
          simp only [Act.put, List.setIfInBounds_toArray]
          refine wpAnyIn_ready (rs := [7]) (by kernel_rfl) (by simp) ?_
          refine AllReadyIn.cons rfl (fun K hK => ?_) AllReadyIn.nil
          go_simp
          refine hK _ _ ?_; clear hK K
          refine wpAnyIn_done (by kernel_rfl) ?_ _
          gi_wp2
          exact FIN.out
        refine AllReadyIn.cons rfl (fun K hK => ?_) AllReadyIn.nil
        go_simp
        refine hK _ _ ?_; clear hK K
        refine wpAnyIn_ready (rs := [0, 2]) (by kernel_rfl) (by simp) ?_
        refine AllReadyIn.cons rfl (fun K hK => ?_) ?_
        · go_simp
          refine hK _ _ ?_; clear hK K
          refine wpAnyIn_ready (rs := [2]) (by kernel_rfl) (by simp) ?_
          refine AllReadyIn.cons rfl (fun K hK => ?_) AllReadyIn.nil
          go_simp
          refine hK _ _ ?_; clear hK K
          refine wpAnyIn_ready (rs := [3]) (by kernel_rfl) (by simp) ?_
          refine AllReadyIn.cons rfl (fun K hK => ?_) AllReadyIn.nil
          go_simp
          refine hK _ _ ?_; clear hK K
          refine wpAnyIn_ready (rs := [4]) (by kernel_rfl) (by simp) ?_
          refine AllReadyIn.cons rfl (fun K hK => ?_) AllReadyIn.nil
          go_simp
          refine hK _ _ ?_; clear hK K
          refine wpAnyIn_ready (rs := [5]) (by kernel_rfl) (by simp) ?_
          refine AllReadyIn.cons rfl (fun K hK => ?_) AllReadyIn.nil
          go_simp
          refine hK _ _ ?_; clear hK K
          refine wpAnyIn_ready (rs := [6]) (by kernel_rfl) (by simp) ?_
          refine AllReadyIn.cons rfl (fun K hK => ?_) AllReadyIn.nil
          refine step_app rfl (.tmp 19) (.tmp 24) 35 rfl (v := v) (v2 := .slice (some ⟨V.heap.size, 0, none⟩) 1 1) rfl rfl happ' (hK _ _ ?_); clear hK K
          simp only [Act.put, List.setIfInBounds_toArray]
          refine wpAnyIn_ready (rs := [7]) (by kernel_rfl) (by simp) ?_
          refine AllReadyIn.cons rfl (fun K hK => ?_) AllReadyIn.nil
          go_simp
          refine hK _ _ ?_; clear hK K
          refine wpAnyIn_done (by kernel_rfl) ?_ _
          gi_wp2
          exact FIN.out
        refine AllReadyIn.cons rfl (fun K hK => ?_) AllReadyIn.nil
        go_simp
        refine hK _ _ ?_; clear hK K
        refine wpAnyIn_ready (rs := [0, 3]) (by kernel_rfl) (by simp) ?_
        refine AllReadyIn.cons rfl (fun K hK => ?_) ?_
        · go_simp
          refine hK _ _ ?_; clear hK K
          refine wpAnyIn_ready (rs := [3]) (by kernel_rfl) (by simp) ?_
          refine AllReadyIn.cons rfl (fun K hK => ?_) AllReadyIn.nil
          go_simp
          refine hK _ _ ?_; clear hK K
          refine wpAnyIn_ready (rs := [4]) (by kernel_rfl) (by simp) ?_
          refine AllReadyIn.cons rfl (fun K hK => ?_) AllReadyIn.nil
          go_simp
          refine hK _ _ ?_; clear hK K
          refine wpAnyIn_ready (rs := [5]) (by kernel_rfl) (by simp) ?_
          refine AllReadyIn.cons rfl (fun K hK => ?_) AllReadyIn.nil
          go_simp
          refine hK _ _ ?_; clear hK K
          refine wpAnyIn_ready (rs := [6]) (by kernel_rfl) (by simp) ?_
          refine AllReadyIn.cons rfl (fun K hK => ?_) AllReadyIn.nil
          refine step_app rfl (.tmp 19) (.tmp 24) 35 rfl (v := v) (v2 := .slice (some ⟨V.heap.size, 0, none⟩) 1 1) rfl rfl happ' (hK _ _ ?_); clear hK K
          simp only [Act.put, List.setIfInBounds_toArray]
          refine wpAnyIn_ready (rs := [7]) (by kernel_rfl) (by simp) ?_
          refine AllReadyIn.cons rfl (fun K hK => ?_) AllReadyIn.nil
          go_simp
          refine hK _ _ ?_; clear hK K
          refine wpAnyIn_done (by kernel_rfl) ?_ _
          gi_wp2
          exact FIN.out
        refine AllReadyIn.cons rfl (fun K hK => ?_) AllReadyIn.nil
        go_simp
        refine hK _ _ ?_; clear hK K
        refine wpAnyIn_ready (rs := [0, 4]) (by kernel_rfl) (by simp) ?_
        refine AllReadyIn.cons rfl (fun K hK => ?_) ?_
        · go_simp
          refine hK _ _ ?_; clear hK K
          refine wpAnyIn_ready (rs := [4]) (by kernel_rfl) (by simp) ?_
          refine AllReadyIn.cons rfl (fun K hK => ?_) AllReadyIn.nil
          go_simp
          refine hK _ _ ?_; clear hK K
          refine wpAnyIn_ready (rs := [5]) (by kernel_rfl) (by simp) ?_
          refine AllReadyIn.cons rfl (fun K hK => ?_) AllReadyIn.nil
          go_simp
          refine hK _ _ ?_; clear hK K
          refine wpAnyIn_ready (rs := [6]) (by kernel_rfl) (by simp) ?_
          refine AllReadyIn.cons rfl (fun K hK => ?_) AllReadyIn.nil
          refine step_app rfl (.tmp 19) (.tmp 24) 35 rfl (v := v) (v2 := .slice (some ⟨V.heap.size, 0, none⟩) 1 1) rfl rfl happ' (hK _ _ ?_); clear hK K
          simp only [Act.put, List.setIfInBounds_toArray]
          refine wpAnyIn_ready (rs := [7]) (by kernel_rfl) (by simp) ?_
          refine AllReadyIn.cons rfl (fun K hK => ?_) AllReadyIn.nil
          go_simp
          refine hK _ _ ?_; clear hK K
          refine wpAnyIn_done (by kernel_rfl) ?_ _
          gi_wp2
          exact FIN.out
        refine AllReadyIn.cons rfl (fun K hK => ?_) AllReadyIn.nil
        go_simp
        refine hK _ _ ?_; clear hK K
        refine wpAnyIn_ready (rs := [0, 5]) (by kernel_rfl) (by simp) ?_
        refine AllReadyIn.cons rfl (fun K hK => ?_) ?_
        · go_simp
          refine hK _ _ ?_; clear hK K
          refine wpAnyIn_ready (rs := [5]) (by kernel_rfl) (by simp) ?_
          refine AllReadyIn.cons rfl (fun K hK => ?_) AllReadyIn.nil
          go_simp
          refine hK _ _ ?_; clear hK K
          refine wpAnyIn_ready (rs := [6]) (by kernel_rfl) (by simp) ?_
          refine AllReadyIn.cons rfl (fun K hK => ?_) AllReadyIn.nil
          refine step_app rfl (.tmp 19) (.tmp 24) 35 rfl (v := v) (v2 := .slice (some ⟨V.heap.size, 0, none⟩) 1 1) rfl rfl happ' (hK _ _ ?_); clear hK K
          simp only [Act.put, List.setIfInBounds_toArray]
          refine wpAnyIn_ready (rs := [7]) (by kernel_rfl) (by simp) ?_
          refine AllReadyIn.cons rfl (fun K hK => ?_) AllReadyIn.nil
          go_simp
          refine hK _ _ ?_; clear hK K
          refine wpAnyIn_done (by kernel_rfl) ?_ _
          gi_wp2
          exact FIN.out
        refine AllReadyIn.cons rfl (fun K hK => ?_) AllReadyIn.nil
        go_simp
        refine hK _ _ ?_; clear hK K
        refine wpAnyIn_ready (rs := [0]) (by kernel_rfl) (by simp) ?_
        refine AllReadyIn.cons rfl (fun K hK => ?_) AllReadyIn.nil
        go_simp
        refine hK _ _ ?_; clear hK K
        refine wpAnyIn_ready (rs := [6]) (by kernel_rfl) (by simp) ?_
        refine AllReadyIn.cons rfl (fun K hK => ?_) AllReadyIn.nil
        refine step_app rfl (.tmp 19) (.tmp 24) 35 rfl (v := v) (v2 := .slice (some ⟨V.heap.size, 0, none⟩) 1 1) rfl rfl happ' (hK _ _ ?_); clear hK K
        simp only [Act.put, List.setIfInBounds_toArray]
        refine wpAnyIn_ready (rs := [7]) (by kernel_rfl) (by simp) ?_
        refine AllReadyIn.cons rfl (fun K hK => ?_) AllReadyIn.nil
        go_simp
        refine hK _ _ ?_; clear hK K
        refine wpAnyIn_done (by kernel_rfl) ?_ _
        gi_wp2
        exact FIN.out
  case done =>
    rintro D V hD ⟨h1, h2, h3, h4, h5, v, h6, h7⟩ hK
    have hlen : g.bl.length = g.L.length := by simp [Gh.bl]
    rw [hlen, List.take_length] at h7
    have c2 := h6.cell
    have f2 := h6.frozen 0
    have hvs : v = .slice none 0 0 ∨ ∃ b n c, v = .slice (some ⟨b, 0, none⟩) n c := by
      rcases h7.2 with ⟨rfl, _⟩ | ⟨g', cap, cur, rfl, _⟩
      · exact .inl rfl
      · exact .inr ⟨_, _, _, rfl⟩
    have hob : ∀ b, v.ownBlock = some b → w.heap.size + 1 + 1 + 1 ≤ b := fun b hb => (h7.lt b hb).1
    have ks1 := (Keep.refl (fun k => k = w.heap.size + 1) V).setCell (p := ⟨w.heap.size + 1, 0, none⟩) v (.inl rfl)
    have hown1 := ownsRow_keep h7 ks1 (fun b hb e => by have := hob b hb; omega)
    have hK1 := (KeepsOthers.setCell V ⟨w.heap.size + 1, 0, none⟩ v).same D _ hK rfl
    have hown2 := ownsRow_putObj hown1 (.deferred none) hK1 rfl
    have hb2 : Box ((V.setCell ⟨w.heap.size + 1, 0, none⟩ v).putObj D (.deferred none)) (w.heap.size + 1) v := (h6.set v).keep ((Keep.refl (fun k => k = D) _).putObj _ (.inl rfl)) (by rw [HSZ.out] at hD; omega)
    have hkk : Keep (fun _ => False) w ((V.setCell ⟨w.heap.size + 1, 0, none⟩ v).putObj D (.deferred none)) := (h4.setCell (p := ⟨w.heap.size + 1, 0, none⟩) _ (.inr (by show _ ≤ w.heap.size + 1; omega))).putObj _ (.inr (by rw [HSZ.out] at hD; omega))
    have HALL := Lib.hid (And.intro hown2 (And.intro hb2 (And.intro hkk hK1)))
    clear h1 h2 h3 h4 h5 h6 h7 hob ks1 hown1 hK1 hown2 hb2 hkk hK
    have HL := Lib.hid hlen; clear hlen
    rcases hvs with rfl | ⟨b, n, c, rfl⟩
    all_goals
      gi_wp2_with fail
      refine ⟨by simp, .inl ⟨_, _, rfl, run_takeDeferred HALL.out.2.2.2, ?_⟩⟩
      have hc5 := HALL.out.2.1.cell
      refine ⟨_, by simp [results, Tryz.f14, go_sem, hc5]; rfl, _, rfl, ?_, HALL.out.2.2.1⟩
      have := HALL.out.1
      exact ⟨this.1, this.2.imp id (fun ⟨g, cap, cur, a1, a2, a3⟩ => ⟨g, cap, cur, a1, by omega, a3⟩)⟩
  case stop =>
    rintro D c i V hD hi h hK
    exact h.elim
end Go.Proofs.YtcnpncndecjahaaGreatDoor.Mem

/-
  What Put removes, and how it is undone: plain.
-/
namespace Go.Proofs.YtcnpncndecjahaaGreatDoor.Mem
open Go.RowKit Go.Shelf

abbrev esOf (L : List Ent) : List E := L.map Ent.e

/-- One removal. -/
def Step1 (S : List Int) (cap : Int) (t : Nat) (z : Int) (L : List Ent) (x : Ent) (L' : List Ent) : Prop :=
  cap - tot (esOf L) < z ∧ ∃ X Y, L = X ++ x :: Y ∧ L' = X ++ Y ∧ (∀ y ∈ X, fitsB S (esOf L) t z y.e = false) ∧ fitsB S (esOf L) t z x.e = true

/-- The removals of T, one after the other, lead from L to L'. -/
def Ev (S : List Int) (cap : Int) (t : Nat) (z : Int) : List Ent → List Ent → List Ent → Prop
  | L, [], L' => L' = L
  | L, x :: T, L' => ∃ M, Step1 S cap t z L x M ∧ Ev S cap t z M T L'

theorem Ev.snoc {S : List Int} {cap : Int} {t : Nat} {z : Int} : ∀ {T L L' L'' : List Ent} {x : Ent}, Ev S cap t z L T L' → Step1 S cap t z L' x L'' → Ev S cap t z L (T ++ [x]) L''
  | [], _, _, _, _, h, hs => by cases h; exact ⟨_, hs, rfl⟩
  | _ :: _, _, _, _, _, ⟨M, h1, h2⟩, hs => ⟨M, h1, Ev.snoc h2 hs⟩

/-- The entries R, the last one first, can be put back: that leads from L to Lo. -/
def Hooks (W : World) (bp : Nat) (Lo : List Ent) : List Ent → List Ent → Prop
  | [], L => L = Lo
  | x :: R, L => ∃ X Y, L = X ++ Y ∧ Hook W bp X x Y ∧ Hooks W bp Lo R (X ++ x :: Y)

theorem Hooks.keep {W W' : World} {bp : Nat} {Lo : List Ent} {A : Nat → Prop} (k : Keep A W W') : ∀ {R L : List Ent}, Hooks W bp Lo R L → (∀ x ∈ R, ¬ A x.b) → Hooks W' bp Lo R L
  | [], _, h, _ => h
  | x :: R, _, ⟨X, Y, h1, h2, h3⟩, hA => ⟨X, Y, h1, h2.keep k (hA x (by simp)), Hooks.keep k h3 (fun y hy => hA y (by simp [hy]))⟩

theorem Hooks.perm {W : World} {bp : Nat} {Lo : List Ent} : ∀ {R L : List Ent}, Hooks W bp Lo R L → Lo.Perm (R ++ L)
  | [], _, h => by cases h; exact .refl _
  | x :: R, _, ⟨X, Y, h1, h2, h3⟩ => by
    subst h1
    refine (Hooks.perm h3).trans ?_
    have : (R ++ (X ++ x :: Y)).Perm (x :: (R ++ (X ++ Y))) := by
      rw [← List.append_assoc, ← List.append_assoc]
      exact List.perm_middle
    exact this

theorem tot_perm {A B : List E} (h : A.Perm B) : tot A = tot B := by
  induction h with
  | nil => rfl
  | cons x _ ih => rw [tot_cons, tot_cons, ih]
  | swap x y l => simp only [tot_cons]; omega
  | trans _ _ ih1 ih2 => exact ih1.trans ih2

end Go.Proofs.YtcnpncndecjahaaGreatDoor.Mem

/-
  Put.
-/
namespace Go.Proofs.YtcnpncndecjahaaGreatDoor.Mem
open Go.RowKit Go.Shelf
attribute [local go_sem] Oper.semAt_some

set_option maxRecDepth 100000 in
set_option maxHeartbeats 400000 in
theorem put_nil (t : Int) (key : ByteArray) (z : Int) (w : World) :
    Calls Tryz.prog 12 #[.pointer none, .int .i64 t, .string key, .int .i64 z] w fun e w' => e = .returned (.tuple #[.slice none 0 0, .bool false]) ∧ Keep (fun _ => False) w w' := by
  go_enter Tryz.func12, Tryz.ntmps12
  go_wp2
  go_step3
  go_wp2
  rw [Exit.noGoto_ret]
  go_ret2
  exact ⟨rfl, (Keep.refl _ w).alloc _⟩

set_option maxRecDepth 100000 in
set_option maxHeartbeats 400000 in
theorem put_neg (p : Nat) (t : Int) (key : ByteArray) (z : Int) (w : World) (ht : t < 0) :
    Calls Tryz.prog 12 #[ptr p, .int .i64 t, .string key, .int .i64 z] w fun e w' => e = .returned (.tuple #[.slice none 0 0, .bool false]) ∧ Keep (fun _ => False) w w' := by
  have hd : decide (t < 0) = true := by simpa using ht
  go_enter Tryz.func12, Tryz.ntmps12
  go_wp2
  go_step3
  go_wp2
  rw [Exit.noGoto_ret]
  go_ret2
  exact ⟨rfl, (Keep.refl _ w).alloc _⟩

set_option maxRecDepth 100000 in
set_option maxHeartbeats 400000 in
theorem put_big (p bs n c : Nat) (t : Int) (key : ByteArray) (z : Int) (w : World) (h6 : w.cell? ⟨p, 6, none⟩ = some (.slice (some ⟨bs, 0, none⟩) n c)) (h0 : 0 ≤ t) (ht : (n : Int) ≤ t) :
    Calls Tryz.prog 12 #[ptr p, .int .i64 t, .string key, .int .i64 z] w fun e w' => e = .returned (.tuple #[.slice none 0 0, .bool false]) ∧ Keep (fun _ => False) w w' := by
  have hd : decide (t < 0) = false := by simpa using h0
  have hd2 : decide ((n : Int) ≤ t) = true := by simpa using ht
  have hlt := blk_lt h6
  go_enter Tryz.func12, Tryz.ntmps12
  go_wp2
  go_step3
  go_wp2
  rw [Exit.noGoto_ret]
  go_ret2
  exact ⟨rfl, (Keep.refl _ w).alloc _⟩

set_option maxRecDepth 100000 in
set_option maxHeartbeats 400000 in
theorem put_small (p bs n c : Nat) (t : Int) (key : ByteArray) (z : Int) (w : World) (h6 : w.cell? ⟨p, 6, none⟩ = some (.slice (some ⟨bs, 0, none⟩) n c)) (h0 : 0 ≤ t) (ht : t < (n : Int)) (hz : z < 1) :
    Calls Tryz.prog 12 #[ptr p, .int .i64 t, .string key, .int .i64 z] w fun e w' => e = .returned (.tuple #[.slice none 0 0, .bool false]) ∧ Keep (fun _ => False) w w' := by
  have hd : decide (t < 0) = false := by simpa using h0
  have hd2 : decide ((n : Int) ≤ t) = false := by simpa using ht
  have hd3 : decide (z < 1) = true := by simpa using hz
  have hlt := blk_lt h6
  go_enter Tryz.func12, Tryz.ntmps12
  go_wp2
  go_step3
  go_wp2
  rw [Exit.noGoto_ret]
  go_ret2
  exact ⟨rfl, (Keep.refl _ w).alloc _⟩


end Go.Proofs.YtcnpncndecjahaaGreatDoor.Mem

/-
  Put: the invariant of its loop, and the step of the two appends.
-/
namespace Go.Proofs.YtcnpncndecjahaaGreatDoor.Mem
open Go.RowKit Go.Shelf

/-- What holds in Put while entries are taken: the pool, the entries that can be put back, the two slices. -/
structure Mid (w : World) (g : Gh) (R L TT : List Ent) (KK : List ByteArray) (vt vo : Value) (W : World) : Prop where
  p : PoolIs W { g with L := L }
  h : Hooks W g.bp g.L R L
  bx : Box W w.heap.size (ptr g.bp)
  k : Keep g.foot w W
  o1 : W.ownsRow (w.heap.size + 1) 78 1 vt TT.length (TT.map (fun x => ptr x.b))
  o2 : W.ownsRow (w.heap.size + 1) 9 1 vo KK.length (KK.map Value.string)
  dis : ∀ b, vt.ownBlock = some b → vo.ownBlock = some b → False
  sz : w.heap.size + 1 ≤ W.heap.size
  old : ∀ i, g.foot i → i < w.heap.size
  sub : ∀ x ∈ R ++ L, x ∈ g.L

theorem Mid.keep {w : World} {g : Gh} {R L TT : List Ent} {KK : List ByteArray} {vt vo : Value} {W W' : World} (m : Mid w g R L TT KK vt vo W) (k : Keep (fun _ => False) W W') : Mid w g R L TT KK vt vo W' :=
  ⟨m.p.keep k (fun _ _ h => h), m.h.keep k (fun _ _ h => h), m.bx.keep k (fun h => h), m.k.trans' k (fun _ h => h.elim), ownsRow_keep m.o1 k (fun _ _ h => h), ownsRow_keep m.o2 k (fun _ _ h => h), m.dis, Nat.le_trans m.sz k.size, m.old, m.sub⟩
theorem Mid.alloc {w : World} {g : Gh} {R L TT : List Ent} {KK : List ByteArray} {vt vo : Value} {W : World} (m : Mid w g R L TT KK vt vo W) (o : Obj) : Mid w g R L TT KK vt vo (W.alloc o) := m.keep ((Keep.refl _ W).alloc o)
theorem Mid.drew {w : World} {g : Gh} {R L TT : List Ent} {KK : List ByteArray} {vt vo : Value} {W : World} (m : Mid w g R L TT KK vt vo W) : Mid w g R L TT KK vt vo W.drew := m.keep (Keep.refl _ W).drew

theorem foot_sub {g : Gh} {L : List Ent} (h : ∀ x ∈ L, x ∈ g.L) {i : Nat} (hi : Gh.foot { g with L := L } i) : g.foot i := by
  rcases hi with hi | hi | hi | hi | hi
  · exact .inl hi
  · exact .inr (.inl hi)
  · exact .inr (.inr (.inl hi))
  · exact .inr (.inr (.inr (.inl hi)))
  · obtain ⟨x, hx, rfl⟩ := List.mem_map.1 hi
    exact .inr (.inr (.inr (.inr (List.mem_map_of_mem (h x hx)))))

theorem Mid.foot {w : World} {g : Gh} {R L TT : List Ent} {KK : List ByteArray} {vt vo : Value} {W : World} (m : Mid w g R L TT KK vt vo W) {i : Nat} (hi : Gh.foot { g with L := L } i) : i < w.heap.size :=
  m.old i (foot_sub (fun x hx => m.sub x (by simp [hx])) hi)
theorem Mid.hookb {w : World} {g : Gh} {R L TT : List Ent} {KK : List ByteArray} {vt vo : Value} {W : World} (m : Mid w g R L TT KK vt vo W) {x : Ent} (hx : x ∈ R) : x.b < w.heap.size :=
  m.old _ (.inr (.inr (.inr (.inr (List.mem_map_of_mem (m.sub x (by simp [hx])))))))

/-- Blocks from w's size on may turn, but for the box and the two slices. -/
theorem Mid.grow {w : World} {g : Gh} {R L TT : List Ent} {KK : List ByteArray} {vt vo : Value} {W W' : World} {A : Nat → Prop} (m : Mid w g R L TT KK vt vo W) (k : Keep A W W') (hA : ∀ i, A i → w.heap.size + 1 ≤ i) :
    PoolIs W' { g with L := L } ∧ Hooks W' g.bp g.L R L ∧ Box W' w.heap.size (ptr g.bp) ∧ Keep g.foot w W' ∧ w.heap.size + 1 ≤ W'.heap.size :=
  ⟨m.p.keep k (fun i hi ha => by have := hA i ha; have := m.foot hi; omega), m.h.keep k (fun x hx ha => by have := hA _ ha; have := m.hookb hx; omega), m.bx.keep k (fun ha => by have := hA _ ha; omega),
    m.k.trans' k (fun i ha => .inr (by have := hA i ha; omega)), Nat.le_trans m.sz k.size⟩

theorem Mid.app1 {w : World} {g : Gh} {R L TT : List Ent} {KK : List ByteArray} {vt vo : Value} {W : World} (m : Mid w g R L TT KK vt vo W) (x : Ent) (b : Nat) (hb : W.cell? ⟨b, 0, none⟩ = some (ptr x.b)) (hn : TT.length ≤ 1000000) (ty : TypeId) :
    ∃ v' w', (Builtin.append_ #[111, 111] ty #[vt, .slice (some ⟨b, 0, none⟩) 1 1]).run Tryz.prog W = .ok v' w' ∧ Mid w g R L (TT ++ [x]) KK v' vo w' ∧ Keep (fun k => vt.ownBlock = some k) W w' ∧ (∃ g' c, v' = .slice (some ⟨g', 0, none⟩) (TT.length + 1) c) := by
  obtain ⟨i0, hi, hz0, hz1, hz2⟩ := info_parts info55
  obtain ⟨v', w', h1, h2, h3, h4, h5⟩ := run_append_own_at (P := Tryz.prog) W (w.heap.size + 1) 111 ty 78 i0 (.pointer none) 1 8 Tryz.underlying111 hi hz0 hz1 hz2 rfl (by decide) vt TT.length _ m.o1 ⟨b, 0, none⟩ 1 1 [ptr x.b] rfl
    (by intro j u hj; cases j with
        | zero => simp at hj; subst hj; simpa [Addr.add] using hb
        | succ j => simp at hj) (by simp [Value.oneCell']) (by unfold maxLen; omega) (by omega) m.sz
  have hob : ∀ i, vt.ownBlock = some i → w.heap.size + 1 ≤ i := fun i hi => (m.o1.lt i hi).1
  obtain ⟨a1, a2, a3, a4, a5⟩ := m.grow (Keep.of_grown h3) (fun i e => hob i e)
  refine ⟨v', w', h1, ⟨a1, a2, a3, a4, ?_, ?_, ?_, a5, m.old, m.sub⟩, Keep.of_grown h3, ownsRow_succ h2⟩
  · rw [List.length_append, List.map_append]; exact h2
  · exact ownsRow_keep m.o2 (Keep.of_grown h3) (fun i hi e => m.dis i e hi)
  · intro i e1 e2
    rcases h5 with h5 | h5
    · exact m.dis i (h5 ▸ e1) e2
    · rw [h5] at e1; cases e1
      exact absurd (m.o2.lt _ e2).2 (by omega)

theorem Mid.app2 {w : World} {g : Gh} {R L TT : List Ent} {KK : List ByteArray} {vt vo : Value} {W : World} (m : Mid w g R L TT KK vt vo W) (s : ByteArray) (b : Nat) (hb : W.cell? ⟨b, 0, none⟩ = some (.string s)) (hn : KK.length ≤ 1000000) (ty : TypeId) :
    ∃ v' w', (Builtin.append_ #[35, 35] ty #[vo, .slice (some ⟨b, 0, none⟩) 1 1]).run Tryz.prog W = .ok v' w' ∧ Mid w g R L TT (KK ++ [s]) vt v' w' ∧ (∃ g' c, v' = .slice (some ⟨g', 0, none⟩) (KK.length + 1) c) := by
  obtain ⟨i0, hi, hz0, hz1, hz2⟩ := info_parts info9
  obtain ⟨v', w', h1, h2, h3, h4, h5⟩ := run_append_own_at (P := Tryz.prog) W (w.heap.size + 1) 35 ty 9 i0 (.string ⟨#[]⟩) 1 16 Tryz.underlying35 hi hz0 hz1 hz2 rfl (by decide) vo KK.length _ m.o2 ⟨b, 0, none⟩ 1 1 [.string s] rfl
    (by intro j u hj; cases j with
        | zero => simp at hj; subst hj; simpa [Addr.add] using hb
        | succ j => simp at hj) (by simp [Value.oneCell']) (by unfold maxLen; omega) (by omega) m.sz
  have hob : ∀ i, vo.ownBlock = some i → w.heap.size + 1 ≤ i := fun i hi => (m.o2.lt i hi).1
  obtain ⟨a1, a2, a3, a4, a5⟩ := m.grow (Keep.of_grown h3) (fun i e => hob i e)
  refine ⟨v', w', h1, ⟨a1, a2, a3, a4, ?_, ?_, ?_, a5, m.old, m.sub⟩, ownsRow_succ h2⟩
  · exact ownsRow_keep m.o1 (Keep.of_grown h3) (fun i hi e => m.dis i hi e)
  · rw [List.length_append, List.map_append]; exact h2
  · intro i e1 e2
    rcases h5 with h5 | h5
    · exact m.dis i e1 (h5 ▸ e2)
    · rw [h5] at e2; cases e2
      exact absurd (m.o1.lt _ e1).2 (by omega)

/-- An append at an operation of a drawing region, its run known. -/
theorem step_appP {P : Program} {ops : Array Oper} {o : Oper} {a : Act} {w w' : World} {K : Act → World → Prop} {Q : Exit → Act → World → Prop} {E : Prop} {v v2 v' : Value}
    (hg : o.guard = none) (s x : Operand) (t : TypeId) (hop : o.op = Op.call { callee := Callee.builtin Builtin.append, args := #[s, x], argTypes := #[t, t] })
    (hs : a.eval s = v) (hx : a.eval x = v2) (hrun : (Builtin.append_ #[t, t] o.type #[v, v2]).run P w = .ok v' w') (hK : K (a.put o.dst v') w') :
    if Region.wanted o (yielded ops a.tmps) = true then Oper.wp P o a w K Q else E := by
  have hw : Region.wanted o (yielded ops a.tmps) = true := by simp [Region.wanted, hg]
  rw [if_pos hw]
  unfold Oper.wp
  simp [execOp, hop, resolve, invoke, builtin, hs, hx, hrun, Result.andThen]
  exact hK
end Go.Proofs.YtcnpncndecjahaaGreatDoor.Mem

/-
  Put: taking one, putting it back, adding the new one: the invariant.
-/
namespace Go.Proofs.YtcnpncndecjahaaGreatDoor.Mem
open Go.RowKit Go.Shelf

theorem nodup_perm_bl {L M : List Ent} (h : L.Perm M) (hn : (L.map Ent.b).Nodup) : (M.map Ent.b).Nodup := (h.map Ent.b).nodup_iff.1 hn

theorem Mid.perm {w : World} {g : Gh} {R L TT : List Ent} {KK : List ByteArray} {vt vo : Value} {W : World} (m : Mid w g R L TT KK vt vo W) : g.L.Perm (R ++ L) := m.h.perm

/-- An entry that was taken away lies outside the pool. -/
theorem Mid.out {w : World} {g : Gh} {R L TT : List Ent} {KK : List ByteArray} {vt vo : Value} {W : World} (hg : PoolIs w g) (m : Mid w g R L TT KK vt vo W) {x : Ent} (hx : x ∈ R) : ¬ Gh.foot { g with L := L } x.b := by
  have hxg : x ∈ g.L := m.sub x (by simp [hx])
  have hxb : x.b ∈ g.bl := List.mem_map_of_mem hxg
  have hnd := hg.nd
  simp only [List.nodup_cons, List.mem_cons, not_or] at hnd
  obtain ⟨⟨hps, hpu, hpL⟩, ⟨hsu, hsL⟩, huL, hLL⟩ := hnd
  rintro (e | e | e | e | e)
  · exact hpL (e ▸ hxb)
  · exact hsL (e ▸ hxb)
  · exact huL (e ▸ hxb)
  · exact hg.map.not_cell (hg.ents x hxg).c0 e
  · have hn := nodup_perm_bl m.perm hLL
    rw [List.map_append, List.nodup_append] at hn
    exact hn.2.2 x.b (List.mem_map_of_mem hx) x.b e rfl

theorem Mid.take {w : World} {g : Gh} {R L TT X Y : List Ent} {x : Ent} {KK : List ByteArray} {vt vo : Value} {W W' : World} (hg : PoolIs w g) (m : Mid w g R L TT KK vt vo W) (hL : L = X ++ x :: Y)
    (hp : PoolIs W' { g with L := X ++ Y }) (k : Keep (Gh.foot { g with L := X ++ Y }) W W') : Mid w g (x :: R) (X ++ Y) TT KK vt vo W' := by
  have hxL : x ∈ L := by rw [hL]; simp
  have hsubL : ∀ y ∈ X ++ Y, y ∈ L := fun y hy => by rw [hL]; simp only [List.mem_append, List.mem_cons] at hy ⊢; exact hy.imp id .inr
  have hlow : ∀ i, Gh.foot { g with L := X ++ Y } i → i < w.heap.size := fun i hi => m.old i (foot_sub (fun y hy => m.sub y (by simp [hsubL y hy])) hi)
  have hxout : ¬ Gh.foot { g with L := X ++ Y } x.b := by
    have hxg : x ∈ g.L := m.sub x (by simp [hxL])
    have hxb : x.b ∈ g.bl := List.mem_map_of_mem hxg
    have hnd := hg.nd
    simp only [List.nodup_cons, List.mem_cons, not_or] at hnd
    obtain ⟨⟨hps, hpu, hpL⟩, ⟨hsu, hsL⟩, huL, hLL⟩ := hnd
    have hn := m.p.nd
    simp only [List.nodup_cons, List.mem_cons, not_or] at hn
    have hn2 : (L.map Ent.b).Nodup := hn.2.2.2
    rw [bl_split hL, List.nodup_append, List.nodup_cons] at hn2
    rintro (e | e | e | e | e)
    · exact hpL (e ▸ hxb)
    · exact hsL (e ▸ hxb)
    · exact huL (e ▸ hxb)
    · exact hg.map.not_cell (hg.ents x hxg).c0 e
    · have e' : x.b ∈ (X ++ Y).map Ent.b := e
      rw [List.map_append, List.mem_append] at e'
      rcases e' with e' | e'
      · exact hn2.2.2 _ e' _ (by simp) rfl
      · exact hn2.2.1.1 e'
  have hRout : ∀ y ∈ R, ¬ Gh.foot { g with L := X ++ Y } y.b := fun y hy hf => m.out hg hy (by
    rcases hf with e | e | e | e | e
    · exact .inl e
    · exact .inr (.inl e)
    · exact .inr (.inr (.inl e))
    · exact .inr (.inr (.inr (.inl e)))
    · obtain ⟨u, hu, hub⟩ := List.mem_map.1 (show y.b ∈ (X ++ Y).map Ent.b from e)
      exact .inr (.inr (.inr (.inr (by show y.b ∈ L.map Ent.b; rw [← hub]; exact List.mem_map_of_mem (hsubL u hu))))))
  have hk : Hook W g.bp X x Y := PoolIs.hook (g := { g with L := L }) m.p hL
  refine ⟨hp, ⟨X, Y, rfl, hk.keep k hxout, ?_⟩, m.bx.keep k (fun h => by have := hlow _ h; omega), m.k.trans' k (fun i hi => .inl (foot_sub (fun y hy => m.sub y (by simp [hsubL y hy])) hi)),
    ownsRow_keep m.o1 k (fun b hb h => by have := hlow _ h; have := (m.o1.lt b hb).1; omega), ownsRow_keep m.o2 k (fun b hb h => by have := hlow _ h; have := (m.o2.lt b hb).1; omega), m.dis, Nat.le_trans m.sz k.size, m.old, ?_⟩
  · rw [← hL]; exact m.h.keep k hRout
  · intro y hy
    simp only [List.cons_append, List.mem_cons, List.mem_append] at hy
    rcases hy with rfl | hy | hy
    · exact m.sub y (by simp [hxL])
    · exact m.sub y (by simp [hy])
    · exact m.sub y (by rw [List.mem_append]; exact .inr (hsubL y (by rw [List.mem_append]; exact hy)))

/-! ### the new entry -/
abbrev newE (W : World) (key : ByteArray) (t : Nat) (z : Int) : Ent := ⟨W.heap.size, ⟨key, t, z⟩⟩
abbrev newO (key : ByteArray) (t : Nat) (z : Int) : Obj := .cells #[.string key, .int .i64 t, .int .i64 z, .pointer none, .pointer none] 80

theorem heap_drewN (X : World) (k : Nat) : (X.drewN k).heap = X.heap := rfl

theorem new_cells (W : World) (key : ByteArray) (t : Nat) (z : Int) : EntIs (W.alloc (newO key t z)) (newE W key t z) ∧ (W.alloc (newO key t z)).cell? ⟨W.heap.size, 3, none⟩ = some (.pointer none) ∧ (W.alloc (newO key t z)).cell? ⟨W.heap.size, 4, none⟩ = some (.pointer none) := by
  have hh := World.alloc_heap_new W (newO key t z)
  have hc : ∀ i, (W.alloc (newO key t z)).cell? ⟨W.heap.size, i, none⟩ = (#[.string key, .int .i64 t, .int .i64 z, .pointer none, .pointer none] : Array Value)[i]? := fun i => by unfold World.cell?; rw [hh]; rfl
  refine ⟨⟨hc 0, hc 1, hc 2, fun o => ?_⟩, hc 3, hc 4⟩
  unfold World.frozen?; rw [hh]
  show (decide (0 ≤ o) && decide (o < 0)) = false
  simp

/-- The last step of Put: what must hold before insert, and what comes of it. -/
theorem PoolIs.fresh {W : World} {g : Gh} (h : PoolIs W g) (key : ByteArray) (t : Nat) (z : Int) (ht : t < g.sh.length) (hks : key.size ≤ maxLen) (hz : 1 ≤ z) (hk : key ∉ g.es.map E.key) (hfit : z ≤ g.cap - tot g.es) :
    let w1 := W.alloc (newO key t z)
    let l := lastB g.bp g.L
    let w0 := (w1.setCell ⟨W.heap.size, 3, none⟩ (ptr l)).setCell ⟨W.heap.size, 4, none⟩ (ptr g.bp)
    let w2 := (w0.setCell ⟨l, 4, none⟩ (ptr W.heap.size)).setCell ⟨g.bp, 3, none⟩ (ptr W.heap.size)
    (w1.cell? ⟨W.heap.size, 3, none⟩ = some (.pointer none) ∧ w1.cell? ⟨W.heap.size, 4, none⟩ = some (.pointer none) ∧ w1.cell? ⟨g.bp, 3, none⟩ = some (ptr l) ∧ (∃ vl, w1.cell? ⟨l, 4, none⟩ = some vl) ∧
      w1.frozen? ⟨W.heap.size, 3, none⟩ = false ∧ w1.frozen? ⟨W.heap.size, 4, none⟩ = false ∧ w1.frozen? ⟨g.bp, 3, none⟩ = false ∧ w1.frozen? ⟨l, 4, none⟩ = false ∧ W.heap.size ≠ g.bp ∧ W.heap.size ≠ l) ∧
    (w2.cell? ⟨g.bp, 8, none⟩ = some (.map (some g.bm)) ∧ MapRel Tryz.prog 9 w2 g.bm (fun k v => ∃ x ∈ g.L, k = .string x.e.key ∧ v = ptr x.b)) ∧
    (∀ ob, MapRel Tryz.prog 9 (w2.putObj g.bm ob) g.bm (fun k v => (k = .string key ∧ v = ptr W.heap.size) ∨ (k ≠ .string key ∧ ∃ x ∈ g.L, k = .string x.e.key ∧ v = ptr x.b)) →
      (let w3 := w2.putObj g.bm ob
       w3.cell? ⟨g.bp, 7, none⟩ = some (.slice (some ⟨g.bu, 0, none⟩) g.sh.length g.uc) ∧ w3.cell? ⟨g.bp, 9, none⟩ = some (.int .i64 (g.cap - tot g.es)) ∧ w3.frozen? ⟨g.bp, 9, none⟩ = false ∧
        w3.cell? ⟨W.heap.size, 1, none⟩ = some (.int .i64 t) ∧ w3.cell? ⟨W.heap.size, 2, none⟩ = some (.int .i64 z) ∧ w3.cell? ⟨g.bu, t, none⟩ = some (.int .i64 (usedOf g.es t)) ∧ w3.frozen? ⟨g.bu, t, none⟩ = false ∧ g.bp ≠ g.bu ∧ W.heap.size ≠ g.bu ∧
        ∀ k, PoolIs ((((w3.setCell ⟨g.bu, t, none⟩ (.int .i64 (usedOf g.es t + z))).setCell ⟨g.bp, 9, none⟩ (.int .i64 (g.cap - tot g.es - z)))).drewN k) { g with L := g.L ++ [newE W key t z] } ∧
          Keep g.foot W ((((w3.setCell ⟨g.bu, t, none⟩ (.int .i64 (usedOf g.es t + z))).setCell ⟨g.bp, 9, none⟩ (.int .i64 (g.cap - tot g.es - z)))).drewN k))) := by
  intro w1 l w0 w2
  obtain ⟨hE, h3, h4⟩ := new_cells W key t z
  have h1 : PoolIs w1 g := h.alloc _
  have hnf : ¬ g.foot W.heap.size := fun hf => by have := h.foot_lt hf; omega
  have hxp : W.heap.size ≠ g.bp := fun e => hnf (.inl e)
  have hxs : W.heap.size ≠ g.bs := fun e => hnf (.inr (.inl e))
  have hxu : W.heap.size ≠ g.bu := fun e => hnf (.inr (.inr (.inl e)))
  have hxm : W.heap.size ≠ g.bm := fun e => hnf (.inr (.inr (.inr (.inl e))))
  have hxL : W.heap.size ∉ g.bl := fun e => hnf (.inr (.inr (.inr (.inr e))))
  have hlr : l = g.bp ∨ l ∈ g.bl := lastB_mem g.bp g.L
  have hxl : W.heap.size ≠ l := fun e => hlr.elim (fun h => hxp (e.trans h)) (fun h => hxL (e ▸ h))
  obtain ⟨⟨vl, hvl⟩, _, hfl, hls, hlu, hlm⟩ := ring_cells h1 hlr
  obtain ⟨_, _, hfp, hps, hpu, hpm⟩ := ring_cells h1 (.inl rfl)
  obtain ⟨A, hA⟩ := lastB_eq g.bp g.L
  have hp3 : w1.cell? ⟨g.bp, 3, none⟩ = some (ptr l) := by
    have hl := h1.links
    have e : g.bp :: g.bl ++ [g.bp] = A ++ l :: g.bp :: [] := by rw [Gh.bl, hA]; simp [l]
    rw [e] at hl
    exact (links_split hl).2.1.2
  -- w0: the new entry knows its neighbours
  have k0 : Keep (fun i => i = W.heap.size) w1 w0 := ((Keep.refl (fun i => i = W.heap.size) w1).setCell (p := ⟨W.heap.size, 3, none⟩) _ (.inl rfl)).setCell (p := ⟨W.heap.size, 4, none⟩) _ (.inl rfl)
  have p0 : PoolIs w0 g := h1.keep k0 (fun i hi e => hnf (e ▸ hi))
  have hk0 : Hook w0 g.bp g.L (newE W key t z) [] := by
    refine ⟨⟨?_, ?_, ?_, fun o => ?_⟩, ?_, ?_⟩
    · exact (cell_set_off (by decide)).trans ((cell_set_off (by decide)).trans hE.c0)
    · exact (cell_set_off (by decide)).trans ((cell_set_off (by decide)).trans hE.c1)
    · exact (cell_set_off (by decide)).trans ((cell_set_off (by decide)).trans hE.c2)
    · exact (World.frozen?_setCell _ _ _ _).trans ((World.frozen?_setCell _ _ _ _).trans (hE.fz o))
    · exact (cell_set_off (by decide)).trans (cell_set_same h3)
    · exact cell_set_same ((cell_set_off (by decide)).trans h4)
  obtain ⟨⟨vl0, hvl0⟩, _, hfl0, _, _, _⟩ := ring_cells p0 hlr
  obtain ⟨_, ⟨vp0, hvp0⟩, hfp0, _, _, _⟩ := ring_cells p0 (.inl rfl)
  have hum := p0.map.not_cell (p0.us _ ht)
  refine ⟨⟨h3, h4, hp3, ⟨vl, hvl⟩, hE.fz 3, hE.fz 4, hfp 3, hfl 4, hxp, hxl⟩, ⟨?_, ?_⟩, fun ob hm => ?_⟩
  · exact (cell_set_off (by decide)).trans ((cell_set_off (by decide)).trans p0.c8)
  · exact p0.map.of_heap ((heap_set_ne hpm.symm).trans (heap_set_ne hlm.symm))
  · have c2 : ∀ b o, b ≠ g.bm → o ≠ 3 → o ≠ 4 → (w2.putObj g.bm ob).cell? ⟨b, o, none⟩ = w0.cell? ⟨b, o, none⟩ := fun b o hb ho3 ho4 =>
      (cell_put hb).trans ((cell_set_off (fun e => ho3 e.symm)).trans (cell_set_off (fun e => ho4 e.symm)))
    have f2 : ∀ b o, b ≠ g.bm → (w2.putObj g.bm ob).frozen? ⟨b, o, none⟩ = w0.frozen? ⟨b, o, none⟩ := fun b o hb =>
      (frozen_put hb).trans ((World.frozen?_setCell _ _ _ _).trans (World.frozen?_setCell _ _ _ _))
    have cu : (w2.putObj g.bm ob).cell? ⟨g.bu, t, none⟩ = some (.int .i64 (usedOf g.es t)) := (cell_put hum).trans ((cell_set_blk hpu).trans ((cell_set_blk hlu).trans (p0.us t ht)))
    refine ⟨(c2 _ _ hpm (by decide) (by decide)).trans p0.c7, (c2 _ _ hpm (by decide) (by decide)).trans p0.c9, (f2 _ _ hpm).trans (p0.fp _), (c2 _ _ hxm (by decide) (by decide)).trans hk0.e.c1, (c2 _ _ hxm (by decide) (by decide)).trans hk0.e.c2, cu, (f2 _ _ hum).trans (p0.fu _), hpu, hxu, fun k => ?_⟩
    obtain ⟨w', hw'⟩ : ∃ w', w' = (((w2.putObj g.bm ob).setCell ⟨g.bu, t, none⟩ (.int .i64 (usedOf g.es t + z))).setCell ⟨g.bp, 9, none⟩ (.int .i64 (g.cap - tot g.es - z))).drewN k := ⟨_, rfl⟩
    rw [← hw']
    have hm' := hm.of_heap (w' := w') (by rw [hw', heap_drewN, heap_set_ne hpm.symm, heap_set_ne hum.symm])
    have hU := upd_of hw' hm' hvl0 hvp0 (p0.us t ht) p0.c9 hlm hpm hum hpm hlu hpu hpu
    clear_value w0 w2
    refine ⟨?_, ?_⟩
    · have := p0.add (X := g.L) (Y := []) (x := newE W key t z) (by simp) hk0 hxp hxs hxu hxL hk hks ht hz (by show tot g.es + z ≤ g.cap; omega) hU (fun _ _ => Iff.rfl)
      simpa using this
    · have ka : Keep g.foot W w1 := (Keep.refl _ W).alloc _
      have kb : Keep g.foot W w0 := ka.trans' k0 (fun i e => .inr (by omega))
      refine kb.trans' hU.keep ?_
      rintro i (rfl | rfl | rfl | rfl | rfl)
      · exact .inl (hlr.elim .inl (fun h => .inr (.inr (.inr (.inr h)))))
      · exact .inl (.inl rfl)
      · exact .inl (.inr (.inr (.inl rfl)))
      · exact .inl (.inl rfl)
      · exact .inl (.inr (.inr (.inr (.inl rfl))))
end Go.Proofs.YtcnpncndecjahaaGreatDoor.Mem

/-
  Put: the walk.
-/
namespace Go.Proofs.YtcnpncndecjahaaGreatDoor.Mem
open Go.RowKit Go.Shelf
attribute [local go_sem] Oper.semAt_some

/-- The entries but for one key. -/
def wo (L : List Ent) (key : ByteArray) : List Ent := L.filter (fun x => decide (x.e.key ≠ key))

theorem wo_none {L : List Ent} {key : ByteArray} (h : key ∉ (esOf L).map E.key) : wo L key = L := by
  unfold wo
  rw [List.filter_eq_self]
  intro x hx
  simp only [decide_eq_true_eq]
  rintro rfl
  exact h (List.mem_map_of_mem (List.mem_map_of_mem hx))

theorem wo_split {X Y : List Ent} {x : Ent} (h : ((esOf (X ++ x :: Y)).map E.key).Nodup) : wo (X ++ x :: Y) x.e.key = X ++ Y := by
  simp only [esOf, List.map_append, List.map_cons] at h
  rw [List.nodup_append, List.nodup_cons] at h
  obtain ⟨_, ⟨h1, _⟩, h2⟩ := h
  have e1 : wo X x.e.key = X := wo_none (fun hm => h2 _ hm _ (by simp) rfl)
  have e2 : wo Y x.e.key = Y := wo_none h1
  unfold wo at e1 e2 ⊢
  rw [List.filter_append, List.filter_cons, e1, e2]
  simp

theorem Ev.sub {S : List Int} {cap : Int} {t : Nat} {z : Int} : ∀ {T L L' : List Ent}, Ev S cap t z L T L' → ∀ x ∈ L', x ∈ L
  | [], _, _, h => by cases h; exact fun _ h => h
  | _ :: _, _, _, ⟨M, ⟨_, X, Y, h1, h2, _⟩, h3⟩ => fun x hx => by
    have := Ev.sub h3 x hx
    rw [h2] at this
    rw [h1]
    simp only [List.mem_append, List.mem_cons] at this ⊢
    exact this.imp id .inr

def PutOk (g : Gh) (t : Nat) (key : ByteArray) (z : Int) (w : World) (e : Ending) (w' : World) : Prop :=
  ∃ T L x vo, e = .returned (.tuple #[vo, .bool true]) ∧ Ev g.sh g.cap t z (wo g.L key) T L ∧ ¬ (g.cap - tot (esOf L) < z) ∧ x.e = ⟨key, t, z⟩ ∧ w.heap.size ≤ x.b ∧ PoolIs w' { g with L := L ++ [x] } ∧
    w'.ownsRow w.heap.size 9 1 vo T.length (T.map (fun x => Value.string x.e.key)) ∧ (∀ b, vo.ownBlock = some b → ¬ Gh.foot { g with L := L ++ [x] } b) ∧ Keep g.foot w w'
def PutNo (g : Gh) (t : Nat) (key : ByteArray) (z : Int) (w : World) (e : Ending) (w' : World) : Prop :=
  ∃ T L, Ev g.sh g.cap t z (wo g.L key) T L ∧ g.cap - tot (esOf L) < z ∧ (∀ y ∈ L, fitsB g.sh (esOf L) t z y.e = false) ∧ e = .returned (.tuple #[.slice none 0 0, .bool false]) ∧ PoolIs w' g ∧ Keep g.foot w w'
def PutPost (g : Gh) (t : Nat) (key : ByteArray) (z : Int) (w : World) (e : Ending) (w' : World) : Prop := PutOk g t key z w e w' ∨ PutNo g t key z w e w'

/-- At the head of each round of Put's loop. -/
def PI (w : World) (g : Gh) (t : Nat) (z : Int) (T0 L0 : List Ent) (k : Nat) (vt vo : Value) (W : World) : Prop :=
  ∃ T L, k = L.length ∧ Ev g.sh g.cap t z L0 T L ∧ Mid w g (T0 ++ T).reverse L (T0 ++ T) (T.map (fun x => x.e.key)) vt vo W

theorem mid0 (w : World) (g : Gh) (h : PoolIs w g) : Mid w g [] g.L [] [] (.slice none 0 0) (.slice none 0 0) (w.alloc (.cells #[ptr g.bp] 32)) :=
  ⟨h.alloc _, rfl, Box.new _ _ _, (Keep.refl _ _).alloc _, World.ownsRow_nil _ _ _ _, World.ownsRow_nil _ _ _ _, (fun b hb => by cases hb), by simp, fun i hi => h.foot_lt hi, fun x hx => by simpa using hx⟩

theorem Mid.lens {w : World} {g : Gh} {R L TT : List Ent} {KK : List ByteArray} {vt vo : Value} {W : World} (hg : PoolIs w g) (m : Mid w g R L TT KK vt vo W) : R.length ≤ 1000000 := by
  have h1 := m.perm.length_eq
  have h2 := hg.len
  rw [List.length_append] at h1
  omega

theorem wpList_app {P : Program} {ops : Array Oper} {rest : List Oper} {o : Oper} {a : Act} {w w' : World} {Q : Exit → Act → World → Prop} {v v2 v' : Value}
    (hg : o.guard = none) (s x : Operand) (t : TypeId) (hop : o.op = Op.call { callee := Callee.builtin Builtin.append, args := #[s, x], argTypes := #[t, t] })
    (hs : a.eval s = v) (hx : a.eval x = v2) (hrun : (Builtin.append_ #[t, t] o.type #[v, v2]).run P w = .ok v' w') (hK : wpList P ops Q rest (a.put o.dst v') w') : wpList P ops Q (o :: rest) a w := by
  refine wpList_plain hg fun K hK' => ?_
  unfold Oper.wp
  simp [execOp, hop, resolve, invoke, builtin, hs, hx, hrun, Result.andThen]
  exact hK' _ _ hK

theorem Mid.back {w : World} {g : Gh} {R X Y TT : List Ent} {x : Ent} {KK : List ByteArray} {vt vo : Value} {W W' : World} (hg : PoolIs w g) (m : Mid w g (x :: R) (X ++ Y) TT KK vt vo W) (hh : Hooks W g.bp g.L R (X ++ x :: Y))
    (hp : PoolIs W' { g with L := X ++ x :: Y }) (k : Keep (Gh.foot { g with L := X ++ Y }) W W') : Mid w g R (X ++ x :: Y) TT KK vt vo W' := by
  have hlow : ∀ i, Gh.foot { g with L := X ++ Y } i → i < w.heap.size := fun i hi => m.foot hi
  have hRout : ∀ y ∈ R, ¬ Gh.foot { g with L := X ++ Y } y.b := fun y hy => m.out hg (by simp [hy])
  refine ⟨hp, hh.keep k hRout, m.bx.keep k (fun h => by have := hlow _ h; omega), m.k.trans' k (fun i hi => .inl (foot_sub (fun y hy => m.sub y (by simp only [List.mem_append] at hy ⊢; exact .inr hy)) hi)),
    ownsRow_keep m.o1 k (fun b hb h => by have := hlow _ h; have := (m.o1.lt b hb).1; omega), ownsRow_keep m.o2 k (fun b hb h => by have := hlow _ h; have := (m.o2.lt b hb).1; omega), m.dis, Nat.le_trans m.sz k.size, m.old, ?_⟩
  intro y hy
  refine m.sub y ?_
  simp only [List.mem_append, List.mem_cons, List.cons_append] at hy ⊢
  rcases hy with hy | hy | hy | hy
  · exact .inr (.inl hy)
  · exact .inr (.inr (.inl hy))
  · exact .inl hy
  · exact .inr (.inr (.inr hy))

/-- What 'back' asks of the entry that is put back. -/
theorem Mid.can {w : World} {g : Gh} {R X Y TT : List Ent} {x : Ent} {KK : List ByteArray} {vt vo : Value} {W : World} (hg : PoolIs w g) (m : Mid w g (x :: R) (X ++ Y) TT KK vt vo W) :
    x.b ≠ g.bp ∧ x.b ≠ g.bs ∧ x.b ≠ g.bu ∧ x.b ∉ (X ++ Y).map Ent.b ∧ x.e.key ∉ (esOf (X ++ Y)).map E.key ∧ x.e.key.size ≤ maxLen ∧ x.e.t < g.sh.length ∧ 1 ≤ x.e.z ∧ tot (esOf (X ++ Y)) + x.e.z ≤ g.cap := by
  have ho := m.out hg (x := x) (by simp)
  have hxg : x ∈ g.L := m.sub x (by simp)
  have hxe : x.e ∈ g.es := List.mem_map_of_mem hxg
  have hp := m.perm
  refine ⟨fun e => ho (.inl e), fun e => ho (.inr (.inl e)), fun e => ho (.inr (.inr (.inl e))), fun e => ho (.inr (.inr (.inr (.inr e)))), ?_, hg.ks _ hxe, (hg.rng _ hxe).1, (hg.rng _ hxe).2, ?_⟩
  · have hn := ((hp.map Ent.e).map E.key).nodup_iff.1 hg.keys
    simp only [List.cons_append, List.map_cons, List.nodup_cons] at hn
    intro hm
    refine hn.1 ?_
    rw [List.map_append, List.map_append, List.mem_append]
    exact .inr hm
  · have ht := tot_perm (hp.map Ent.e)
    have hle := hg.le
    simp only [List.cons_append, List.map_cons, tot_cons, List.map_append, tot_append] at ht
    have hR : 0 ≤ tot (R.map Ent.e) := tot_nonneg _ (fun y hy => by
      obtain ⟨u, hu, rfl⟩ := List.mem_map.1 hy
      exact (hg.rng _ (List.mem_map_of_mem (m.sub u (by simp [hu])))).2)
    simp only [esOf, List.map_append, tot_append]
    simp only [Gh.es] at hle
    omega

/-- Between two rounds of the undoing. -/
def UI (w : World) (g : Gh) (R TT : List Ent) (KK : List ByteArray) (vt vo : Value) (bx : Nat) (i : Nat) (V : World) : Prop := ∃ L, Mid w g (R.drop i) L TT KK vt vo V ∧ Box V bx vt

theorem UI_own (w : World) (g : Gh) (R TT : List Ent) (KK : List ByteArray) (vt vo : Value) (bx B : Nat) (hB : w.heap.size + 1 ≤ B) (hbx : bx < B) : OwnFrom B (UI w g R TT KK vt vo bx) := by
  rintro i V V' row ⟨L, m, hb⟩ hg hr
  have k := Keep.of_grown hg
  have hrow : ∀ i, row = some i → w.heap.size + 1 ≤ i := fun i e => by have := (hr i e).1; omega
  obtain ⟨a1, a2, a3, a4, a5⟩ := m.grow k hrow
  have aux : ∀ {e n v xs}, V.ownsRow (w.heap.size + 1) e 1 v n xs → V'.ownsRow (w.heap.size + 1) e 1 v n xs := fun h => ownsRow_keep h k (fun b hb e => by
    obtain ⟨_, o, ho, hc⟩ := hr b e
    rcases h.2 with ⟨rfl, _⟩ | ⟨g', cap, cur, rfl, hb', hh, _⟩
    · cases hb
    · cases hb; rw [hh] at ho; cases ho; cases hc)
  exact ⟨L, ⟨a1, a2, a3, a4, aux m.o1, aux m.o2, m.dis, a5, m.old, m.sub⟩, hb.keep k (fun e => by have := (hr _ e).1; omega)⟩

theorem rev_getD (TT : List Ent) (i : Nat) (hi : i < TT.length) : ∃ x, TT.reverse.drop i = x :: TT.reverse.drop (i + 1) ∧ (TT.map Ent.b).getD ((TT.map Ent.b).length - 1 - i) 0 = x.b := by
  have h1 : i < TT.reverse.length := by simpa using hi
  refine ⟨TT.reverse[i], List.drop_eq_getElem_cons h1, ?_⟩
  rw [List.getElem_reverse, List.length_map, List.getD_eq_getElem?_getD, List.getElem?_map, List.getElem?_eq_getElem (by omega)]
  rfl

def revIx (xs : List Nat) (i : Nat) : Int := ((xs.length - 1 - i : Nat) : Int)
def revAt (xs : List Nat) (i : Nat) : Nat := xs.getD (xs.length - 1 - i) 0
theorem back1_iter' (bx bt c : Nat) (xs : List Nat) (hlen : xs.length ≤ 1000000000) : IterL Tryz.prog 78 #[.pointer (some ⟨bx, 0, none⟩)] xs.length (fun i => #[.int .i64 (revIx xs i), ptr (revAt xs i)]) (BackReads bx bt c xs) := back1_iter bx bt c xs hlen

theorem owns_reads {V : World} {lo n c b bx : Nat} {TT : List Ent} (h : V.ownsRow lo 78 1 (.slice (some ⟨b, 0, none⟩) n c) TT.length (TT.map (fun x => ptr x.b))) (hb : Box V bx (.slice (some ⟨b, 0, none⟩) n c)) : n = TT.length ∧ BackReads bx b c (TT.map Ent.b) V := by
  have hn : n = TT.length := by
    rcases h.2 with ⟨e, _⟩ | ⟨g', cap, cur, e, _⟩
    · cases e
    · cases e; rfl
  refine ⟨hn, ?_, ?_⟩
  · rw [List.length_map, ← hn]; exact hb.cell
  · intro k x hk
    have := h.cells (g := b) rfl k (ptr x) (by rw [List.getElem?_map] at hk ⊢; cases e : TT[k]? with | none => rw [e] at hk; cases hk | some y => rw [e] at hk; cases hk; rfl)
    rw [Addr.add_lit, Nat.zero_add] at this; exact this

theorem ownsRow_low {W : World} {lo lo' : Nat} {e : TypeId} {v : Value} {n : Nat} {xs : List Value} (h : W.ownsRow lo e 1 v n xs) (hl : lo' ≤ lo) : W.ownsRow lo' e 1 v n xs :=
  ⟨h.1, h.2.imp id (fun ⟨g, cap, cur, a1, a2, a3⟩ => ⟨g, cap, cur, a1, Nat.le_trans hl a2, a3⟩)⟩

/-- Put has put the entry. -/
theorem put_done {w : World} {g : Gh} {t : Nat} {key : ByteArray} {z : Int} {T L R TT : List Ent} {vt vo : Value} {W W' : World} (m : Mid w g R L TT (T.map (fun x => x.e.key)) vt vo W) (hev : Ev g.sh g.cap t z (wo g.L key) T L) (hfit : z ≤ g.cap - tot (esOf L))
    (hp : PoolIs W' { g with L := L ++ [newE W key t z] }) (k : Keep (Gh.foot { g with L := L }) W W') : PutOk g t key z w (.returned (.tuple #[vo, .bool true])) W' := by
  have hl := m.bx.lt
  refine ⟨T, L, newE W key t z, vo, rfl, hev, by omega, rfl, by show w.heap.size ≤ W.heap.size; omega, hp, ?_, ?_, m.k.trans' k (fun i hi => .inl (foot_sub (fun y hy => m.sub y (by simp [hy])) hi))⟩
  · have := ownsRow_keep m.o2 k (fun b hb h => by have := m.foot h; have := (m.o2.lt b hb).1; omega)
    rw [List.length_map, List.map_map] at this
    exact ownsRow_low this (by omega)
  · intro b hb hf
    have h1 := m.o2.lt b hb
    rcases hf with e | e | e | e | e
    · have := m.foot (i := b) (.inl e); omega
    · have := m.foot (i := b) (.inr (.inl e)); omega
    · have := m.foot (i := b) (.inr (.inr (.inl e))); omega
    · have := m.foot (i := b) (.inr (.inr (.inr (.inl e)))); omega
    · have e' : b ∈ (L ++ [newE W key t z]).map Ent.b := e
      rw [List.map_append, List.mem_append] at e'
      rcases e' with e' | e'
      · have := m.foot (i := b) (.inr (.inr (.inr (.inr e')))); omega
      · simp at e'; omega

theorem PI_step {w : World} {g : Gh} {t : Nat} {z : Int} {T0 L0 T L X1 Y1 : List Ent} {y : Ent} {vt vo : Value} {W : World} (hev : Ev g.sh g.cap t z L0 T L) (hfr : g.cap - tot (esOf L) < z) (hL1 : L = X1 ++ y :: Y1)
    (hX1 : (∀ u ∈ X1, fitsB g.sh (esOf L) t z u.e = false) ∧ fitsB g.sh (esOf L) t z y.e = true) (m : Mid w g (y :: (T0 ++ T).reverse) (X1 ++ Y1) ((T0 ++ T) ++ [y]) (T.map (fun x => x.e.key) ++ [y.e.key]) vt vo W) :
    PI w g t z T0 L0 (X1 ++ Y1).length vt vo W := by
  refine ⟨T ++ [y], X1 ++ Y1, rfl, hev.snoc ⟨hfr, X1, Y1, hL1, rfl, hX1⟩, ?_⟩
  have e1 : (T0 ++ (T ++ [y])).reverse = y :: (T0 ++ T).reverse := by rw [← List.append_assoc, List.reverse_append]; rfl
  have e2 : T0 ++ (T ++ [y]) = T0 ++ T ++ [y] := by rw [List.append_assoc]
  rw [e1, e2, List.map_append]
  exact m

/-- Left at its end alone. -/
def onlyN (Q : Exit → Act → World → Prop) : Exit → Act → World → Prop
  | .normal, a, w => Q .normal a w
  | _, _, _ => False
theorem onlyN_mk {Q : Exit → Act → World → Prop} {a : Act} {w : World} (h : Q .normal a w) : onlyN Q .normal a w := h
theorem wp_onlyN {P : Program} {c : Code} {Q : Exit → Act → World → Prop} {a : Act} {w : World} (h : c.wp P (onlyN Q) a w) : c.wp P Q a w := by
  refine wp_mono h ?_
  intro e a w h
  cases e <;> first | exact h | exact h.elim

theorem cell_new0 (W : World) (v : Value) (t : TypeId) : (W.alloc (.cells #[v] t)).cell? ⟨W.heap.size, 0, none⟩ = some v := (Box.new W t v).cell

end Go.Proofs.YtcnpncndecjahaaGreatDoor.Mem

/-
  Put: the walk, where there is no entry with its key.
-/
namespace Go.Proofs.YtcnpncndecjahaaGreatDoor.Mem
open Go.RowKit Go.Shelf
attribute [local go_sem] Oper.semAt_some

set_option maxRecDepth 100000 in
set_option maxHeartbeats 4000000 in
theorem put_pool_new (g : Gh) (t : Nat) (key : ByteArray) (z : Int) (w : World) (h : PoolIs w g) (ht : t < g.sh.length) (hks : key.size ≤ maxLen) (hz : 1 ≤ z) (hz2 : z ≤ 9223372036854775807)
    (hn : key ∉ (Gh.es g).map E.key) (hl : (Instr.lookup 77 (.map (some g.bm)) (.string key) true).run Tryz.prog (w.alloc (.cells #[ptr g.bp] 32)) = .ok (.tuple #[.pointer none, .bool false]) (w.alloc (.cells #[ptr g.bp] 32))) :
    Calls Tryz.prog 12 #[ptr g.bp, .int .i64 t, .string key, .int .i64 z] w (PutPost g t key z w) := by
  have hd : decide ((t : Int) < 0) = false := by simp
  have hd2 : decide ((g.sh.length : Int) ≤ (t : Int)) = false := by simpa using ht
  have hd2' : decide (g.sh.length ≤ t) = false := by simpa using ht
  have hd3 : decide (z < 1) = false := by simpa using hz
  have h6 := h.c6
  have h8 := h.c8
  have hlt := blk_lt h6
  have m0 := mid0 w g h
  obtain ⟨T0, hT0⟩ : ∃ T0 : List Ent, T0 = [] := ⟨_, rfl⟩
  obtain ⟨L0, hL0⟩ : ∃ L0 : List Ent, L0 = wo g.L key := ⟨_, rfl⟩
  have hpi : PI w g t z T0 L0 L0.length (.slice none 0 0) (.slice none 0 0) (w.alloc (.cells #[ptr g.bp] 32)) := by
    rw [hL0, wo_none hn, hT0]
    exact ⟨[], g.L, rfl, rfl, m0⟩
  have H := Lib.hid h; clear h hT0
  have HL0 := Lib.hid hL0; clear hL0
  have HPI := Lib.hid hpi; clear hpi m0
  have HN := Lib.hid hn; clear hn
  refine (callsIn_wide (n := 0)).1 ?_
  refine callsIn_of_wp_marks Tryz.func12 rfl trivial ?_ rfl
  simp only [Tryz.ntmps12, List.size_toArray, List.length_cons, List.length_nil, Nat.reduceAdd, Nat.reduceSub, Array.replicate_succ, Array.replicate_zero, List.push_toArray, List.append_toArray, List.nil_append, List.cons_append]
  refine wpIn_wide.2 ?_
  go_wp2_with fail
  go_step3
  go_wp2_with fail
  go_step3
  go_wp2_with fail
  generalize w.alloc (.cells #[ptr g.bp] 32) = w1 at hl HPI ⊢
  clear hl
  go_loopg [10, 13] (L0.length) (fun k vt vo W => PI w g t z T0 L0 k vt vo W)
  case atStart => exact HPI.out
  case round =>
    obtain ⟨T, L, hk, hev, m⟩ := hrel
    have c0 := m.bx.cell
    have c9 : wr.cell? ⟨g.bp, 9, none⟩ = some (.int .i64 (g.cap - tot (esOf L))) := m.p.c9
    have HK := Lib.hid hk; clear hk
    have HE := Lib.hid hev; clear hev
    have HM := Lib.hid m; clear m
    by_cases hfr : g.cap - tot (esOf L) < z
    · go_wp2_with fail
      refine (victim_pool { g with L := L } t z wr HM.out.p ht hz hz2).mono ?_
      rintro e W1 ⟨(⟨X1, y, Y1, hL1, hX1, hy1, rfl⟩ | ⟨hnone, rfl⟩), hk1⟩
      · have m1 := HM.out.keep hk1
        have c01 := m1.bx.cell
        have HM1 := Lib.hid m1; clear m1 hk1
        have HL1 := Lib.hid hL1; clear hL1
        have HX1 := Lib.hid (And.intro hX1 hy1); clear hX1 hy1
        go_wp2_with fail
        refine (take_pool _ { g with L := L } X1 Y1 y HM1.out.p HL1.out).mono ?_
        rintro e W2 ⟨rfl, hp2, hk2⟩
        have m2 := HM1.out.take H.out HL1.out hp2 hk2
        have hln := HM1.out.lens H.out
        rw [List.length_reverse] at hln
        have hln2 : (T.map (fun x => x.e.key)).length ≤ 1000000 := by rw [List.length_append] at hln; rw [List.length_map]; omega
        have ck : W2.cell? ⟨y.b, 0, none⟩ = some (.string y.e.key) := by
          obtain ⟨X2, Y2, _, hk, _⟩ := m2.h
          exact hk.e.c0
        have hyb : y.b < w.heap.size := m2.hookb (by simp)
        have hvb : ∀ i, u10.ownBlock = some i → w.heap.size + 1 ≤ i ∧ i < W2.heap.size := fun i hi => m2.o1.lt i hi
        obtain ⟨c1, hc1⟩ : ∃ c1 : Obj, c1 = .cells #[ptr y.b] 78 := ⟨_, rfl⟩
        obtain ⟨c2, hc2⟩ : ∃ c2 : Obj, c2 = .cells #[.string y.e.key] 9 := ⟨_, rfl⟩
        have nC1 : (W2.alloc c1).cell? ⟨W2.heap.size, 0, none⟩ = some (ptr y.b) := by rw [hc1]; exact cell_new0 _ _ _
        have nC2 : (W2.alloc c2).cell? ⟨W2.heap.size, 0, none⟩ = some (.string y.e.key) := by rw [hc2]; exact cell_new0 _ _ _
        have nC12 : ((W2.alloc c1).alloc c2).cell? ⟨W2.heap.size + 1, 0, none⟩ = some (.string y.e.key) := by rw [hc2]; have := cell_new0 (W2.alloc c1) (.string y.e.key) 9; rwa [World.size_alloc] at this
        have nC21 : ((W2.alloc c2).alloc c1).cell? ⟨W2.heap.size + 1, 0, none⟩ = some (ptr y.b) := by rw [hc1]; have := cell_new0 (W2.alloc c2) (ptr y.b) 78; rwa [World.size_alloc] at this
        have oC12 : ((W2.alloc c1).alloc c2).cell? ⟨W2.heap.size, 0, none⟩ = some (ptr y.b) := ((Keep.refl (fun _ => False) _).alloc c2).cell nC1 (fun h => h)
        have oC21 : ((W2.alloc c2).alloc c1).cell? ⟨W2.heap.size, 0, none⟩ = some (.string y.e.key) := ((Keep.refl (fun _ => False) _).alloc c1).cell nC2 (fun h => h)
        obtain ⟨vA, wA, haA, mA, kA, gA, cA, hvA⟩ := (m2.alloc c1).drew.app1 y W2.heap.size nC1 hln 111
        obtain ⟨vA2, wA2, haA2, mA2, gA2, cA2, hvA2⟩ := (mA.alloc c2).app2 y.e.key wA.heap.size (by rw [hc2]; exact cell_new0 _ _ _) hln2 35
        obtain ⟨vB, wB, haB, mB, kB, gB, cB, hvB⟩ := ((m2.alloc c1).alloc c2).drew.app1 y W2.heap.size oC12 hln 111
        obtain ⟨vB2, wB2, haB2, mB2, gB2, cB2, hvB2⟩ := mB.app2 y.e.key (W2.heap.size + 1) (kB.cell nC12 (fun e => by have := hvb _ e; omega)) hln2 35
        obtain ⟨vC, wC, haC, mC, kC, gC, cC, hvC⟩ := ((m2.alloc c2).alloc c1).drew.app1 y (W2.heap.size + 1) nC21 hln 111
        obtain ⟨vC2, wC2, haC2, mC2, gC2, cC2, hvC2⟩ := mC.app2 y.e.key W2.heap.size (kC.cell oC21 (fun e => by have := hvb _ e; omega)) hln2 35
        have cka : (W2.alloc c1).cell? ⟨y.b, 0, none⟩ = some (.string y.e.key) := ((Keep.refl (fun _ => False) _).alloc c1).cell ck (fun h => h)
        have ckA : wA.cell? ⟨y.b, 0, none⟩ = some (.string y.e.key) := kA.cell cka (fun e => by have := hvb _ e; omega)
        have fA : PI w g t z T0 L0 (X1 ++ Y1).length vA vA2 wA2 := PI_step HE.out hfr HL1.out HX1.out mA2
        have fB : PI w g t z T0 L0 (X1 ++ Y1).length vB vB2 wB2 := PI_step HE.out hfr HL1.out HX1.out mB2
        have fC : PI w g t z T0 L0 (X1 ++ Y1).length vC vC2 wC2 := PI_step HE.out hfr HL1.out HX1.out mC2
        have hme : (X1 ++ Y1).length < gk := by rw [HK.out, HL1.out]; simp
        have HFA := Lib.hid fA; clear fA
        have HFB := Lib.hid fB; clear fB
        have HFC := Lib.hid fC; clear fC
        have HME := Lib.hid hme; clear hme
        clear mA mA2 mB mB2 mC mC2 kA kB kC m2 hp2 hk2 hvb nC1 nC2 nC12 nC21 oC12 oC21 hvA hvA2 hvB hvB2 hvC hvC2 hln hln2
        subst hc1
        subst hc2
        go_wp2_with fail
        have HAA := Lib.hid haA; have HAA2 := Lib.hid haA2; have HAB := Lib.hid haB; have HAB2 := Lib.hid haB2; have HAC := Lib.hid haC; have HAC2 := Lib.hid haC2
        clear haA haA2 haB haB2 haC haC2
        refine wp_onlyN ?_
        refine wp_region_any (by kernel_rfl) ?_
        change wpAny _ _ _ _ _ _ _ (World.drew _)
        refine wpAny_take (i := 0) (v := ?_) rfl (by kernel_rfl) (by kernel_rfl) (by kernel_rfl) (fun _ _ _ h => h) (Or.inl ⟨by rfl, ?_⟩) ?_
        rotate_left
        · intro w; go_simp; try (with_reducible rfl)
        refine wpAny_take (i := 1) (v := ?_) rfl (by kernel_rfl) (by kernel_rfl) (by kernel_rfl) (fun _ _ _ h => h) (Or.inl ⟨by rfl, ?_⟩) ?_
        rotate_left
        · intro w; go_simp; try (with_reducible rfl)
        refine wpAny_take (i := 4) (v := ?_) rfl (by kernel_rfl) (by kernel_rfl) (by kernel_rfl) (fun _ _ _ h => h) (Or.inl ⟨by rfl, ?_⟩) ?_
        rotate_left
        · intro w; go_simp; try (with_reducible rfl)
        refine wpAny_take (i := 5) (v := ?_) rfl (by kernel_rfl) (by kernel_rfl) (by kernel_rfl) (fun _ _ _ h => h) (Or.inl ⟨by rfl, ?_⟩) ?_
        rotate_left
        · intro w; go_simp; try (with_reducible rfl)
        refine wpAny_ready (rs := [2, 6]) (by kernel_rfl) (by simp) ?_
        refine AllReady.cons rfl (fun K hK => ?_) ?_
        · go_simp
          refine hK _ _ ?_; clear hK K
          refine wpAny_ready (rs := [3, 6]) (by kernel_rfl) (by simp) ?_
          refine AllReady.cons rfl (fun K hK => ?_) ?_
          · refine step_appP rfl (.tmp 69) (.tmp 71) 111 rfl (by simp [Act.eval]) (by simp [Act.eval]) HAA.out (hK _ _ ?_); clear hK K
            refine wpAny_ready (rs := [6]) (by kernel_rfl) (by simp) ?_
            refine AllReady.cons rfl (fun K hK => ?_) AllReady.nil
            go_simp
            refine hK _ _ ?_; clear hK K
            refine wpAny_take (i := 7) (v := ?_) rfl (by kernel_rfl) (by kernel_rfl) (by kernel_rfl) (fun _ _ _ h => h) (Or.inl ⟨by rfl, ?_⟩) ?_
            rotate_left
            · intro w; go_simp; try (with_reducible rfl)
            refine wpAny_ready (rs := [8]) (by kernel_rfl) (by simp) ?_
            refine AllReady.cons rfl (fun K hK => ?_) AllReady.nil
            go_simp
            refine hK _ _ ?_; clear hK K
            refine wpAny_ready (rs := [9]) (by kernel_rfl) (by simp) ?_
            refine AllReady.cons rfl (fun K hK => ?_) AllReady.nil
            go_simp
            refine hK _ _ ?_; clear hK K
            refine wpAny_ready (rs := [10]) (by kernel_rfl) (by simp) ?_
            refine AllReady.cons rfl (fun K hK => ?_) AllReady.nil
            refine step_appP rfl (.tmp 73) (.tmp 78) 35 rfl (by simp [Act.eval]) (by simp [Act.eval]) HAA2.out (hK _ _ ?_); clear hK K
            refine wpAny_ready (rs := [11]) (by kernel_rfl) (by simp) ?_
            refine AllReady.cons rfl (fun K hK => ?_) AllReady.nil
            go_simp
            refine hK _ _ ?_; clear hK K
            refine wpAny_ready (rs := [12]) (by kernel_rfl) (by simp) ?_
            refine AllReady.cons rfl (fun K hK => ?_) AllReady.nil
            go_simp
            refine hK _ _ ?_; clear hK K
            refine wpAny_done (by kernel_rfl) ?_ _
            refine onlyN_mk ?_
            go_wp2_with fail
            go_roundg ((X1 ++ Y1).length)
            case rel => exact HFA.out
            case measure => exact HME.out
          refine AllReady.cons rfl (fun K hK => ?_) AllReady.nil
          go_simp
          refine hK _ _ ?_; clear hK K
          refine wpAny_take (i := 7) (v := ?_) rfl (by kernel_rfl) (by kernel_rfl) (by kernel_rfl) (fun _ _ _ h => h) (Or.inl ⟨by rfl, ?_⟩) ?_
          rotate_left
          · intro w; go_simp; try (with_reducible rfl)
          refine wpAny_ready (rs := [3, 8]) (by kernel_rfl) (by simp) ?_
          refine AllReady.cons rfl (fun K hK => ?_) ?_
          · refine step_appP rfl (.tmp 69) (.tmp 71) 111 rfl (by simp [Act.eval, Act.put]) (by simp [Act.eval, Act.put]) HAA.out (hK _ _ ?_); clear hK K
            refine wpAny_ready (rs := [8]) (by kernel_rfl) (by simp) ?_
            refine AllReady.cons rfl (fun K hK => ?_) AllReady.nil
            go_simp
            refine hK _ _ ?_; clear hK K
            refine wpAny_ready (rs := [9]) (by kernel_rfl) (by simp) ?_
            refine AllReady.cons rfl (fun K hK => ?_) AllReady.nil
            go_simp
            refine hK _ _ ?_; clear hK K
            refine wpAny_ready (rs := [10]) (by kernel_rfl) (by simp) ?_
            refine AllReady.cons rfl (fun K hK => ?_) AllReady.nil
            refine step_appP rfl (.tmp 73) (.tmp 78) 35 rfl (by simp [Act.eval]) (by simp [Act.eval]) HAA2.out (hK _ _ ?_); clear hK K
            refine wpAny_ready (rs := [11]) (by kernel_rfl) (by simp) ?_
            refine AllReady.cons rfl (fun K hK => ?_) AllReady.nil
            go_simp
            refine hK _ _ ?_; clear hK K
            refine wpAny_ready (rs := [12]) (by kernel_rfl) (by simp) ?_
            refine AllReady.cons rfl (fun K hK => ?_) AllReady.nil
            go_simp
            refine hK _ _ ?_; clear hK K
            refine wpAny_done (by kernel_rfl) ?_ _
            refine onlyN_mk ?_
            go_wp2_with fail
            go_roundg ((X1 ++ Y1).length)
            case rel => exact HFA.out
            case measure => exact HME.out
          refine AllReady.cons rfl (fun K hK => ?_) AllReady.nil
          go_simp
          refine hK _ _ ?_; clear hK K
          refine wpAny_ready (rs := [3, 9]) (by kernel_rfl) (by simp) ?_
          refine AllReady.cons rfl (fun K hK => ?_) ?_
          · refine step_appP rfl (.tmp 69) (.tmp 71) 111 rfl (by simp [Act.eval]) (by simp [Act.eval]) HAA.out (hK _ _ ?_); clear hK K
            refine wpAny_ready (rs := [9]) (by kernel_rfl) (by simp) ?_
            refine AllReady.cons rfl (fun K hK => ?_) AllReady.nil
            go_simp
            refine hK _ _ ?_; clear hK K
            refine wpAny_ready (rs := [10]) (by kernel_rfl) (by simp) ?_
            refine AllReady.cons rfl (fun K hK => ?_) AllReady.nil
            refine step_appP rfl (.tmp 73) (.tmp 78) 35 rfl (by simp [Act.eval]) (by simp [Act.eval]) HAA2.out (hK _ _ ?_); clear hK K
            refine wpAny_ready (rs := [11]) (by kernel_rfl) (by simp) ?_
            refine AllReady.cons rfl (fun K hK => ?_) AllReady.nil
            go_simp
            refine hK _ _ ?_; clear hK K
            refine wpAny_ready (rs := [12]) (by kernel_rfl) (by simp) ?_
            refine AllReady.cons rfl (fun K hK => ?_) AllReady.nil
            go_simp
            refine hK _ _ ?_; clear hK K
            refine wpAny_done (by kernel_rfl) ?_ _
            refine onlyN_mk ?_
            go_wp2_with fail
            go_roundg ((X1 ++ Y1).length)
            case rel => exact HFA.out
            case measure => exact HME.out
          refine AllReady.cons rfl (fun K hK => ?_) AllReady.nil
          go_simp
          refine hK _ _ ?_; clear hK K
          refine wpAny_ready (rs := [3]) (by kernel_rfl) (by simp) ?_
          refine AllReady.cons rfl (fun K hK => ?_) AllReady.nil
          refine step_appP rfl (.tmp 69) (.tmp 71) 111 rfl (by simp [Act.eval]) (by simp [Act.eval]) HAB.out (hK _ _ ?_); clear hK K
          refine wpAny_ready (rs := [10]) (by kernel_rfl) (by simp) ?_
          refine AllReady.cons rfl (fun K hK => ?_) AllReady.nil
          refine step_appP rfl (.tmp 73) (.tmp 78) 35 rfl (by simp [Act.eval, Act.put]) (by simp [Act.eval, Act.put]) HAB2.out (hK _ _ ?_); clear hK K
          refine wpAny_ready (rs := [11]) (by kernel_rfl) (by simp) ?_
          refine AllReady.cons rfl (fun K hK => ?_) AllReady.nil
          go_simp
          refine hK _ _ ?_; clear hK K
          refine wpAny_ready (rs := [12]) (by kernel_rfl) (by simp) ?_
          refine AllReady.cons rfl (fun K hK => ?_) AllReady.nil
          go_simp
          refine hK _ _ ?_; clear hK K
          refine wpAny_done (by kernel_rfl) ?_ _
          refine onlyN_mk ?_
          go_wp2_with fail
          go_roundg ((X1 ++ Y1).length)
          case rel => exact HFB.out
          case measure => exact HME.out
        refine AllReady.cons rfl (fun K hK => ?_) AllReady.nil
        go_simp
        refine hK _ _ ?_; clear hK K
        refine wpAny_take (i := 7) (v := ?_) rfl (by kernel_rfl) (by kernel_rfl) (by kernel_rfl) (fun _ _ _ h => h) (Or.inl ⟨by rfl, ?_⟩) ?_
        rotate_left
        · intro w; go_simp; try (with_reducible rfl)
        refine wpAny_ready (rs := [2, 8]) (by kernel_rfl) (by simp) ?_
        refine AllReady.cons rfl (fun K hK => ?_) ?_
        · go_simp
          refine hK _ _ ?_; clear hK K
          refine wpAny_ready (rs := [3, 8]) (by kernel_rfl) (by simp) ?_
          refine AllReady.cons rfl (fun K hK => ?_) ?_
          · refine step_appP rfl (.tmp 69) (.tmp 71) 111 rfl (by simp [Act.eval]) (by simp [Act.eval]) HAA.out (hK _ _ ?_); clear hK K
            refine wpAny_ready (rs := [8]) (by kernel_rfl) (by simp) ?_
            refine AllReady.cons rfl (fun K hK => ?_) AllReady.nil
            go_simp
            refine hK _ _ ?_; clear hK K
            refine wpAny_ready (rs := [9]) (by kernel_rfl) (by simp) ?_
            refine AllReady.cons rfl (fun K hK => ?_) AllReady.nil
            go_simp
            refine hK _ _ ?_; clear hK K
            refine wpAny_ready (rs := [10]) (by kernel_rfl) (by simp) ?_
            refine AllReady.cons rfl (fun K hK => ?_) AllReady.nil
            refine step_appP rfl (.tmp 73) (.tmp 78) 35 rfl (by simp [Act.eval]) (by simp [Act.eval]) HAA2.out (hK _ _ ?_); clear hK K
            refine wpAny_ready (rs := [11]) (by kernel_rfl) (by simp) ?_
            refine AllReady.cons rfl (fun K hK => ?_) AllReady.nil
            go_simp
            refine hK _ _ ?_; clear hK K
            refine wpAny_ready (rs := [12]) (by kernel_rfl) (by simp) ?_
            refine AllReady.cons rfl (fun K hK => ?_) AllReady.nil
            go_simp
            refine hK _ _ ?_; clear hK K
            refine wpAny_done (by kernel_rfl) ?_ _
            refine onlyN_mk ?_
            go_wp2_with fail
            go_roundg ((X1 ++ Y1).length)
            case rel => exact HFA.out
            case measure => exact HME.out
          refine AllReady.cons rfl (fun K hK => ?_) AllReady.nil
          go_simp
          refine hK _ _ ?_; clear hK K
          refine wpAny_ready (rs := [3, 9]) (by kernel_rfl) (by simp) ?_
          refine AllReady.cons rfl (fun K hK => ?_) ?_
          · refine step_appP rfl (.tmp 69) (.tmp 71) 111 rfl (by simp [Act.eval]) (by simp [Act.eval]) HAA.out (hK _ _ ?_); clear hK K
            refine wpAny_ready (rs := [9]) (by kernel_rfl) (by simp) ?_
            refine AllReady.cons rfl (fun K hK => ?_) AllReady.nil
            go_simp
            refine hK _ _ ?_; clear hK K
            refine wpAny_ready (rs := [10]) (by kernel_rfl) (by simp) ?_
            refine AllReady.cons rfl (fun K hK => ?_) AllReady.nil
            refine step_appP rfl (.tmp 73) (.tmp 78) 35 rfl (by simp [Act.eval]) (by simp [Act.eval]) HAA2.out (hK _ _ ?_); clear hK K
            refine wpAny_ready (rs := [11]) (by kernel_rfl) (by simp) ?_
            refine AllReady.cons rfl (fun K hK => ?_) AllReady.nil
            go_simp
            refine hK _ _ ?_; clear hK K
            refine wpAny_ready (rs := [12]) (by kernel_rfl) (by simp) ?_
            refine AllReady.cons rfl (fun K hK => ?_) AllReady.nil
            go_simp
            refine hK _ _ ?_; clear hK K
            refine wpAny_done (by kernel_rfl) ?_ _
            refine onlyN_mk ?_
            go_wp2_with fail
            go_roundg ((X1 ++ Y1).length)
            case rel => exact HFA.out
            case measure => exact HME.out
          refine AllReady.cons rfl (fun K hK => ?_) AllReady.nil
          go_simp
          refine hK _ _ ?_; clear hK K
          refine wpAny_ready (rs := [3]) (by kernel_rfl) (by simp) ?_
          refine AllReady.cons rfl (fun K hK => ?_) AllReady.nil
          refine step_appP rfl (.tmp 69) (.tmp 71) 111 rfl (by simp [Act.eval]) (by simp [Act.eval]) HAB.out (hK _ _ ?_); clear hK K
          refine wpAny_ready (rs := [10]) (by kernel_rfl) (by simp) ?_
          refine AllReady.cons rfl (fun K hK => ?_) AllReady.nil
          refine step_appP rfl (.tmp 73) (.tmp 78) 35 rfl (by simp [Act.eval, Act.put]) (by simp [Act.eval, Act.put]) HAB2.out (hK _ _ ?_); clear hK K
          refine wpAny_ready (rs := [11]) (by kernel_rfl) (by simp) ?_
          refine AllReady.cons rfl (fun K hK => ?_) AllReady.nil
          go_simp
          refine hK _ _ ?_; clear hK K
          refine wpAny_ready (rs := [12]) (by kernel_rfl) (by simp) ?_
          refine AllReady.cons rfl (fun K hK => ?_) AllReady.nil
          go_simp
          refine hK _ _ ?_; clear hK K
          refine wpAny_done (by kernel_rfl) ?_ _
          refine onlyN_mk ?_
          go_wp2_with fail
          go_roundg ((X1 ++ Y1).length)
          case rel => exact HFB.out
          case measure => exact HME.out
        refine AllReady.cons rfl (fun K hK => ?_) AllReady.nil
        go_simp
        refine hK _ _ ?_; clear hK K
        refine wpAny_ready (rs := [2, 9]) (by kernel_rfl) (by simp) ?_
        refine AllReady.cons rfl (fun K hK => ?_) ?_
        · go_simp
          refine hK _ _ ?_; clear hK K
          refine wpAny_ready (rs := [3, 9]) (by kernel_rfl) (by simp) ?_
          refine AllReady.cons rfl (fun K hK => ?_) ?_
          · refine step_appP rfl (.tmp 69) (.tmp 71) 111 rfl (by simp [Act.eval]) (by simp [Act.eval]) HAA.out (hK _ _ ?_); clear hK K
            refine wpAny_ready (rs := [9]) (by kernel_rfl) (by simp) ?_
            refine AllReady.cons rfl (fun K hK => ?_) AllReady.nil
            go_simp
            refine hK _ _ ?_; clear hK K
            refine wpAny_ready (rs := [10]) (by kernel_rfl) (by simp) ?_
            refine AllReady.cons rfl (fun K hK => ?_) AllReady.nil
            refine step_appP rfl (.tmp 73) (.tmp 78) 35 rfl (by simp [Act.eval]) (by simp [Act.eval]) HAA2.out (hK _ _ ?_); clear hK K
            refine wpAny_ready (rs := [11]) (by kernel_rfl) (by simp) ?_
            refine AllReady.cons rfl (fun K hK => ?_) AllReady.nil
            go_simp
            refine hK _ _ ?_; clear hK K
            refine wpAny_ready (rs := [12]) (by kernel_rfl) (by simp) ?_
            refine AllReady.cons rfl (fun K hK => ?_) AllReady.nil
            go_simp
            refine hK _ _ ?_; clear hK K
            refine wpAny_done (by kernel_rfl) ?_ _
            refine onlyN_mk ?_
            go_wp2_with fail
            go_roundg ((X1 ++ Y1).length)
            case rel => exact HFA.out
            case measure => exact HME.out
          refine AllReady.cons rfl (fun K hK => ?_) AllReady.nil
          go_simp
          refine hK _ _ ?_; clear hK K
          refine wpAny_ready (rs := [3]) (by kernel_rfl) (by simp) ?_
          refine AllReady.cons rfl (fun K hK => ?_) AllReady.nil
          refine step_appP rfl (.tmp 69) (.tmp 71) 111 rfl (by simp [Act.eval]) (by simp [Act.eval]) HAB.out (hK _ _ ?_); clear hK K
          refine wpAny_ready (rs := [10]) (by kernel_rfl) (by simp) ?_
          refine AllReady.cons rfl (fun K hK => ?_) AllReady.nil
          refine step_appP rfl (.tmp 73) (.tmp 78) 35 rfl (by simp [Act.eval, Act.put]) (by simp [Act.eval, Act.put]) HAB2.out (hK _ _ ?_); clear hK K
          refine wpAny_ready (rs := [11]) (by kernel_rfl) (by simp) ?_
          refine AllReady.cons rfl (fun K hK => ?_) AllReady.nil
          go_simp
          refine hK _ _ ?_; clear hK K
          refine wpAny_ready (rs := [12]) (by kernel_rfl) (by simp) ?_
          refine AllReady.cons rfl (fun K hK => ?_) AllReady.nil
          go_simp
          refine hK _ _ ?_; clear hK K
          refine wpAny_done (by kernel_rfl) ?_ _
          refine onlyN_mk ?_
          go_wp2_with fail
          go_roundg ((X1 ++ Y1).length)
          case rel => exact HFB.out
          case measure => exact HME.out
        refine AllReady.cons rfl (fun K hK => ?_) AllReady.nil
        go_simp
        refine hK _ _ ?_; clear hK K
        refine wpAny_ready (rs := [2]) (by kernel_rfl) (by simp) ?_
        refine AllReady.cons rfl (fun K hK => ?_) AllReady.nil
        go_simp
        refine hK _ _ ?_; clear hK K
        refine wpAny_ready (rs := [3]) (by kernel_rfl) (by simp) ?_
        refine AllReady.cons rfl (fun K hK => ?_) AllReady.nil
        refine step_appP rfl (.tmp 69) (.tmp 71) 111 rfl (by simp [Act.eval]) (by simp [Act.eval]) HAC.out (hK _ _ ?_); clear hK K
        refine wpAny_ready (rs := [10]) (by kernel_rfl) (by simp) ?_
        refine AllReady.cons rfl (fun K hK => ?_) AllReady.nil
        refine step_appP rfl (.tmp 73) (.tmp 78) 35 rfl (by simp [Act.eval, Act.put]) (by simp [Act.eval, Act.put]) HAC2.out (hK _ _ ?_); clear hK K
        refine wpAny_ready (rs := [11]) (by kernel_rfl) (by simp) ?_
        refine AllReady.cons rfl (fun K hK => ?_) AllReady.nil
        go_simp
        refine hK _ _ ?_; clear hK K
        refine wpAny_ready (rs := [12]) (by kernel_rfl) (by simp) ?_
        refine AllReady.cons rfl (fun K hK => ?_) AllReady.nil
        go_simp
        refine hK _ _ ?_; clear hK K
        refine wpAny_done (by kernel_rfl) ?_ _
        refine onlyN_mk ?_
        go_wp2_with fail
        go_roundg ((X1 ++ Y1).length)
        case rel => exact HFC.out
        case measure => exact HME.out

      · have m1 := HM.out.keep hk1
        have c01 := m1.bx.cell
        have c91 : W1.cell? ⟨g.bp, 9, none⟩ = some (.int .i64 (g.cap - tot (esOf L))) := m1.p.c9
        have HM1 := Lib.hid m1; clear m1 hk1
        have HNO := Lib.hid hnone; clear hnone
        have hvs : u10 = .slice none 0 0 ∨ ∃ b n c, u10 = .slice (some ⟨b, 0, none⟩) n c := by
          rcases HM1.out.o1.2 with ⟨rfl, _⟩ | ⟨g', cap, cur, rfl, _⟩
          · exact .inl rfl
          · exact .inr ⟨_, _, _, rfl⟩
        rcases hvs with rfl | ⟨bt, n, cc, rfl⟩
        · have hTT : T0 ++ T = [] := by
            rcases HM1.out.o1.2 with ⟨_, hx⟩ | ⟨g', cap, cur, hx, _⟩
            · simpa using hx
            · cases hx
          go_wp2_with fail
          refine (backward_any _ W1 _ _ _ rfl).mono ?_
          rintro e w' ⟨rfl, rfl⟩
          have hm2 := HM1.out.alloc (.cells #[.slice none 0 0] 111)
          have hbx := Box.new W1 111 (.slice none 0 0)
          have hW1 := HM1.out.sz
          have hsz : (W1.alloc (.cells #[.slice none 0 0] 111)).heap.size = W1.heap.size + 1 := by simp
          generalize W1.alloc (.cells #[.slice none 0 0] 111) = W3 at hm2 hbx hsz ⊢
          have HSZ := Lib.hid hsz; clear hsz
          have HTT := Lib.hid hTT; clear hTT
          have HM2 := Lib.hid hm2; clear hm2
          have HBX := Lib.hid hbx; clear hbx
          go_wp2_with fail
          refine (wpIn_wide (n := 0)).1 ?_
          refine range_list (gf := 78) (lb := #[.pointer (some ⟨W1.heap.size, 0, none⟩)]) rfl (enters_of Tryz.func78 (by kernel_rfl) rfl) (back1_nil W1.heap.size 0 none) (fun _ h => absurd h (Nat.not_lt_zero _))
            (UI w g (T0 ++ T).reverse (T0 ++ T) (T.map (fun x => x.e.key)) (.slice none 0 0) u13 W1.heap.size) (fun _ _ _ => False)
            (UI_own _ _ _ _ _ _ _ _ _ (by rw [HSZ.out]; omega) (by rw [HSZ.out]; omega)) (fun _ _ _ _ _ h _ _ => h)
            (fun i V h => by obtain ⟨L, m, hb⟩ := h; exact hb.cell) ⟨L, by rw [List.drop_zero]; exact HM2.out, HBX.out⟩ (fun _ => ⟨#[], []⟩)
            (fun _ _ _ _ h _ => absurd h (Nat.not_lt_zero _)) (fun _ _ _ h _ _ => absurd h (Nat.not_lt_zero _)) ?done (fun _ _ _ _ _ h _ _ => absurd h (Nat.not_lt_zero _))
          case done =>
            rintro D V hD ⟨L', m, hb⟩ hK
            rw [List.drop_zero, HTT.out] at m
            have hL' : L' = g.L := m.h
            subst hL'
            have hfin : PutNo g t key z w (.returned (.tuple #[.slice none 0 0, .bool false])) (V.putObj D (.deferred none)) := by
              have kk : Keep (fun k => k = D) V (V.putObj D (.deferred none)) := (Keep.refl (fun k => k = D) V).putObj _ (.inl rfl)
              refine ⟨T, L, by rw [← HL0.out]; exact HE.out, hfr, HNO.out, rfl, ?_, ?_⟩
              · exact m.p.keep kk (fun i hi e => by have := m.foot hi; rw [HSZ.out] at hD; omega)
              · exact m.k.trans' kk (fun i e => .inr (by rw [HSZ.out] at hD; omega))
            have HFIN := Lib.hid hfin; clear hfin m hb
            have HKK := Lib.hid hK; clear hK
            have HDD := Lib.hid hD; clear hD
            go_wp2_with fail
            rw [Exit.noGoto_ret]
            refine ⟨by simp, .inl ⟨_, _, rfl, run_takeDeferred HKK.out, ?_⟩⟩
            exact ⟨.tuple #[.slice none 0 0, .bool false], by simp [results, Tryz.f12, go_sem], .inr HFIN.out⟩
        · go_wp2_with fail
          refine (backward_any _ W1 _ _ _ rfl).mono ?_
          rintro e w' ⟨rfl, rfl⟩
          have hm2 := HM1.out.alloc (.cells #[.slice (some ⟨bt, 0, none⟩) n cc] 111)
          have hbx := Box.new W1 111 (.slice (some ⟨bt, 0, none⟩) n cc)
          have hln := HM1.out.lens H.out
          rw [List.length_reverse] at hln
          obtain ⟨hnn, hrd⟩ := owns_reads hm2.o1 hbx
          have hW1 := HM1.out.sz
          have hsz : (W1.alloc (.cells #[.slice (some ⟨bt, 0, none⟩) n cc] 111)).heap.size = W1.heap.size + 1 := by simp
          generalize W1.alloc (.cells #[.slice (some ⟨bt, 0, none⟩) n cc] 111) = W3 at hm2 hbx hrd hsz ⊢
          have HSZ := Lib.hid hsz; clear hsz
          have HRD := Lib.hid hrd; clear hrd
          have HNN := Lib.hid hnn; clear hnn
          have HM2 := Lib.hid hm2; clear hm2
          have HBX := Lib.hid hbx; clear hbx
          obtain ⟨xs, hxs⟩ : ∃ xs, xs = (T0 ++ T).map Ent.b := ⟨_, rfl⟩
          have hxl : xs.length = (T0 ++ T).length := by rw [hxs, List.length_map]
          have HXS := Lib.hid hxs; clear hxs
          have HXL := Lib.hid hxl; clear hxl
          go_wp2_with fail
          refine (wpIn_wide (n := 0)).1 ?_
          refine range_list (gf := 78) (lb := #[.pointer (some ⟨W1.heap.size, 0, none⟩)]) rfl (enters_of Tryz.func78 (by kernel_rfl) rfl) (back1_iter' W1.heap.size bt cc xs (by rw [HXL.out]; omega)) (fun _ _ => rfl)
            (UI w g (T0 ++ T).reverse (T0 ++ T) (T.map (fun x => x.e.key)) (.slice (some ⟨bt, 0, none⟩) n cc) u13 W1.heap.size) (fun _ _ _ => False)
            (UI_own _ _ _ _ _ _ _ _ _ (by rw [HSZ.out]; omega) (by rw [HSZ.out]; omega)) (fun _ _ _ _ _ h _ _ => h)
            (fun i V h => by obtain ⟨L, m, hb⟩ := h; rw [HXS.out]; exact (owns_reads m.o1 hb).2) ⟨L, by rw [List.drop_zero]; exact HM2.out, HBX.out⟩ ?a1 ?assign ?body ?done ?stop
          case assign =>
            intro l i V K hi hK
            gi_wp2
            exact hK
          case body =>
            rintro l i V hi ⟨L', m, hb⟩ hs
            have hil : i < (T0 ++ T).length := by rw [← HXL.out]; exact hi
            obtain ⟨x', hdr, hgd⟩ := rev_getD (T0 ++ T) i hil
            rw [hdr] at m
            obtain ⟨Xb, Yb, rfl, hkb, hhb⟩ := m.h
            obtain ⟨q1, q2, q3, q4, q5, q6, q7, q8, q9⟩ := m.can H.out
            have hcall := back_pool V { g with L := Xb ++ Yb } Xb Yb x' m.p rfl hkb q1 q2 q3 q4 q5 q6 q7 q8 q9
            have hgd' : revAt xs i = x'.b := by rw [HXS.out]; exact hgd
            rw [hgd']
            clear hgd'
            have c4 := m.bx.cell
            have HC := Lib.hid hcall; clear hcall
            have HMb := Lib.hid m; clear m
            have HH := Lib.hid hhb; clear hhb
            have HB := Lib.hid hb; clear hb
            have HDR := Lib.hid hdr; clear hdr hgd hkb q1 q2 q3 q4 q5 q6 q7 q8 q9
            have HSS := Lib.hid hs; clear hs
            gi_wp2_with fail
            refine ⟨trivial, rfl, ((callsIn_wide.2 HC.out).inRound l).mono ?_⟩
            rintro e V' ⟨rfl, hp', hk'⟩
            have m' := HMb.out.back H.out HH.out hp' hk'
            have hlow : ∀ i, Gh.foot { g with L := Xb ++ Yb } i → i < w.heap.size := fun i hi => HMb.out.foot hi
            have hb' := HB.out.keep hk' (fun h => by have := hlow _ h; omega)
            have hkf : KeepsFrom W3.heap.size V V' := ⟨hk'.size, fun k o hB hk _ => hk'.heap hk (fun h => by have := hlow _ h; rw [HSZ.out] at hB; omega)⟩
            have FIN : Hid (roundL W3.heap.size (UI w g (T0 ++ T).reverse (T0 ++ T) (T.map (fun x => x.e.key)) (.slice (some ⟨bt, 0, none⟩) n cc) u13 W1.heap.size) (fun _ _ _ => False) i V .normal ⟨#[], []⟩ V') := ⟨hkf, _, m', hb'⟩
            clear m' hb' hkf hp' hk' hlow
            gi_wp2_with fail
            exact FIN.out
          case done =>
            rintro D V hD ⟨L', m, hb⟩ hK
            have hdr : (T0 ++ T).reverse.drop xs.length = [] := List.drop_eq_nil_of_le (by rw [HXL.out, List.length_reverse]; exact Nat.le_refl _)
            rw [hdr] at m
            have hL' : L' = g.L := m.h
            subst hL'
            have hfin : PutNo g t key z w (.returned (.tuple #[.slice none 0 0, .bool false])) (V.putObj D (.deferred none)) := by
              have kk : Keep (fun k => k = D) V (V.putObj D (.deferred none)) := (Keep.refl (fun k => k = D) V).putObj _ (.inl rfl)
              refine ⟨T, L, by rw [← HL0.out]; exact HE.out, hfr, HNO.out, rfl, ?_, ?_⟩
              · exact m.p.keep kk (fun i hi e => by have := m.foot hi; rw [HSZ.out] at hD; omega)
              · exact m.k.trans' kk (fun i e => .inr (by rw [HSZ.out] at hD; omega))
            have HFIN := Lib.hid hfin; clear hfin m hb
            have HKK := Lib.hid hK; clear hK hdr
            have HDD := Lib.hid hD; clear hD
            go_wp2_with fail
            rw [Exit.noGoto_ret]
            refine ⟨by simp, .inl ⟨_, _, rfl, run_takeDeferred HKK.out, ?_⟩⟩
            exact ⟨.tuple #[.slice none 0 0, .bool false], by simp [results, Tryz.f12, go_sem], .inr HFIN.out⟩
          case stop =>
            rintro D c i V hD hi h hK
            exact h.elim
    · have hfit : z ≤ g.cap - tot (esOf L) := by omega
      have hkn : key ∉ (esOf L).map E.key := by
        intro hm
        obtain ⟨e, he, hek⟩ := List.mem_map.1 hm
        obtain ⟨u, hu, rfl⟩ := List.mem_map.1 he
        have := Ev.sub HE.out u hu
        rw [HL0.out, wo, List.mem_filter] at this
        exact absurd hek (by simpa using this.2)
      obtain ⟨⟨f1, f2, f3, ⟨vl, f4⟩, f5, f6, f7, f8, f9, f10⟩, ⟨fm, fr⟩, hend⟩ := PoolIs.fresh (g := { g with L := L }) HM.out.p key t z ht hks hz hkn hfit
      have c0a : ∀ o, (wr.alloc o).cell? ⟨w.heap.size, 0, none⟩ = some (ptr g.bp) := fun o => (HM.out.bx.alloc o).cell
      have HFM := Lib.hid (And.intro fm fr); clear fm fr
      have HEND := Lib.hid hend; clear hend
      have HKN := Lib.hid hkn; clear hkn
      have HFIT := Lib.hid hfit; clear hfit
      have hwl : w.heap.size < wr.heap.size := HM.out.bx.lt
      go_wp2_with fail
      refine (insert_any wr.heap.size g.bp _ _ _ vl _ f9 f10 f1 f2 f3 f4 f5 f6 f7 f8).mono ?_
      rintro e w2 ⟨rfl, hw2⟩
      have fm : w2.cell? ⟨g.bp, 8, none⟩ = some (.map (some g.bm)) := by rw [hw2]; exact HFM.out.1
      have fr : MapRel Tryz.prog 9 w2 g.bm (fun k v => ∃ x ∈ L, k = .string x.e.key ∧ v = ptr x.b) := by rw [hw2]; exact HFM.out.2
      have hlb : lastB g.bp L < w.heap.size := (lastB_mem g.bp L).elim (fun e => by rw [e]; exact hlt) (fun e => HM.out.foot (.inr (.inr (.inr (.inr e)))))
      have hbm : g.bm < w.heap.size := HM.out.foot (i := g.bm) (.inr (.inr (.inr (.inl rfl))))
      have kx : Keep (fun i => i = wr.heap.size ∨ i = lastB g.bp L ∨ i = g.bp) (wr.alloc (newO key t z)) w2 := by
        rw [hw2]
        exact ((((Keep.refl (fun i => i = wr.heap.size ∨ i = lastB g.bp L ∨ i = g.bp) _).setCell (p := ⟨wr.heap.size, 3, none⟩) _ (.inl (.inl rfl))).setCell (p := ⟨wr.heap.size, 4, none⟩) _ (.inl (.inl rfl))).setCell (p := ⟨lastB g.bp L, 4, none⟩) _ (.inl (.inr (.inl rfl)))).setCell (p := ⟨g.bp, 3, none⟩) _ (.inl (.inr (.inr rfl)))
      have hbx2 : Box w2 w.heap.size (ptr g.bp) := (HM.out.bx.alloc (newO key t z)).keep kx (by omega)
      have c02 := hbx2.cell
      obtain ⟨es', ck', hupd, hm3⟩ := fr.update (t := 77) (et := 78) strKeyed Tryz.underlying77 (keyStr hks) (.pointer (some ⟨wr.heap.size, 0, none⟩))
      have c03 : (w2.putObj g.bm (.map es' ck')).cell? ⟨w.heap.size, 0, none⟩ = some (ptr g.bp) := (cell_put (by omega)).trans c02
      have hend := HEND.out (.map es' ck') (by rw [hw2] at hm3; exact hm3)
      rw [← hw2] at hend
      obtain ⟨r7, r9, rf9, r1, r2, ru, rfu, rpu, rxu, hfin⟩ := hend
      have HFIN := Lib.hid hfin; clear hfin hw2
      have hub : 0 ≤ usedOf (esOf L) t ∧ usedOf (esOf L) t ≤ 1000000 := HM.out.p.used_bd t
      have hbd : tot (esOf L) ≤ g.cap := HM.out.p.le
      have hcp : g.cap ≤ 1000000 := HM.out.p.cap
      have htn : 0 ≤ tot (esOf L) := tot_nonneg _ (fun y hy => (HM.out.p.rng y hy).2)
      have HUB := Lib.hid (And.intro hub (And.intro hbd (And.intro hcp htn))); clear hub hbd hcp htn
      clear f1 f2 f3 f4 f5 f6 f7 f8 f9 f10 c0a kx hbx2 fr hm3
      go_wp2_with fail
      obtain ⟨w3, hw3⟩ : ∃ w3, w3 = w2.putObj g.bm (.map es' ck') := ⟨_, rfl⟩
      rw [← hw3] at r7 r9 rf9 r1 r2 ru rfu c03 ⊢
      have HW3 := Lib.hid hw3; clear hw3 hupd
      refine (count_any g.bp wr.heap.size g.bu g.sh.length g.uc t (usedOf (esOf L) t) (g.cap - tot (esOf L)) z 1 z (usedOf (esOf L) t + z) (g.cap - tot (esOf L) - z) w3 ht r7 r9 rf9 r1 r2 ru rfu rpu rxu
        (by have h1 := HUB.out; have h2 := HFIT.out; rw [wrap_in (by omega) (by omega)]; omega) (by have h1 := HUB.out; have h2 := HFIT.out; rw [wrap_in (by omega) (by omega)]) (by have h1 := HUB.out; have h2 := HFIT.out; rw [wrap_in (by omega) (by omega)])).mono ?_
      rintro e w4 ⟨rfl, k4, hw4⟩
      obtain ⟨hp4, hk4⟩ := HFIN.out k4
      rw [← HW3.out, ← hw4] at hp4 hk4
      have hok := put_done HM.out (by rw [← HL0.out]; exact HE.out) HFIT.out hp4 hk4
      have HOK := Lib.hid hok; clear hok hp4 hk4 hw4
      go_wp2_with fail
      rw [Exit.noGoto_ret]
      exact ⟨.tuple #[u13, .bool true], by simp [results, Tryz.f12, go_sem], .inl HOK.out⟩

end Go.Proofs.YtcnpncndecjahaaGreatDoor.Mem
