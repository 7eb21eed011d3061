/-
  Several texts in one, each under its own heading below (merged by a program of ours): the contracts of the functions that the law reaches, part 4 of 5.
-/
import Derived.Test.YtiacdkggbnoigaaGreatDoorM1
import Derived.Test.YtiacdkggbnoigaaGreatDoorM2
import Derived.Test.YtiacdkggbnoigaaGreatDoorM3
import Derived.StillTailTactics

/-
  Apply of package reshard.
-/
namespace Go.Proofs.YtiacdkggbnoigaaGreatDoor
open Go.RowKit Go.Shelf

theorem applyS_hit {o : List Int} {q : Nat} {x t : Int} (h : o[q]? = some x) : applyS o ⟨q, x, t⟩ = o.set q t := by
  have hq := (List.getElem?_eq_some_iff.1 h).1
  unfold applyS
  rw [if_pos ⟨by simp only []; omega, by simp only []; omega, by simp only [Int.toNat_natCast]; rw [List.getD_eq_getElem?_getD, h]; rfl⟩]
  simp only [Int.toNat_natCast]
theorem applyS_miss {o : List Int} {q : Nat} {x f t : Int} (h : o[q]? = some x) (hne : x ≠ f) : applyS o ⟨q, f, t⟩ = o := by
  unfold applyS
  rw [if_neg]
  rintro ⟨-, -, h3⟩
  simp only [Int.toNat_natCast] at h3
  rw [List.getD_eq_getElem?_getD, h] at h3
  exact hne h3
set_option maxRecDepth 100000 in
set_option maxHeartbeats 8000000 in
theorem apply_any (v vm : Value) (ep : Int) (lr : List Mb) (ow : List Int) (ms : List Mv) (w : World) (h : Rng w v ep lr ow) (ho : ow.length = 64) (hm : Mvs w vm ms) (hs : ∀ m ∈ ms, 0 ≤ m.slot ∧ m.slot < 64) :
    Calls Tryz.prog 16 #[v, vm] w (CloneI (applyL ow ms) w) := by
  obtain ⟨-, rm, ro, rfl, hrm, hro⟩ := h
  obtain ⟨ma, mn, mc, rfl⟩ : ∃ a n c, rm = .slice a n c := by obtain ⟨a, c, b, off, h, _⟩ := hrm.at_; exact ⟨_, _, _, h⟩
  have HIO := Lib.hid hro
  obtain ⟨-, -, oa, oc, ob, oo, rfl, hoc, hoa, -⟩ := hro
  obtain ⟨hml, hbd, va, vc, vb, vo, rfl, hvc, hva, hvcell⟩ := hm
  obtain ⟨ln, hln⟩ : ∃ n, ms.length = n := ⟨_, rfl⟩
  rw [List.length_map, hln] at hvc hva hml ⊢
  have HLN := Lib.hid hln
  have HOL := Lib.hid ho
  have HS := Lib.hid hs
  have HVA := Lib.hid hva
  have HVC := Lib.hid hvcell
  rw [ho] at HIO ⊢
  clear hrm hoc hoa hbd hva hvcell hln ho hs
  have HX := Lib.hid (Box3.new w (.int .i64 ep) (.slice ma mn mc) (.slice oa 64 oc) 25)
  have HK0 : Hid (Keep (fun _ => False) w (w.alloc (.cells #[.int .i64 ep, .slice ma mn mc, .slice oa 64 oc] 25))) := Lib.hid ((Keep.refl _ w).alloc _)
  go_enter Tryz.func16, Tryz.ntmps16
  go_upto_region 1 with (fail)
  generalize w.alloc (.cells #[.int .i64 ep, .slice ma mn mc, .slice oa 64 oc] 25) = W0 at *
  generalize hz : w.heap.size = z at HX ⊢
  have HZ := Lib.hid hz
  clear hz
  obtain ⟨x0, x1, x2, xf⟩ := HX.out
  go_wp2_with fail
  clear x0 x1 x2 xf
  with_reducible refine (cloneI_any _ ow W0 (HIO.out.kept HK0.out) (by have := HOL.out; omega)).mono ?_
  rintro e W1 ⟨ga, gc, rfl, hown, k1⟩
  rw [HOL.out] at hown ⊢
  obtain ⟨og, rfl⟩ := own_some' hown (by decide)
  have HOW : Hid (W1.ownsRow W0.heap.size 3 1 (.slice (some ⟨og, 0, none⟩) 64 gc) 64 ((applyL ow (ms.take 0)).map (fun x => Value.int .i64 x))) := Lib.hid hown
  have HOGB : Hid (w.heap.size ≤ og) := Lib.hid (by have := (hown.lt og rfl).1; have := HK0.out.size; omega)
  have HK1 := Lib.hid (HK0.out.trans k1)
  have HKS := Lib.hid HK0.out.size
  clear hown k1
  generalize W0.heap.size = B at *
  go_upto_region 3 with (fail)
  go_loopg [13] ln (fun gh v13 wr => ∃ i : Nat, gh + i = ln ∧ v13 = .int .i64 i ∧ wr.ownsRow B 3 1 (.slice (some ⟨og, 0, none⟩) 64 gc) 64 ((applyL ow (ms.take i)).map (fun x => Value.int .i64 x)) ∧ Keep (fun j => j = og) W1 wr)
  case atStart => exact ⟨0, by omega, rfl, HOW.out, Keep.refl _ _⟩
  case round =>
    obtain ⟨i, hi, rfl, hown, hkeep⟩ := hrel
    have HOI := Lib.hid hown
    have HK := Lib.hid hkeep
    have HKW : Hid (Keep (fun _ => False) w wr) := Lib.hid (HK1.out.trans' hkeep (fun j e => .inr (by have h5 : j = og := e; have := HOGB.out; omega)))
    clear hown hkeep
    by_cases hlt : i < ln
    · obtain ⟨m, hm⟩ : ∃ m, ms[i]? = some m := ⟨_, List.getElem?_eq_getElem (by have := HLN.out; omega)⟩
      obtain rfl := HVA.out (by omega)
      obtain ⟨c0, c1, c2⟩ := HVC.out i (mvMb m) (by rw [List.getElem?_map, hm]; rfl)
      have c0 := HKW.out.cell c0 (fun h => h)
      have c1 := HKW.out.cell c1 (fun h => h)
      have c2 := HKW.out.cell c2 (fun h => h)
      obtain ⟨hs0, hs1⟩ := HS.out m (List.mem_of_getElem? hm)
      have HMM := Lib.hid hm
      obtain ⟨ms0, mf, mt⟩ := m
      simp only [mvMb] at c0 c1 c2 hs0 hs1
      obtain ⟨q, rfl⟩ : ∃ q : Nat, ms0 = q := ⟨ms0.toNat, by omega⟩
      have hiz : (i : Int) < (ln : Int) := by omega
      have hi0 : (0 : Int) ≤ (i : Int) := by omega
      have hq : q < 64 := by omega
      clear hm
      go_upto_region 5 with (fail)
      clear c0 c1 c2
      have HB := Lib.hid (Box3.new wr (.int .i64 q) (.int .i64 mf) (.int .i64 mt) 77)
      have HKV : Hid (Keep (fun _ => False) wr (wr.alloc (.cells #[.int .i64 q, .int .i64 mf, .int .i64 mt] 77))) := Lib.hid ((Keep.refl _ wr).alloc _)
      have HOGL : Hid (og < wr.heap.size) := Lib.hid (HOI.out.lt og rfl).2
      generalize wr.alloc (.cells #[.int .i64 q, .int .i64 mf, .int .i64 mt] 77) = V at *
      generalize wr.heap.size = zb at *
      obtain ⟨xq, hxq⟩ : ∃ x, (applyL ow (ms.take i))[q]? = some x := ⟨_, List.getElem?_eq_getElem (by rw [applyL_len, HOL.out]; exact hq)⟩
      have HXQ := Lib.hid hxq
      have HOV := Lib.hid (ownsRow_keep HOI.out HKV.out (fun _ _ h => h))
      have cq : V.cell? ⟨og, q, none⟩ = some (.int .i64 xq) := by
        rw [HOV.out.cellAt q hq, List.getElem?_map, hxq]; rfl
      have HCQ := Lib.hid cq
      clear hxq cq
      have a0 : ∀ p : KA (fun _ => False) V, p.val.cell? ⟨zb, 0, none⟩ = some (.int .i64 q) := fun p => (HB.out.kept p.k).1
      have a1 : ∀ p : KA (fun _ => False) V, p.val.cell? ⟨zb, 1, none⟩ = some (.int .i64 mf) := fun p => (HB.out.kept p.k).2.1
      have aq : ∀ p : KA (fun _ => False) V, p.val.cell? ⟨og, q, none⟩ = some (.int .i64 xq) := fun p => p.k.cell HCQ.out (fun h => h)
      refine wp_region_walk [(false, 0), (false, 1), (false, 2), (false, 3), (true, 4), (true, 5), (false, 6), (false, 7), (false, 8), (false, 9), (false, 10), (true, 11), (true, 12), (true, 13), (true, 14), (true, 15), (false, 16), (false, 17), (false, 18), (false, 19)] (inKA (fun _ => False) V) (by kernel_rfl) (by kernel_rfl) ?_
      have HKD : Hid (Keep (fun _ => False) V V.drew) := Lib.hid (Keep.refl _ V).drew
      obtain ⟨b0, b1, b2, bf⟩ := HB.out.kept HKD.out
      generalize V.drew = V1 at *
      iterate 4 (refine walkW_do rfl (inKA.of HKD.out) (fun K hK => ?_); go_simp; refine hK _ _ ?_; clear hK K)
      iterate 2 (refine walkW_read rfl (fun K hK => ?_); go_simp; refine hK _ ?_; clear hK K)
      iterate 5 (refine walkW_do rfl (inKA.of HKD.out) (fun K hK => ?_); go_simp; refine hK _ _ ?_; clear hK K)
      iterate 5 (refine walkW_read rfl (fun K hK => ?_); go_simp; refine hK _ ?_; clear hK K)
      iterate 4 (refine walkW_do rfl (inKA.of HKD.out) (fun K hK => ?_); go_simp; refine hK _ _ ?_; clear hK K)
      clear a0 a1 aq
      refine ⟨inKA.of HKD.out, ?_⟩
      have HKR : Hid (Keep (fun j => j = og) W1 V1) := Lib.hid ((HK.out.trans (HKV.out.mono (fun _ h => h.elim))).trans (HKD.out.mono (fun _ h => h.elim)))
      have HOD := Lib.hid (ownsRow_keep HOV.out HKD.out (fun _ _ h => h))
      clear HK HKW HKV HKD HOV HOI HCQ HB
      by_cases hxm : xq = mf
      · subst hxm
        have HST := Lib.hid (HOD.out.stored q (.int .i64 mt)).1
        have HN : Hid ((V1.setCell ⟨og, q, none⟩ (.int .i64 mt)).ownsRow B 3 1 (.slice (some ⟨og, 0, none⟩) 64 gc) 64 ((applyL ow (ms.take (i + 1))).map (fun x => Value.int .i64 x))) := Lib.hid (by
          rw [applyL_take HMM.out, applyS_hit HXQ.out, List.map_set]
          exact HST.out)
        have HKN : Hid (Keep (fun j => j = og) W1 (V1.setCell ⟨og, q, none⟩ (.int .i64 mt))) := Lib.hid (HKR.out.setCell (p := ⟨og, q, none⟩) _ (.inl rfl))
        have yf : ∀ o, V1.frozen? ⟨og, o, none⟩ = false := fun o => HOD.out.frozenAt o
        have cq : ∃ u, V1.cell? ⟨og, q, none⟩ = some u := by
          rw [HOD.out.cellAt q hq, List.getElem?_map, HXQ.out]; exact ⟨_, rfl⟩
        obtain ⟨yu, cq⟩ := cq
        clear HST
        go_wp2_with fail
        clear yf cq b0 b1 b2 bf
        generalize V1.setCell ⟨og, q, none⟩ (.int .i64 mt) = W9 at *
        go_roundg (ln - (i + 1))
        case rel => exact ⟨i + 1, by omega, by go_num, HN.out, HKN.out⟩
        case measure => omega
      · have HN : Hid (V1.ownsRow B 3 1 (.slice (some ⟨og, 0, none⟩) 64 gc) 64 ((applyL ow (ms.take (i + 1))).map (fun x => Value.int .i64 x))) := Lib.hid (by
          rw [applyL_take HMM.out, applyS_miss HXQ.out hxm]
          exact HOD.out)
        have hxb : (xq == mf) = false := by simpa using hxm
        go_wp2_with fail
        clear b0 b1 b2 bf
        go_roundg (ln - (i + 1))
        case rel => exact ⟨i + 1, by omega, by go_num, HN.out, HKR.out⟩
        case measure => omega
    · obtain rfl : i = ln := by omega
      have hiz : ¬ ((i : Int) < (i : Int)) := by omega
      have HOE : Hid (wr.ownsRow B 3 1 (.slice (some ⟨og, 0, none⟩) 64 gc) 64 ((applyL ow ms).map (fun x => Value.int .i64 x))) := Lib.hid (by
        have h1 := HOI.out
        rwa [List.take_of_length_le (by have := HLN.out; omega)] at h1)
      go_wp2_with fail
      go_ret
      exact ⟨some ⟨og, 0, none⟩, gc, by rw [applyL_len, HOL.out]; rfl, by rw [applyL_len, HOL.out]; exact ownsRow_lo HOE.out HKS.out, HKW.out⟩
end Go.Proofs.YtiacdkggbnoigaaGreatDoor

/-
  The law's pick, the reference's With.
-/
namespace Go.Proofs.YtiacdkggbnoigaaGreatDoor
open Go.RowKit Go.Shelf

set_option maxRecDepth 100000 in
set_option maxHeartbeats 400000 in
theorem pick13_any (c n : Int) (w : World) (hc : I64 c) (hn : 1 ≤ n ∧ n ≤ 9223372036854775807) : Calls Tryz.prog 27 #[.int .i64 c, .int .i64 n] w fun e w' => e = .returned (.int .i64 (pk c n)) ∧ w = w' := by
  unfold I64 at hc
  by_cases h : c < 0
  · have HP : Hid (pk c n = (-(c + 1)) % n) := Lib.hid (by unfold pk; rw [if_pos h])
    have h0 : 0 ≤ -(c + 1) := by omega
    have h1 : -(c + 1) ≤ 9223372036854775807 := by omega
    go_enter Tryz.func27, Tryz.ntmps27
    go_wp2
    go_ret
    refine ⟨?_, rfl⟩
    show Ending.returned (.int .i64 (-(c + 1).tmod n)) = _
    rw [HP.out, ← Int.neg_tmod, Int.tmod_eq_emod_of_nonneg (by omega)]
  · have HP : Hid (pk c n = c % n) := Lib.hid (by unfold pk; rw [if_neg h])
    go_enter Tryz.func27, Tryz.ntmps27
    go_wp2
    go_ret
    exact ⟨by rw [HP.out]; rfl, rfl⟩

/-- With, k members read. -/
def anyHi (l : List Mb) (m : Mb) : Bool := l.any (fun x => decide (m.node < x.node))
theorem moreM_hi {l : List Mb} {m x : Mb} (h : m.node < x.node) : moreM (l ++ [x]) m = moreM l m ++ [x] := by
  unfold moreM loM hiM
  rw [List.filter_append, List.filter_append, List.filter_cons_of_neg (by simp; omega), List.filter_cons_of_pos (by simpa using h)]
  simp
theorem moreM_lo {l : List Mb} {m : Mb} (h : ∀ x ∈ l, x.node < m.node) : moreM l m = l ++ [m] := by
  unfold moreM loM hiM
  rw [List.filter_eq_self.2 (fun x hx => by simpa using h x hx), List.filter_eq_nil_iff.2 (fun x hx => by have := h x hx; simp; omega)]
theorem anyHi_snoc (l : List Mb) (m x : Mb) : anyHi (l ++ [x]) m = (anyHi l m || decide (m.node < x.node)) := by
  unfold anyHi
  simp
theorem anyHi_false {l : List Mb} {m : Mb} (h : anyHi l m = false) (hm : ∀ x ∈ l, x.node ≠ m.node) : ∀ x ∈ l, x.node < m.node := fun x hx => by
  have h1 := List.any_eq_false.1 h x hx
  have h2 := hm x hx
  simp only [decide_eq_true_eq] at h1
  omega
/-- One more, ahead of the first that is greater. -/
def insW : List Mb → Mb → List Mb
  | [], m => [m]
  | x :: r, m => if m.node < x.node then m :: x :: r else x :: insW r m
theorem insW_hi {m y : Mb} : ∀ {l : List Mb}, anyHi l m = true → insW (l ++ [y]) m = insW l m ++ [y]
  | [], h => by simp [anyHi] at h
  | x :: r, h => by
    rw [List.cons_append]
    unfold insW
    by_cases hx : m.node < x.node
    · rw [if_pos hx, if_pos hx]; rfl
    · have h2 : anyHi r m = true := by simpa [anyHi, hx] using h
      rw [if_neg hx, if_neg hx, insW_hi h2]
      rfl
theorem insW_lo {m : Mb} : ∀ {l : List Mb}, anyHi l m = false → insW l m = l ++ [m]
  | [], _ => rfl
  | x :: r, h => by
    have h1 : ¬ m.node < x.node ∧ anyHi r m = false := by simpa [anyHi] using h
    unfold insW
    rw [if_neg h1.1, insW_lo h1.2]
    rfl
theorem insW_here {m y : Mb} : ∀ {l : List Mb}, anyHi l m = false → m.node < y.node → insW (l ++ [y]) m = l ++ [m] ++ [y]
  | [], _, hy => by
    show insW [y] m = _
    unfold insW
    rw [if_pos hy]
    rfl
  | x :: r, h, hy => by
    have h1 : ¬ m.node < x.node ∧ anyHi r m = false := by simpa [anyHi] using h
    rw [List.cons_append]
    unfold insW
    rw [if_neg h1.1, insW_here h1.2 hy]
    rfl
theorem insW_len (m : Mb) : ∀ l : List Mb, (insW l m).length = l.length + 1
  | [] => rfl
  | x :: r => by
    unfold insW
    split
    · rfl
    · rw [List.length_cons, insW_len m r]; rfl
theorem insW_mem {m y : Mb} : ∀ {l : List Mb}, y ∈ insW l m → y = m ∨ y ∈ l
  | [], h => .inl (by simpa [insW] using h)
  | x :: r, h => by
    unfold insW at h
    split at h
    · rcases List.mem_cons.1 h with h | h
      · exact .inl h
      · exact .inr h
    · rcases List.mem_cons.1 h with h | h
      · exact .inr (by rw [h]; exact List.mem_cons_self)
      · rcases insW_mem h with h | h
        · exact .inl h
        · exact .inr (List.mem_cons_of_mem _ h)
theorem insW_more {m : Mb} : ∀ {l : List Mb}, l.Pairwise (fun a b => a.node < b.node) → (∀ x ∈ l, x.node ≠ m.node) → insW l m = moreM l m
  | [], _, _ => by simp [insW, moreM, loM, hiM]
  | x :: r, hs, hm => by
    rw [List.pairwise_cons] at hs
    unfold insW
    have hx := hm x List.mem_cons_self
    by_cases h : m.node < x.node
    · rw [if_pos h]
      have a1 : (x :: r).filter (fun y => decide (y.node < m.node)) = [] := List.filter_eq_nil_iff.2 (fun y hy => by
        rcases List.mem_cons.1 hy with rfl | hy
        · simp; omega
        · have := hs.1 y hy; simp; omega)
      have a2 : (x :: r).filter (fun y => decide (m.node < y.node)) = x :: r := List.filter_eq_self.2 (fun y hy => by
        rcases List.mem_cons.1 hy with rfl | hy
        · simpa using h
        · have := hs.1 y hy; simp; omega)
      unfold moreM loM hiM
      rw [a1, a2]
      rfl
    · rw [if_neg h, insW_more hs.2 (fun y hy => hm y (List.mem_cons_of_mem _ hy))]
      unfold moreM loM hiM
      rw [List.filter_cons_of_pos (by simp; omega), List.filter_cons_of_neg (by simpa using h)]
      rfl
def withG (l : List Mb) (m : Mb) : List Mb := if anyHi l m then insW l m else l
theorem withG_done {l : List Mb} {m x : Mb} (h : anyHi l m = true) : withG (l ++ [x]) m = withG l m ++ [x] := by
  unfold withG
  rw [anyHi_snoc, h, Bool.true_or, if_pos rfl, if_pos rfl, insW_hi h]
theorem withG_here {l : List Mb} {m x : Mb} (h : anyHi l m = false) (hx : m.node < x.node) : withG (l ++ [x]) m = withG l m ++ [m] ++ [x] := by
  unfold withG
  rw [anyHi_snoc, h, Bool.false_or, if_pos (by simpa using hx), if_neg (by simp), insW_here h hx]
theorem withG_lo {l : List Mb} {m x : Mb} (h : anyHi l m = false) (hx : ¬ m.node < x.node) : withG (l ++ [x]) m = withG l m ++ [x] := by
  unfold withG
  rw [anyHi_snoc, h, Bool.false_or, if_neg (by simpa using hx), if_neg (by simp)]
theorem withG_len (l : List Mb) (m : Mb) : (withG l m).length ≤ l.length + 1 := by
  unfold withG
  split
  · rw [insW_len]
    exact Nat.le_refl _
  · omega
theorem withG_end {l : List Mb} {m : Mb} : (if anyHi l m then withG l m else withG l m ++ [m]) = insW l m := by
  by_cases h : anyHi l m = true
  · rw [if_pos h]
    unfold withG
    rw [if_pos h]
  · rw [if_neg h]
    have h' : anyHi l m = false := by simpa using h
    unfold withG
    rw [if_neg h, insW_lo h']
set_option maxRecDepth 100000 in
set_option maxHeartbeats 8000000 in
theorem withG_any (v : Value) (l : List Mb) (m : Mb) (w : World) (h : Mbs w v l) (hl : l.length ≤ 1000) :
    Calls Tryz.prog 28 #[v, mbV m] w (OwnPost (insW l m) w) := by
  obtain ⟨-, -, a, c, b, off, rfl, hc, ha, hcell⟩ := h
  obtain ⟨ln, hln⟩ : ∃ n, l.length = n := ⟨_, rfl⟩
  rw [hln] at hc ha hl ⊢
  have HC := Lib.hid hcell
  have HA := Lib.hid ha
  have HLN := Lib.hid hln
  clear hcell ha hln
  obtain ⟨m0, m1, m2⟩ := m
  have HX := Lib.hid (Box3.new w (.int .i64 m0) (.int .i64 m1) (.int .i64 m2) 44)
  have HK0 : Hid (Keep (fun _ => False) w (w.alloc (.cells #[.int .i64 m0, .int .i64 m1, .int .i64 m2] 44))) := Lib.hid ((Keep.refl _ w).alloc _)
  go_enter Tryz.func28, Tryz.ntmps28
  go_upto_region 4 with (fail)
  generalize w.alloc (.cells #[.int .i64 m0, .int .i64 m1, .int .i64 m2] 44) = W0 at *
  generalize hz : w.heap.size = z at HX ⊢
  have HZ := Lib.hid hz
  clear hz
  have HW0 : Hid (OwnB W0 (withG (l.take 0) ⟨m0, m1, m2⟩) (.slice none 0 0) W0) := Lib.hid (OwnB.nil (Keep.refl _ W0))
  go_loopg [5, 6, 7] ln (fun gh v5 v6 v7 wr => ∃ (k : Nat) (d : Bool), gh + k = ln ∧ v6 = .bool d ∧ v7 = .int .i64 k ∧ anyHi (l.take k) ⟨m0, m1, m2⟩ = d ∧ OwnB W0 (withG (l.take k) ⟨m0, m1, m2⟩) v5 wr)
  case atStart => exact ⟨0, false, by omega, rfl, rfl, rfl, HW0.out⟩
  case round =>
    obtain ⟨k, d, hk, rfl, rfl, hd, hown⟩ := hrel
    have HD := Lib.hid hd
    have HOW := Lib.hid hown
    have HKK := Lib.hid hown.1
    clear hd hown
    by_cases hlt : k < ln
    · obtain ⟨x, hx⟩ : ∃ x, l[k]? = some x := ⟨_, List.getElem?_eq_getElem (by have := HLN.out; omega)⟩
      obtain rfl := HA.out (by omega)
      obtain ⟨c0, c1, c2⟩ := HC.out k x hx
      have c0 := (HK0.out.trans HKK.out).cell c0 (fun h => h)
      have c1 := (HK0.out.trans HKK.out).cell c1 (fun h => h)
      have c2 := (HK0.out.trans HKK.out).cell c2 (fun h => h)
      obtain ⟨b0, b1, b2, -⟩ := HX.out.kept HKK.out
      have HXX := Lib.hid hx
      have hkz : (k : Int) < (ln : Int) := by omega
      have hk0 : (0 : Int) ≤ (k : Int) := by omega
      clear hx
      obtain ⟨x0, x1, x2⟩ := x
      simp only [] at c0 c1 c2
      have HTK : Hid (l.take (k + 1) = l.take k ++ [⟨x0, x1, x2⟩]) := Lib.hid (by rw [List.take_add_one, HXX.out]; rfl)
      have HWL : Hid ((withG (l.take k) ⟨m0, m1, m2⟩).length ≤ k + 1) := Lib.hid (by
        have h1 := withG_len (l.take k) ⟨m0, m1, m2⟩
        have h2 : (l.take k).length ≤ k := List.length_take_le _ _
        omega)
      cases d with
      | true =>
        have HW : Hid (withG (l.take (k + 1)) ⟨m0, m1, m2⟩ = withG (l.take k) ⟨m0, m1, m2⟩ ++ [⟨x0, x1, x2⟩]) := Lib.hid (by rw [HTK.out, withG_done HD.out])
        have HDN : Hid (anyHi (l.take (k + 1)) ⟨m0, m1, m2⟩ = true) := Lib.hid (by rw [HTK.out, anyHi_snoc, HD.out]; rfl)
        go_wp2_with fail
        go_quiet (fail)
        clear c0 c1 c2 b0 b1 b2
        have HOW1 := Lib.hid (HOW.out.keep ((Keep.refl (fun _ => False) wr).drewN nq))
        clear HOW HKK
        generalize wr.drewN nq = Y0 at *
        have c0 := (HK0.out.trans HOW1.out.1).cell (HC.out k _ HXX.out).1 (fun h => h)
        have c1 := (HK0.out.trans HOW1.out.1).cell (HC.out k _ HXX.out).2.1 (fun h => h)
        have c2 := (HK0.out.trans HOW1.out.1).cell (HC.out k _ HXX.out).2.2 (fun h => h)
        simp only [] at c0 c1 c2
        obtain ⟨v', Y1, hr, hn, -, -⟩ := HOW1.out.snoc ⟨x0, x1, x2⟩ (by have := HWL.out; omega)
        simp only [] at hr
        rw [← HW.out] at hn
        have HR := Lib.hid hr
        have HN := Lib.hid hn
        clear hr hn
        go_wp2_with (at_builtin; refine wpList_app rfl (.tmp 30) (.tmp 35) 22 rfl rfl rfl HR.out ?_)
        clear c0 c1 c2
        go_roundg (ln - (k + 1))
        case rel => exact ⟨k + 1, true, by omega, rfl, by go_num, HDN.out, HN.out⟩
        case measure => omega
      | false =>
        by_cases hgt : m0 < x0
        · have HW : Hid (withG (l.take (k + 1)) ⟨m0, m1, m2⟩ = withG (l.take k) ⟨m0, m1, m2⟩ ++ [⟨m0, m1, m2⟩] ++ [⟨x0, x1, x2⟩]) := Lib.hid (by rw [HTK.out, withG_here HD.out hgt])
          have HDN : Hid (anyHi (l.take (k + 1)) ⟨m0, m1, m2⟩ = true) := Lib.hid (by rw [HTK.out, anyHi_snoc, HD.out]; simpa using hgt)
          go_wp2_with fail
          go_quiet (fail)
          clear c0 c1 c2 b0 b1 b2
          have HOW1 := Lib.hid (HOW.out.keep ((Keep.refl (fun _ => False) wr).drewN nq))
          clear HOW HKK
          generalize wr.drewN nq = Y0 at *
          obtain ⟨b0, b1, b2, -⟩ := HX.out.kept HOW1.out.1
          obtain ⟨v', Y1, hr, hn, -, -⟩ := HOW1.out.snoc ⟨m0, m1, m2⟩ (by have := HWL.out; omega)
          simp only [] at hr
          have HR := Lib.hid hr
          have HN := Lib.hid hn
          clear hr hn
          have c0 := (HK0.out.trans HN.out.1).cell (HC.out k _ HXX.out).1 (fun h => h)
          have c1 := (HK0.out.trans HN.out.1).cell (HC.out k _ HXX.out).2.1 (fun h => h)
          have c2 := (HK0.out.trans HN.out.1).cell (HC.out k _ HXX.out).2.2 (fun h => h)
          simp only [] at c0 c1 c2
          obtain ⟨v2, Y2, hr2, hn2, -, -⟩ := HN.out.snoc ⟨x0, x1, x2⟩ (by rw [List.length_append]; have := HWL.out; simp; omega)
          simp only [] at hr2
          rw [← HW.out] at hn2
          have HR2 := Lib.hid hr2
          have HN2 := Lib.hid hn2
          clear hr2 hn2
          go_wp2_with (first | (at_builtin; refine wpList_app rfl (.tmp 26) (.tmp 28) 22 rfl rfl rfl HR.out ?_) | (at_builtin; refine wpList_app rfl (.tmp 30) (.tmp 35) 22 rfl rfl rfl HR2.out ?_))
          clear c0 c1 c2 b0 b1 b2
          go_roundg (ln - (k + 1))
          case rel => exact ⟨k + 1, true, by omega, rfl, by go_num, HDN.out, HN2.out⟩
          case measure => omega
        · have HW : Hid (withG (l.take (k + 1)) ⟨m0, m1, m2⟩ = withG (l.take k) ⟨m0, m1, m2⟩ ++ [⟨x0, x1, x2⟩]) := Lib.hid (by rw [HTK.out, withG_lo HD.out hgt])
          have HDN : Hid (anyHi (l.take (k + 1)) ⟨m0, m1, m2⟩ = false) := Lib.hid (by rw [HTK.out, anyHi_snoc, HD.out]; simpa using hgt)
          go_wp2_with fail
          go_quiet (fail)
          clear c0 c1 c2 b0 b1 b2
          have HOW1 := Lib.hid (HOW.out.keep ((Keep.refl (fun _ => False) wr).drewN nq))
          clear HOW HKK
          generalize wr.drewN nq = Y0 at *
          have c0 := (HK0.out.trans HOW1.out.1).cell (HC.out k _ HXX.out).1 (fun h => h)
          have c1 := (HK0.out.trans HOW1.out.1).cell (HC.out k _ HXX.out).2.1 (fun h => h)
          have c2 := (HK0.out.trans HOW1.out.1).cell (HC.out k _ HXX.out).2.2 (fun h => h)
          simp only [] at c0 c1 c2
          obtain ⟨v', Y1, hr, hn, -, -⟩ := HOW1.out.snoc ⟨x0, x1, x2⟩ (by have := HWL.out; omega)
          simp only [] at hr
          rw [← HW.out] at hn
          have HR := Lib.hid hr
          have HN := Lib.hid hn
          clear hr hn
          go_wp2_with (at_builtin; refine wpList_app rfl (.tmp 30) (.tmp 35) 22 rfl rfl rfl HR.out ?_)
          clear c0 c1 c2
          go_roundg (ln - (k + 1))
          case rel => exact ⟨k + 1, false, by omega, rfl, by go_num, HDN.out, HN.out⟩
          case measure => omega
    · obtain rfl : k = ln := by omega
      have HTL : Hid (l.take k = l) := Lib.hid (List.take_of_length_le (by have := HLN.out; omega))
      have hkz : ¬ ((k : Int) < (k : Int)) := by omega
      have HLE := Lib.hid (withG_end (l := l) (m := ⟨m0, m1, m2⟩))
      have HWL := Lib.hid (withG_len l ⟨m0, m1, m2⟩)
      rw [HTL.out] at HD HOW
      cases d with
      | true =>
        have hle := HLE.out
        rw [if_pos HD.out] at hle
        rw [hle] at HOW
        go_wp2_with fail
        go_ret
        exact ⟨_, rfl, ⟨HK0.out.trans HOW.out.1, ownsRow_lo HOW.out.2 HK0.out.size⟩⟩
      | false =>
        have hle := HLE.out
        rw [if_neg (by rw [HD.out]; simp)] at hle
        obtain ⟨b0, b1, b2, -⟩ := HX.out.kept HKK.out
        obtain ⟨v', Y1, hr, hn, -, -⟩ := HOW.out.snoc ⟨m0, m1, m2⟩ (by have := HWL.out; have := HLN.out; omega)
        simp only [] at hr
        rw [hle] at hn
        have HR := Lib.hid hr
        have HN := Lib.hid hn
        clear hr hn hle
        go_wp2_with (at_builtin; refine wpList_app rfl (.tmp 39) (.tmp 41) 22 rfl rfl rfl HR.out ?_)
        go_ret
        exact ⟨_, rfl, ⟨HK0.out.trans HN.out.1, ownsRow_lo HN.out.2 HK0.out.size⟩⟩
theorem with_any (v : Value) (l : List Mb) (m : Mb) (w : World) (h : Mbs w v l) (hs : l.Pairwise (fun a b => a.node < b.node)) (hm : ∀ x ∈ l, x.node ≠ m.node) (hl : l.length ≤ 1000) :
    Calls Tryz.prog 28 #[v, mbV m] w (OwnPost (moreM l m) w) := by
  rw [← insW_more hs hm]
  exact withG_any v l m w h hl
end Go.Proofs.YtiacdkggbnoigaaGreatDoor

/-
  The law's Members.
-/
namespace Go.Proofs.YtiacdkggbnoigaaGreatDoor
open Go.RowKit Go.Shelf

def mkM (x : Int) : Mb := ⟨pk x 24, pk (x.tdiv 24) 4, 1 + pk (x.tdiv 96) 4⟩
def memS (l : List Mb) (x : Int) : List Mb := if hasN l (mkM x).node then l else moreM l (mkM x)
def memW (xs : List Int) (k : Nat) : List Mb := (xs.take k).foldl memS []
def mem13 (xs : List Int) : List Mb := if memW xs (min xs.length 8) = [] then [⟨5, 0, 2⟩] else memW xs (min xs.length 8)
theorem memW_next {xs : List Int} {k : Nat} {x : Int} (h : xs[k]? = some x) : memW xs (k + 1) = memS (memW xs k) x := by
  unfold memW
  rw [List.take_add_one, h, List.foldl_append]
  rfl
theorem mkM_ok (x : Int) : okMb (mkM x) := by
  have h1 := pk_bd x 24 (by decide)
  have h2 := pk_bd (x.tdiv 24) 4 (by decide)
  have h3 := pk_bd (x.tdiv 96) 4 (by decide)
  unfold okMb mkM
  simp only []
  omega
/-- What a list of Members is. -/
structure MemW (l : List Mb) (k : Nat) : Prop where
  asc : l.Pairwise (fun a b => a.node < b.node)
  ok : ∀ m ∈ l, okMb m
  len : l.length ≤ k
theorem memW_ok (xs : List Int) : ∀ k, MemW (memW xs k) k
  | 0 => ⟨List.Pairwise.nil, fun _ h => by simp [memW] at h, by simp [memW]⟩
  | k + 1 => by
    have ih := memW_ok xs k
    cases hx : xs[k]? with
    | none =>
      have e : memW xs (k + 1) = memW xs k := by unfold memW; rw [List.take_add_one, hx]; simp
      rw [e]
      exact ⟨ih.asc, ih.ok, by have := ih.len; omega⟩
    | some x =>
      rw [memW_next hx]
      unfold memS
      by_cases hn : hasN (memW xs k) (mkM x).node = true
      · rw [if_pos hn]
        exact ⟨ih.asc, ih.ok, by have := ih.len; omega⟩
      · rw [if_neg hn]
        have hne := hasN_false (by simpa using hn)
        have hv : VL (moreM (memW xs k) (mkM x)) := by
          by_cases hnil : memW xs k = []
          · rw [hnil, show moreM [] (mkM x) = [mkM x] from rfl]
            exact ⟨fun m hm => by simp only [List.mem_singleton] at hm; rw [hm]; exact mkM_ok x, by simp, by simp⟩
          · exact moreM_ok ⟨ih.ok, ih.asc, hnil⟩ (mkM_ok x)
        exact ⟨hv.asc, hv.ok, by rw [moreM_len ih.asc hne]; have := ih.len; omega⟩
theorem mem13_vl (xs : List Int) : VL (mem13 xs) ∧ (mem13 xs).length ≤ 8 := by
  have h := memW_ok xs (min xs.length 8)
  unfold mem13
  by_cases hn : memW xs (min xs.length 8) = []
  · rw [if_pos hn]
    exact ⟨⟨fun m hm => by simp only [List.mem_singleton] at hm; rw [hm]; unfold okMb; simp, by simp, by simp⟩, by simp⟩
  · rw [if_neg hn]
    exact ⟨⟨h.ok, h.asc, hn⟩, by have := h.len; omega⟩
/-- What the free operations of Members' region answer. -/
def memF (x : Int) (B : Nat) (t : Nat) (v : Value) (W : World) : Prop :=
  (t = 22 → v = .int .i64 (mkM x).node) ∧ (t = 28 → v = .int .i64 (mkM x).region) ∧ (t = 34 → v = .int .i64 (pk (x.tdiv 96) 4)) ∧ (t = 35 → v = .int .i64 (mkM x).weight) ∧
  (t = 36 → v = mbV (mkM x)) ∧ (t = 5 → ∃ z, v = ptr z ∧ B ≤ z ∧ Box3 W z (.int .i64 0) (.int .i64 0) (.int .i64 0))
section
variable {x : Int} {B : Nat} {v : Value} {W : World}
theorem memF_22 (h : v = .int .i64 (mkM x).node) : memF x B 22 v W := ⟨fun _ => h, fun e => absurd e (by decide), fun e => absurd e (by decide), fun e => absurd e (by decide), fun e => absurd e (by decide), fun e => absurd e (by decide)⟩
theorem memF_28 (h : v = .int .i64 (mkM x).region) : memF x B 28 v W := ⟨fun e => absurd e (by decide), fun _ => h, fun e => absurd e (by decide), fun e => absurd e (by decide), fun e => absurd e (by decide), fun e => absurd e (by decide)⟩
theorem memF_34 (h : v = .int .i64 (pk (x.tdiv 96) 4)) : memF x B 34 v W := ⟨fun e => absurd e (by decide), fun e => absurd e (by decide), fun _ => h, fun e => absurd e (by decide), fun e => absurd e (by decide), fun e => absurd e (by decide)⟩
theorem memF_35 (h : v = .int .i64 (mkM x).weight) : memF x B 35 v W := ⟨fun e => absurd e (by decide), fun e => absurd e (by decide), fun e => absurd e (by decide), fun _ => h, fun e => absurd e (by decide), fun e => absurd e (by decide)⟩
theorem memF_36 (h : v = mbV (mkM x)) : memF x B 36 v W := ⟨fun e => absurd e (by decide), fun e => absurd e (by decide), fun e => absurd e (by decide), fun e => absurd e (by decide), fun _ => h, fun e => absurd e (by decide)⟩
theorem memF_5 (h : ∃ z, v = ptr z ∧ B ≤ z ∧ Box3 W z (.int .i64 0) (.int .i64 0) (.int .i64 0)) : memF x B 5 v W := ⟨fun e => absurd e (by decide), fun e => absurd e (by decide), fun e => absurd e (by decide), fun e => absurd e (by decide), fun e => absurd e (by decide), fun _ => h⟩
end
theorem memF_keep {x : Int} {B : Nat} (t : Nat) (v : Value) (w w' : World) (h : memF x B t v w) (k : Keep (fun _ => False) w w') : memF x B t v w' := by
  obtain ⟨h1, h2, h3, h4, h5, h6⟩ := h
  refine ⟨h1, h2, h3, h4, h5, fun e => ?_⟩
  obtain ⟨z, q1, q2, q3⟩ := h6 e
  exact ⟨z, q1, q2, q3.kept k⟩
def MemPost (l : List Mb) (w : World) (e : Ending) (w' : World) : Prop := ∃ v, e = .returned v ∧ Mbs w' v l ∧ Keep (fun _ => False) w w'
theorem okMb_i64 {m : Mb} (h : okMb m) : I64 m.node ∧ I64 m.region ∧ I64 m.weight := by
  unfold okMb at h
  unfold I64
  omega
theorem tdiv_bd13 {x : Int} (h : I64 x) {y : Int} (hy : 1 ≤ y) : I64 (x.tdiv y) := by
  unfold I64 at *
  by_cases h0 : 0 ≤ x
  · rw [Int.tdiv_eq_ediv_of_nonneg h0]
    have h1 : 0 ≤ x / y := Int.ediv_nonneg h0 (by omega)
    have h2 := Int.ediv_le_self y h0
    omega
  · have e : x.tdiv y = -((-x) / y) := by
      rw [← Int.tdiv_eq_ediv_of_nonneg (by omega : 0 ≤ -x), Int.neg_tdiv, Int.neg_neg]
    rw [e]
    have h1 : 0 ≤ (-x) / y := Int.ediv_nonneg (by omega) (by omega)
    have h2 := Int.ediv_le_self y (by omega : 0 ≤ -x)
    omega
set_option maxRecDepth 100000 in
set_option maxHeartbeats 8000000 in
theorem members13_any (v : Value) (xs : List Int) (w : World) (h : Its w v xs) : Calls Tryz.prog 7 #[v] w (MemPost (mem13 xs) w) := by
  obtain ⟨hn, hbd, a, c, b, off, rfl, hc, ha, hcell⟩ := h
  obtain ⟨ln, hln⟩ : ∃ n, xs.length = n := ⟨_, rfl⟩
  rw [hln] at hn hc ha ⊢
  have HC := Lib.hid hcell
  have HA := Lib.hid ha
  have HBD := Lib.hid hbd
  have HLN := Lib.hid hln
  clear hcell ha hbd hln
  obtain ⟨n8, hn8⟩ : ∃ n, min ln 8 = n := ⟨_, rfl⟩
  go_enter Tryz.func7, Tryz.ntmps7
  go_upto_region 3 with (fail)
  have HW0 : Hid (OwnB w (memW xs 0) (.slice none 0 0) w) := Lib.hid (OwnB.nil (Keep.refl _ w))
  go_loopg [3, 4] n8 (fun gh v3 v4 wr => ∃ k : Nat, gh + k = n8 ∧ v4 = .int .i64 k ∧ OwnB w (memW xs k) v3 wr)
  case atStart => exact ⟨0, by omega, rfl, HW0.out⟩
  case round =>
    obtain ⟨k, hk, rfl, hown⟩ := hrel
    have HOW := Lib.hid hown
    have HKK := Lib.hid hown.1
    clear hown
    by_cases hlt : k < n8
    · obtain ⟨x, hx⟩ : ∃ x, xs[k]? = some x := ⟨_, List.getElem?_eq_getElem (by have := HLN.out; omega)⟩
      obtain rfl := HA.out (by omega)
      have hxb := HBD.out x (List.mem_of_getElem? hx)
      have HXX := Lib.hid hx
      have HXB := Lib.hid hxb
      have hkz : (k : Int) < (ln : Int) := by omega
      have hk8 : (k : Int) < 8 := by omega
      have hk0 : (0 : Int) ≤ (k : Int) := by omega
      have h24 : I64 (x.tdiv 24) := tdiv_bd13 hxb (by decide)
      have h96 : I64 (x.tdiv 96) := tdiv_bd13 hxb (by decide)
      have hw24 : IntKind.i64.wrap (x.tdiv 24) = x.tdiv 24 := wrapI h24
      have hw96 : IntKind.i64.wrap (x.tdiv 96) = x.tdiv 96 := wrapI h96
      have hp96 := pk_bd (x.tdiv 96) 4 (by decide)
      have hw1 : IntKind.i64.wrap (1 + pk (x.tdiv 96) 4) = 1 + pk (x.tdiv 96) 4 := wrapI (by unfold I64; omega)
      have HW1 := Lib.hid hw1
      have H24 := Lib.hid h24
      have H96 := Lib.hid h96
      clear hx hxb h24 h96 hp96 hw1
      go_upto_region 5 with (fail)
      have c0 : ∀ p : KA (fun _ => False) wr, p.val.cell? ⟨b, off + k, none⟩ = some (.int .i64 x) := fun p => (HKK.out.trans p.k).cell (HC.out k x HXX.out) (fun h => h)
      refine wp_region_free [0, 1, 2, 3, 5, 6, 7, 8, 9, 11, 12, 13, 14, 15] [⟨4, 22, []⟩, ⟨10, 28, []⟩, ⟨16, 34, []⟩, ⟨17, 35, [34]⟩, ⟨18, 36, [22, 28, 35]⟩, ⟨19, 5, []⟩] [(false, 20)] (inKA (fun _ => False) wr) (memF x wr.heap.size) (Keep (fun _ => False)) (by kernel_rfl) (by kernel_rfl) (inKA.of (Keep.refl _ wr).drew) memF_keep (fun w w' hw hk => by obtain ⟨p, rfl⟩ := hw; exact inKA.of (p.k.trans hk)) ?_
      iterate 14 (refine headW_step rfl (fun K hK => ?_); go_simp; refine hK _ ?_; clear hK K)
      clear c0
      refine ⟨?_, ?_, ?_⟩
      · intro h hh
        simp only [List.mem_cons, List.not_mem_nil, or_false] at hh
        rcases hh with rfl | rfl | rfl | rfl | rfl | rfl <;> simp
      · clear hw24 hw96
        refine freeW_step rfl (fun vs W hC hS K hK => ?_) (freeW_step rfl (fun vs W hC hS K hK => ?_) (freeW_step rfl (fun vs W hC hS K hK => ?_) (freeW_step rfl (fun vs W hC hS K hK => ?_) (freeW_step rfl (fun vs W hC hS K hK => ?_) (freeW_step rfl (fun vs W hC hS K hK => ?_) trivial)))))
        · simp only [putL, List.foldl]
          have HP := Lib.hid (pick13_any x 24 W HXB.out (by decide))
          go_simp
          refine HP.out.mono ?_
          rintro e W2 ⟨rfl, rfl⟩
          exact hK _ _ (memF_22 rfl) (Keep.refl _ W)
        · simp only [putL, List.foldl]
          have HP := Lib.hid (pick13_any (x.tdiv 24) 4 W H24.out (by decide))
          go_simp
          refine HP.out.mono ?_
          rintro e W2 ⟨rfl, rfl⟩
          exact hK _ _ (memF_28 rfl) (Keep.refl _ W)
        · simp only [putL, List.foldl]
          have HP := Lib.hid (pick13_any (x.tdiv 96) 4 W H96.out (by decide))
          go_simp
          refine HP.out.mono ?_
          rintro e W2 ⟨rfl, rfl⟩
          exact hK _ _ (memF_34 rfl) (Keep.refl _ W)
        · have e1 := (hS 34 (by simp)).2.2.1 rfl
          simp only [putL, List.foldl]
          generalize vs 34 = v34 at *
          subst e1
          have hw1 := HW1.out
          go_simp
          exact hK _ _ (memF_35 rfl) (Keep.refl _ W)
        · have e1 := (hS 22 (by simp)).1 rfl
          have e2 := (hS 28 (by simp)).2.1 rfl
          have e3 := (hS 35 (by simp)).2.2.2.1 rfl
          simp only [putL, List.foldl]
          generalize vs 22 = v22 at *
          generalize vs 28 = v28 at *
          generalize vs 35 = v35 at *
          subst e1 e2 e3
          go_simp
          exact hK _ _ (memF_36 rfl) (Keep.refl _ W)
        · obtain ⟨p, rfl⟩ := hC
          simp only [putL, List.foldl]
          have hsz := p.k.size
          go_simp
          exact hK _ _ (memF_5 ⟨p.val.heap.size, rfl, hsz, Box3.new _ _ _ _ _⟩) ((Keep.refl _ p.val).alloc _)
      · intro vs W hC hS
        obtain ⟨p, rfl⟩ := hC
        have e1 := (hS ⟨4, 22, []⟩ (by simp)).1 rfl
        have e2 := (hS ⟨10, 28, []⟩ (by simp)).2.1 rfl
        have e3 := (hS ⟨16, 34, []⟩ (by simp)).2.2.1 rfl
        have e4 := (hS ⟨17, 35, [34]⟩ (by simp)).2.2.2.1 rfl
        have e5 := (hS ⟨18, 36, [22, 28, 35]⟩ (by simp)).2.2.2.2.1 rfl
        obtain ⟨z9, e6, hz9, hb9⟩ := (hS ⟨19, 5, []⟩ (by simp)).2.2.2.2.2 rfl
        simp only [] at e1 e2 e3 e4 e5 e6
        simp only [List.map, putL, List.foldl]
        generalize vs 22 = v22 at *
        generalize vs 28 = v28 at *
        generalize vs 34 = v34 at *
        generalize vs 35 = v35 at *
        generalize vs 36 = v36 at *
        generalize vs 5 = v5 at *
        subst e1 e2 e3 e4 e5 e6
        clear hS hw24 hw96
        have HKP := Lib.hid p.k
        have HBP := Lib.hid hb9
        have HZ9 := Lib.hid hz9
        have HMK := Lib.hid (mkM_ok x)
        have HNX := Lib.hid (memW_next HXX.out)
        have HMW := Lib.hid (memW_ok xs k)
        unfold memS at HNX
        have HSZ : Hid (w.heap.size ≤ wr.heap.size) := Lib.hid HKK.out.size
        clear hz9 hb9
        generalize p.val = V at *
        generalize hm : mkM x = m at *
        generalize pk (x.tdiv 96) 4 = p96 at *
        clear hm
        obtain ⟨m0, m1, m2⟩ := m
        obtain ⟨y0, y1, y2, yf⟩ := HBP.out
        refine walkW_do rfl (inKA.of HKP.out) (fun K hK => ?_)
        go_simp
        refine hK _ _ ?_; clear hK K
        clear y0 y1 y2 yf
        have kq : Keep (fun j => j = z9) V (((V.setCell ⟨z9, 0, none⟩ (.int .i64 m0)).setCell ⟨z9, 1, none⟩ (.int .i64 m1)).setCell ⟨z9, 2, none⟩ (.int .i64 m2)) := (((Keep.refl (fun j => j = z9) V).setCell (p := ⟨z9, 0, none⟩) _ (.inl rfl)).setCell (p := ⟨z9, 1, none⟩) _ (.inl rfl)).setCell (p := ⟨z9, 2, none⟩) _ (.inl rfl)
        have HBQ := Lib.hid (((HBP.out.set0 (.int .i64 m0)).set1 (.int .i64 m1)).set2 (.int .i64 m2))
        have HKQ : Hid (Keep (fun _ => False) wr (((V.setCell ⟨z9, 0, none⟩ (.int .i64 m0)).setCell ⟨z9, 1, none⟩ (.int .i64 m1)).setCell ⟨z9, 2, none⟩ (.int .i64 m2))) := Lib.hid (HKP.out.trans' kq (fun j e => .inr (by have h5 : j = z9 := e; have := HZ9.out; omega)))
        clear kq HBP HKP
        generalize ((V.setCell ⟨z9, 0, none⟩ (.int .i64 m0)).setCell ⟨z9, 1, none⟩ (.int .i64 m1)).setCell ⟨z9, 2, none⟩ (.int .i64 m2) = V5 at *
        refine ⟨inKA.of HKQ.out, ?_⟩
        have HOV := Lib.hid (HOW.out.keep HKQ.out)
        clear HOW HKQ HKK
        generalize hl : memW xs k = l at *
        have HLK := Lib.hid hl
        clear hl
        obtain ⟨ua, uc, rfl⟩ := own_form HOV.out.2
        have HMB : Hid (Mbs V5 (.slice ua l.length uc) l) := Lib.hid (mbs_owns HOV.out.2 (by have := HMW.out.len; omega) (fun y hy => okMb_i64 (HMW.out.ok y hy)))
        obtain ⟨hln', hbd', a', c', b', off', hv, hc', ha', hcell'⟩ := HMB.out
        obtain ⟨h1, -, h3⟩ := Value.slice.inj hv
        subst h1 h3
        have HCL := Lib.hid hcell'
        have HAL := Lib.hid ha'
        have hl8 : l.length ≤ 8 := by have := HMW.out.len; omega
        obtain ⟨lq, hlq⟩ : ∃ n, l.length = n := ⟨_, rfl⟩
        have HLQ := Lib.hid hlq
        rw [hlq] at hl8 hc' HAL ⊢
        clear hln' hbd' hv ha' hcell' hlq
        go_upto_region 8 with (fail)
        go_loopg [6, 7] lq (fun gq v6 v7 wq => ∃ j : Nat, gq + j = lq ∧ v6 = .bool (hasN (l.take j) m0) ∧ v7 = .int .i64 j ∧ Keep (fun _ => False) V5 wq)
        case atStart => exact ⟨0, by omega, rfl, rfl, Keep.refl _ _⟩
        case round =>
          obtain ⟨j, hj, rfl, rfl, hkeep⟩ := hrel
          have HKJ := Lib.hid hkeep
          clear hkeep
          by_cases hjl : j < lq
          · obtain ⟨y, hy⟩ : ∃ y, l[j]? = some y := ⟨_, List.getElem?_eq_getElem (by have := HLQ.out; omega)⟩
            obtain rfl := HAL.out (by omega)
            have c0 := HKJ.out.cell (HCL.out j y hy).1 (fun h => h)
            obtain ⟨b0, -, -, -⟩ := HBQ.out.kept HKJ.out
            have HNJ : Hid (hasN (l.take (j + 1)) m0 = (hasN (l.take j) m0 || decide (y.node = m0))) := Lib.hid (by
              unfold hasN
              rw [List.take_add_one, hy]
              simp)
            have hjz : (j : Int) < (lq : Int) := by omega
            have hj0 : (0 : Int) ≤ (j : Int) := by omega
            clear hy
            obtain ⟨n0, n1, n2⟩ := y
            simp only [] at c0 HNJ
            generalize hasN (l.take j) m0 = d at *
            cases d with
            | true =>
              go_wp2_with fail
              go_quiet (fail)
              clear c0 b0
              have HKN := Lib.hid (HKJ.out.trans ((Keep.refl (fun _ => False) wr).drewN nq))
              clear HKJ
              generalize wr.drewN nq = Y0 at *
              go_wp2_with fail
              go_roundg (lq - (j + 1))
              case rel => exact ⟨j + 1, by omega, by rw [HNJ.out]; rfl, by go_num, HKN.out⟩
              case measure => omega
            | false =>
              by_cases hnm : n0 = m0
              · go_wp2_with fail
                go_quiet (fail)
                clear c0 b0
                have HKN := Lib.hid (HKJ.out.trans ((Keep.refl (fun _ => False) wr).drewN nq))
                clear HKJ
                generalize wr.drewN nq = Y0 at *
                go_wp2_with fail
                go_roundg (lq - (j + 1))
                case rel => exact ⟨j + 1, by omega, by rw [HNJ.out]; simp [hnm], by go_num, HKN.out⟩
                case measure => omega
              · go_wp2_with fail
                go_quiet (fail)
                clear c0 b0
                have HKN := Lib.hid (HKJ.out.trans ((Keep.refl (fun _ => False) wr).drewN nq))
                clear HKJ
                generalize wr.drewN nq = Y0 at *
                go_wp2_with fail
                go_roundg (lq - (j + 1))
                case rel => exact ⟨j + 1, by omega, by rw [HNJ.out]; simp [hnm], by go_num, HKN.out⟩
                case measure => omega
          · obtain rfl : j = lq := by omega
            have HTL : Hid (l.take j = l) := Lib.hid (List.take_of_length_le (by have := HLQ.out; omega))
            have hjz : ¬ ((j : Int) < (j : Int)) := by omega
            have HOJ := Lib.hid (HOV.out.keep HKJ.out)
            have HBJ := Lib.hid (HBQ.out.kept HKJ.out)
            rw [HTL.out]
            obtain ⟨d, hd⟩ : ∃ d, hasN l m0 = d := ⟨_, rfl⟩
            have HD := Lib.hid hd
            rw [hd]
            clear hd
            cases d with
            | true =>
              have HN : Hid (OwnB w (memW xs (k + 1)) (.slice ua j uc) wr) := Lib.hid (by
                have h1 := HNX.out
                rw [if_pos HD.out] at h1
                rw [h1]
                have h2 := HOJ.out
                rwa [HLQ.out] at h2)
              go_wp2_with fail
              go_roundg (n8 - (k + 1))
              case rel => exact ⟨k + 1, by omega, by go_num, HN.out⟩
              case measure => omega
            | false =>
              obtain ⟨b0, b1, b2, -⟩ := HBJ.out
              have HWI := Lib.hid (with_any (.slice ua j uc) l ⟨m0, m1, m2⟩ wr (by have h2 := HMB.out.kept HKJ.out; rwa [HLQ.out] at h2) HMW.out.asc (hasN_false HD.out) (by have := HLQ.out; omega))
              go_wp2_with fail
              clear b0 b1 b2
              with_reducible refine HWI.out.mono ?_
              rintro e W9 ⟨v9, rfl, k9, own9⟩
              have HN : Hid (OwnB w (memW xs (k + 1)) v9 W9) := Lib.hid (by
                have h1 := HNX.out
                rw [if_neg (by rw [HD.out]; simp)] at h1
                rw [h1]
                exact ⟨HOJ.out.1.trans k9, ownsRow_lo own9 HOJ.out.1.size⟩)
              clear k9 own9
              go_wp2_with fail
              go_roundg (n8 - (k + 1))
              case rel => exact ⟨k + 1, by omega, by go_num, HN.out⟩
              case measure => omega
    · obtain rfl : k = n8 := by omega
      obtain ⟨lq, hlq⟩ : ∃ n, (memW xs k).length = n := ⟨_, rfl⟩
      have HMW := Lib.hid (memW_ok xs k)
      obtain ⟨ua, uc, rfl⟩ := own_form HOW.out.2
      have HMB : Hid (Mbs wr (.slice ua (memW xs k).length uc) (memW xs k)) := Lib.hid (mbs_owns HOW.out.2 (by have := HMW.out.len; omega) (fun y hy => okMb_i64 (HMW.out.ok y hy)))
      have HM13 : Hid (mem13 xs = if memW xs k = [] then [⟨5, 0, 2⟩] else memW xs k) := Lib.hid (by unfold mem13; rw [HLN.out, hn8])
      have HLQ := Lib.hid hlq
      have HNL := Lib.hid (mbs_one wr 5 0 2 (by unfold I64; decide))
      have HKL : Hid (Keep (fun _ => False) wr (wr.alloc (.cells #[.int .i64 5, .int .i64 0, .int .i64 2] 44))) := Lib.hid ((Keep.refl _ wr).alloc _)
      have hc8 : ¬ ((k : Int) < (ln : Int) ∧ (k : Int) < 8) := by omega
      rw [hlq] at HMB ⊢
      clear hlq
      by_cases hk8 : (k : Int) < (ln : Int)
      · have hk9 : ¬ ((k : Int) < 8) := by omega
        by_cases hz : lq = 0
        · subst hz
          go_wp2_with fail
          go_ret
          refine ⟨_, rfl, ?_, HKK.out.trans HKL.out⟩
          rw [HM13.out, if_pos (List.eq_nil_of_length_eq_zero HLQ.out)]
          exact HNL.out
        · go_wp2_with fail
          go_ret
          refine ⟨_, rfl, ?_, HKK.out⟩
          rw [HM13.out, if_neg (fun e => hz (by rw [← HLQ.out, e]; rfl))]
          exact HMB.out
      · by_cases hz : lq = 0
        · subst hz
          go_wp2_with fail
          go_ret
          refine ⟨_, rfl, ?_, HKK.out.trans HKL.out⟩
          rw [HM13.out, if_pos (List.eq_nil_of_length_eq_zero HLQ.out)]
          exact HNL.out
        · go_wp2_with fail
          go_ret
          refine ⟨_, rfl, ?_, HKK.out⟩
          rw [HM13.out, if_neg (fun e => hz (by rw [← HLQ.out, e]; rfl))]
          exact HMB.out
end Go.Proofs.YtiacdkggbnoigaaGreatDoor

/-
  The plain law of Reshard: rings that are valid, the concrete rings of sane.
-/
namespace Go.Proofs.YtiacdkggbnoigaaGreatDoor

section
variable (P : Int → Nat → Int) (Q : Nat → Int)
theorem ok_new {l : List Mb} (h : VL l) {ep : Int} (he : 1 ≤ ep ∧ ep ≤ 1000000) : okRing ep l (ownersL P Q l) :=
  ⟨he.1, he.2, h, (owners_ok P Q h).1, (owners_ok P Q h).2.1⟩
theorem ok_neg {ep : Int} {l : List Mb} {ow : List Int} (h : okRing ep l ow) : ∀ n ∈ ow, n ≠ -1 := fun n hn => by
  have := okRing_nodes h n hn
  omega
theorem ok_change {ep : Int} {l l' : List Mb} {ow : List Int} (h : okRing ep l ow) (hv : VL l') (he : ep < 1000000) : okRing (ep + 1) l' (changeL P Q l' ow) :=
  ⟨by have := h.1; omega, by omega, hv, change_len P Q hv h.2.2.2.1, (change_ok P Q hv h.2.2.2.1 (ok_neg h)).1⟩
theorem ok_self {ep : Int} {l : List Mb} {ow : List Int} (h : okRing ep l ow) : changeL P Q l ow = ow :=
  change_same P Q h.2.2.2.1 h.2.2.2.2 (ok_neg h)
end
/-- Slots counted: everything lies with the nodes named. -/
theorem cnt_sum {ns : List Int} (hn : ns.Nodup) : ∀ (ow : List Int), (∀ x ∈ ow, x ∈ ns) → sumF (cnt ow) ns = ow.length
  | [], _ => by
    have : ∀ ns : List Int, sumF (cnt []) ns = 0 := fun ns => by
      induction ns with
      | nil => rfl
      | cons a ns ih => simp only [sumF, ih]; simp [cnt]
    rw [this]; rfl
  | x :: ow, h => by
    have ih := cnt_sum hn ow (fun y hy => h y (List.mem_cons_of_mem _ hy))
    have key : ∀ ns : List Int, ns.Nodup → sumF (cnt (x :: ow)) ns = sumF (cnt ow) ns + if x ∈ ns then 1 else 0 := fun ns => by
      induction ns with
      | nil => intro _; simp [sumF]
      | cons a ns ih2 =>
        intro hn'
        simp only [List.nodup_cons] at hn'
        simp only [sumF, ih2 hn'.2, cnt_cons']
        by_cases e : a = x
        · subst e
          rw [if_pos rfl, if_neg hn'.1, if_pos List.mem_cons_self]
          omega
        · rw [if_neg e]
          by_cases e2 : x ∈ ns
          · rw [if_pos e2, if_pos (List.mem_cons_of_mem _ e2)]; omega
          · rw [if_neg e2, if_neg (by simp only [List.mem_cons, e2, or_false]; exact fun h => e h.symm)]; omega
    rw [key ns hn, ih, if_pos (h x List.mem_cons_self), List.length_cons]
    omega

/-- The rings of sane. -/
def sl1 : List Mb := [⟨0, 0, 1⟩, ⟨1, 0, 1⟩]
def sl3 : List Mb := [⟨0, 0, 1⟩]
def sl6 : List Mb := [⟨0, 0, 1⟩, ⟨1, 0, 1⟩, ⟨2, 0, 2⟩]
def sl7 : List Mb := [⟨1, 0, 1⟩, ⟨7, 0, 1⟩]
theorem sl1_vl : VL sl1 := (validL_iff _).1 (by decide)
theorem sl3_vl : VL sl3 := (validL_iff _).1 (by decide)
theorem sl6_vl : VL sl6 := (validL_iff _).1 (by decide)
theorem sl7_vl : VL sl7 := (validL_iff _).1 (by decide)
theorem sl6_lim : limitL sl6 0 = 20 ∧ limitL sl6 1 = 20 := by constructor <;> decide
theorem sane_leave {ow : List Int} (h : okRing 2 sl3 ow) (hm : ∀ n ∈ ow, n ∈ sl3.map Mb.node) : cnt ow 0 = 64 := by
  have := cnt_sum (ns := [0]) (by simp) ow (fun x hx => by have := hm x hx; simpa [sl3] using this)
  rw [h.2.2.2.1] at this
  simp only [sumF] at this
  omega
theorem sane_join {ow : List Int} (h : okRing 2 sl6 ow) (hm : ∀ n ∈ ow, n ∈ sl6.map Mb.node) : cnt ow 0 ≤ 20 ∧ 24 ≤ cnt ow 2 := by
  have h1 := h.2.2.2.2 0
  have h2 := h.2.2.2.2 1
  rw [sl6_lim.1] at h1
  rw [sl6_lim.2] at h2
  have := cnt_sum (ns := [0, 1, 2]) (by decide) ow (fun x hx => by have := hm x hx; simpa [sl6] using this)
  rw [h.2.2.2.1] at this
  simp only [sumF] at this
  omega
end Go.Proofs.YtiacdkggbnoigaaGreatDoor

/-
  Moves where a ring has no 64 owners; moves that came out of Moves; moves of one node's slots.
-/
namespace Go.Proofs.YtiacdkggbnoigaaGreatDoor
open Go.RowKit Go.Shelf

theorem moves_rep {n s : Int} (hne : n ≠ s) (ow : List Int) : ∀ k, k ≤ ow.length → ((movesK ow (ow.map (repF n s)) k).length : Int) = cnt (ow.take k) n
  | 0, _ => by simp [movesK, cnt]
  | k + 1, hk => by
    have ih := moves_rep hne ow k (by omega)
    obtain ⟨x, hx⟩ : ∃ x, ow[k]? = some x := ⟨_, List.getElem?_eq_getElem (by omega)⟩
    have hy : (ow.map (repF n s))[k]? = some (repF n s x) := by rw [List.getElem?_map, hx]; rfl
    rw [cnt_take_succ hx]
    by_cases e : x = n
    · subst e
      rw [movesK_next hx hy (by unfold repF; rw [if_pos rfl]; exact fun h => hne h.symm), List.length_append, List.length_singleton]
      simp only [if_true]
      omega
    · rw [movesK_stay hx hy (by unfold repF; rw [if_neg e]), if_neg (fun h => e h.symm)]
      omega
theorem moves_rep64 {n s : Int} (hne : n ≠ s) {ow : List Int} (h : ow.length = 64) : ((movesK ow (ow.map (repF n s)) 64).length : Int) = cnt ow n := by
  have := moves_rep hne ow 64 (by omega)
  rwa [List.take_of_length_le (by omega)] at this
theorem moves_slot {a b : List Int} : ∀ m ∈ movesK a b 64, 0 ≤ m.slot ∧ m.slot < 64 := fun m hm => by
  obtain ⟨s, hs, -, rfl⟩ := mem_movesK.1 hm
  simp only []
  omega
theorem movesK_bd {a b : List Int} (ha : ∀ x ∈ a, 0 ≤ x ∧ x < 24) (hb : ∀ x ∈ b, 0 ≤ x ∧ x < 24) : ∀ m ∈ movesK a b 64, I64 m.slot ∧ I64 m.frm ∧ I64 m.to_ := fun m hm => by
  obtain ⟨s, hs, -, rfl⟩ := mem_movesK.1 hm
  have key : ∀ l : List Int, (∀ x ∈ l, 0 ≤ x ∧ x < 24) → 0 ≤ l.getD s 0 ∧ l.getD s 0 < 24 := fun l hl => by
    rw [List.getD_eq_getElem?_getD]
    cases h : l[s]? with
    | none => simp
    | some x => exact hl x (List.mem_of_getElem? h)
  have h1 := key a ha
  have h2 := key b hb
  simp only []
  unfold I64
  omega
theorem mvs_owns {W : World} {lo : Nat} {v : Value} {l : List Mv} (h : W.ownsRow lo 77 3 v l.length (flatV l)) (hl : l.length ≤ 1000000) (hb : ∀ m ∈ l, I64 m.slot ∧ I64 m.frm ∧ I64 m.to_) : Mvs W v l := by
  have hb' : ∀ m ∈ l.map mvMb, I64 m.node ∧ I64 m.region ∧ I64 m.weight := fun m hm => by
    obtain ⟨x, hx, rfl⟩ := List.mem_map.1 hm
    exact hb x hx
  unfold Mvs
  unfold flatV at h
  have hll : (l.map mvMb).length = l.length := List.length_map _
  rw [← hll] at h hl
  generalize l.map mvMb = l at *
  rcases h.2 with ⟨rfl, hx⟩ | ⟨g, cap, cur, rfl, _, _, hc, r⟩
  · have : l = [] := List.eq_nil_of_length_eq_zero hx
    subst this
    exact ⟨by simp, by simp, none, 0, 0, 0, rfl, by simp, fun h => by simp at h, fun j x hj => by simp at hj⟩
  · refine ⟨by omega, hb', some ⟨g, 0, none⟩, cap, g, 0, rfl, hc, fun _ => rfl, fun j x hj => ?_⟩
    have key : ∀ r, r < 3 → ∀ u, (encMb x)[r]? = some u → W.cell? ⟨g, 0 + (j * 3 + r), none⟩ = some u := fun r hr u hu => by
      have h1 := flatB_get l j x r hj hr
      rw [hu] at h1
      have h3 := h.cells (g := g) rfl _ _ h1
      rwa [Addr.add_lit] at h3
    exact ⟨key 0 (by decide) _ rfl, by have := key 1 (by decide) _ rfl; rwa [← Nat.add_assoc] at this, by have := key 2 (by decide) _ rfl; rwa [← Nat.add_assoc] at this⟩
set_option maxRecDepth 100000 in
set_option maxHeartbeats 8000000 in
theorem moves_none (va vb : Value) (ea eb : Int) (la lb : List Mb) (oa ob : List Int) (w : World) (ha : Rng w va ea la oa) (hb : Rng w vb eb lb ob) (hla : oa.length = 64) (hlb : ob.length ≠ 64) :
    Calls Tryz.prog 19 #[va, vb] w (MvPost [] w) := by
  obtain ⟨-, am, ao, rfl, hma, hia⟩ := ha
  obtain ⟨-, bm, bo, rfl, hmb, hib⟩ := hb
  obtain ⟨ma, mn, mc, rfl⟩ : ∃ a n c, am = .slice a n c := by obtain ⟨a, c, b, off, h, _⟩ := hma.at_; exact ⟨_, _, _, h⟩
  obtain ⟨na, nn, nc, rfl⟩ : ∃ a n c, bm = .slice a n c := by obtain ⟨a, c, b, off, h, _⟩ := hmb.at_; exact ⟨_, _, _, h⟩
  obtain ⟨-, -, aa, ac, ab, af, rfl, hac, haa, hacell⟩ := hia
  obtain ⟨-, -, ba, bc, bb, bf, rfl, hbc, hba, hbcell⟩ := hib
  obtain rfl := haa (by omega)
  obtain ⟨bl, hbl⟩ : ∃ n, ob.length = n := ⟨_, rfl⟩
  have HLA := Lib.hid hla
  rw [hla] at hac ⊢
  rw [hbl] at hbc hlb ⊢
  clear haa hba hacell hbcell hla hma hmb
  have HX := Lib.hid (Box3.new w (.int .i64 ea) (.slice ma mn mc) (.slice (some ⟨ab, af, none⟩) 64 ac) 25)
  have HY := Lib.hid (Box3.new (w.alloc (.cells #[.int .i64 ea, .slice ma mn mc, .slice (some ⟨ab, af, none⟩) 64 ac] 25)) (.int .i64 eb) (.slice na nn nc) (.slice ba bl bc) 25)
  have HKA : Hid (Keep (fun _ => False) w (w.alloc (.cells #[.int .i64 ea, .slice ma mn mc, .slice (some ⟨ab, af, none⟩) 64 ac] 25))) := Lib.hid ((Keep.refl _ w).alloc _)
  have HKB : Hid (Keep (fun _ => False) (w.alloc (.cells #[.int .i64 ea, .slice ma mn mc, .slice (some ⟨ab, af, none⟩) 64 ac] 25)) ((w.alloc (.cells #[.int .i64 ea, .slice ma mn mc, .slice (some ⟨ab, af, none⟩) 64 ac] 25)).alloc (.cells #[.int .i64 eb, .slice na nn nc, .slice ba bl bc] 25))) := Lib.hid ((Keep.refl _ _).alloc _)
  have HX0 := Lib.hid (HX.out.kept HKB.out)
  rw [World.size_alloc] at HY
  have HK0 := Lib.hid (HKA.out.trans HKB.out)
  clear HX HKA HKB
  go_enter Tryz.func19, Tryz.ntmps19
  go_wp2_with fail
  generalize ((w.alloc (.cells #[.int .i64 ea, .slice ma mn mc, .slice (some ⟨ab, af, none⟩) 64 ac] 25)).alloc (.cells #[.int .i64 eb, .slice na nn nc, .slice ba bl bc] 25)) = W0 at *
  generalize hz : w.heap.size = z at HX0 HY ⊢
  have HZ := Lib.hid hz
  clear hz
  obtain ⟨x0, x1, x2, -⟩ := HX0.out
  obtain ⟨y0, y1, y2, -⟩ := HY.out
  have hbz : ¬ (bl : Int) = 64 := by omega
  have hbe : ((bl : Int) == 64) = false := by simpa using hbz
  go_wp2_with fail
  go_ret
  exact ⟨none, 0, rfl, by simpa [flatV, flatB] using World.ownsRow_nil W0 w.heap.size 77 3, HK0.out⟩
end Go.Proofs.YtiacdkggbnoigaaGreatDoor

/-
  Moves of rings of any kind: both sides.
-/
namespace Go.Proofs.YtiacdkggbnoigaaGreatDoor
open Go.RowKit Go.Shelf

def movesV (oa ob : List Int) : List Mv := if oa.length = 64 ∧ ob.length = 64 then movesK oa ob 64 else []
set_option maxRecDepth 100000 in
set_option maxHeartbeats 8000000 in
theorem movesR_none (va vb : Value) (ea eb : Int) (la lb : List Mb) (oa ob : List Int) (w : World) (ha : Rng w va ea la oa) (hb : Rng w vb eb lb ob) (hn : ¬ (oa.length = 64 ∧ ob.length = 64)) :
    Calls Tryz.prog 19 #[va, vb] w (MvPost [] w) := by
  obtain ⟨-, am, ao, rfl, hma, hia⟩ := ha
  obtain ⟨-, bm, bo, rfl, hmb, hib⟩ := hb
  obtain ⟨ma, mn, mc, rfl⟩ : ∃ a n c, am = .slice a n c := by obtain ⟨a, c, b, off, h, _⟩ := hma.at_; exact ⟨_, _, _, h⟩
  obtain ⟨na, nn, nc, rfl⟩ : ∃ a n c, bm = .slice a n c := by obtain ⟨a, c, b, off, h, _⟩ := hmb.at_; exact ⟨_, _, _, h⟩
  obtain ⟨-, -, aa, ac, ab, af, rfl, -, -, -⟩ := hia
  obtain ⟨-, -, ba, bc, bb, bf, rfl, -, -, -⟩ := hib
  obtain ⟨al, hal⟩ : ∃ n, oa.length = n := ⟨_, rfl⟩
  obtain ⟨bl, hbl⟩ : ∃ n, ob.length = n := ⟨_, rfl⟩
  rw [hal, hbl] at hn ⊢
  clear hal hbl hma hmb
  have HX := Lib.hid (Box3.new w (.int .i64 ea) (.slice ma mn mc) (.slice aa al ac) 25)
  have HY := Lib.hid (Box3.new (w.alloc (.cells #[.int .i64 ea, .slice ma mn mc, .slice aa al ac] 25)) (.int .i64 eb) (.slice na nn nc) (.slice ba bl bc) 25)
  have HKA : Hid (Keep (fun _ => False) w (w.alloc (.cells #[.int .i64 ea, .slice ma mn mc, .slice aa al ac] 25))) := Lib.hid ((Keep.refl _ w).alloc _)
  have HKB : Hid (Keep (fun _ => False) (w.alloc (.cells #[.int .i64 ea, .slice ma mn mc, .slice aa al ac] 25)) ((w.alloc (.cells #[.int .i64 ea, .slice ma mn mc, .slice aa al ac] 25)).alloc (.cells #[.int .i64 eb, .slice na nn nc, .slice ba bl bc] 25))) := Lib.hid ((Keep.refl _ _).alloc _)
  have HX0 := Lib.hid (HX.out.kept HKB.out)
  rw [World.size_alloc] at HY
  have HK0 := Lib.hid (HKA.out.trans HKB.out)
  clear HX HKA HKB
  go_enter Tryz.func19, Tryz.ntmps19
  go_upto_region 1 with (fail)
  generalize ((w.alloc (.cells #[.int .i64 ea, .slice ma mn mc, .slice aa al ac] 25)).alloc (.cells #[.int .i64 eb, .slice na nn nc, .slice ba bl bc] 25)) = W0 at *
  generalize hz : w.heap.size = z at HX0 HY ⊢
  have HZ := Lib.hid hz
  clear hz
  obtain ⟨x0, x1, x2, -⟩ := HX0.out
  obtain ⟨y0, y1, y2, -⟩ := HY.out
  have HEND : Hid (MvPost [] w (.returned (.slice none 0 0)) W0) := Lib.hid ⟨none, 0, rfl, by simpa [flatV, flatB] using World.ownsRow_nil W0 w.heap.size 77 3, HK0.out⟩
  by_cases hla : al = 64
  · have hbz : ¬ (bl : Int) = 64 := by omega
    have hbe : ((bl : Int) == 64) = false := by simpa using hbz
    subst hla
    clear hn
    go_wp2_with fail
    go_ret
    exact HEND.out
  · have haz : ¬ (al : Int) = 64 := by omega
    have hae : ((al : Int) == 64) = false := by simpa using haz
    clear hn hla
    go_wp2_with fail
    go_ret
    exact HEND.out
set_option maxRecDepth 100000 in
set_option maxHeartbeats 8000000 in
theorem refMoves_none (va vb : Value) (ea eb : Int) (la lb : List Mb) (oa ob : List Int) (w : World) (ha : Rng w va ea la oa) (hb : Rng w vb eb lb ob) (hn : ¬ (oa.length = 64 ∧ ob.length = 64)) :
    Calls Tryz.prog 20 #[va, vb] w (MvPost [] w) := by
  obtain ⟨-, am, ao, rfl, hma, hia⟩ := ha
  obtain ⟨-, bm, bo, rfl, hmb, hib⟩ := hb
  obtain ⟨ma, mn, mc, rfl⟩ : ∃ a n c, am = .slice a n c := by obtain ⟨a, c, b, off, h, _⟩ := hma.at_; exact ⟨_, _, _, h⟩
  obtain ⟨na, nn, nc, rfl⟩ : ∃ a n c, bm = .slice a n c := by obtain ⟨a, c, b, off, h, _⟩ := hmb.at_; exact ⟨_, _, _, h⟩
  obtain ⟨-, -, aa, ac, ab, af, rfl, -, -, -⟩ := hia
  obtain ⟨-, -, ba, bc, bb, bf, rfl, -, -, -⟩ := hib
  obtain ⟨al, hal⟩ : ∃ n, oa.length = n := ⟨_, rfl⟩
  obtain ⟨bl, hbl⟩ : ∃ n, ob.length = n := ⟨_, rfl⟩
  rw [hal, hbl] at hn ⊢
  clear hal hbl hma hmb
  have HX := Lib.hid (Box3.new w (.int .i64 ea) (.slice ma mn mc) (.slice aa al ac) 25)
  have HY := Lib.hid (Box3.new (w.alloc (.cells #[.int .i64 ea, .slice ma mn mc, .slice aa al ac] 25)) (.int .i64 eb) (.slice na nn nc) (.slice ba bl bc) 25)
  have HKA : Hid (Keep (fun _ => False) w (w.alloc (.cells #[.int .i64 ea, .slice ma mn mc, .slice aa al ac] 25))) := Lib.hid ((Keep.refl _ w).alloc _)
  have HKB : Hid (Keep (fun _ => False) (w.alloc (.cells #[.int .i64 ea, .slice ma mn mc, .slice aa al ac] 25)) ((w.alloc (.cells #[.int .i64 ea, .slice ma mn mc, .slice aa al ac] 25)).alloc (.cells #[.int .i64 eb, .slice na nn nc, .slice ba bl bc] 25))) := Lib.hid ((Keep.refl _ _).alloc _)
  have HX0 := Lib.hid (HX.out.kept HKB.out)
  rw [World.size_alloc] at HY
  have HK0 := Lib.hid (HKA.out.trans HKB.out)
  clear HX HKA HKB
  go_enter Tryz.func20, Tryz.ntmps20
  go_upto_region 1 with (fail)
  generalize ((w.alloc (.cells #[.int .i64 ea, .slice ma mn mc, .slice aa al ac] 25)).alloc (.cells #[.int .i64 eb, .slice na nn nc, .slice ba bl bc] 25)) = W0 at *
  generalize hz : w.heap.size = z at HX0 HY ⊢
  have HZ := Lib.hid hz
  clear hz
  obtain ⟨x0, x1, x2, -⟩ := HX0.out
  obtain ⟨y0, y1, y2, -⟩ := HY.out
  have HEND : Hid (MvPost [] w (.returned (.slice none 0 0)) W0) := Lib.hid ⟨none, 0, rfl, by simpa [flatV, flatB] using World.ownsRow_nil W0 w.heap.size 77 3, HK0.out⟩
  by_cases hla : al = 64
  · have hbz : ¬ (bl : Int) = 64 := by omega
    have hbe : ((bl : Int) == 64) = false := by simpa using hbz
    subst hla
    clear hn
    go_wp2_with fail
    go_ret
    exact HEND.out
  · have haz : ¬ (al : Int) = 64 := by omega
    have hae : ((al : Int) == 64) = false := by simpa using haz
    clear hn hla
    go_wp2_with fail
    go_ret
    exact HEND.out
set_option maxRecDepth 100000 in
set_option maxHeartbeats 8000000 in
theorem refMoves_ok (va vb : Value) (ea eb : Int) (la lb : List Mb) (oa ob : List Int) (w : World) (ha : Rng w va ea la oa) (hb : Rng w vb eb lb ob) (hla : oa.length = 64) (hlb : ob.length = 64) :
    Calls Tryz.prog 20 #[va, vb] w (MvPost (movesK oa ob 64) w) := by
  obtain ⟨-, am, ao, rfl, hma, hia⟩ := ha
  obtain ⟨-, bm, bo, rfl, hmb, hib⟩ := hb
  obtain ⟨ma, mn, mc, rfl⟩ : ∃ a n c, am = .slice a n c := by obtain ⟨a, c, b, off, h, _⟩ := hma.at_; exact ⟨_, _, _, h⟩
  obtain ⟨na, nn, nc, rfl⟩ : ∃ a n c, bm = .slice a n c := by obtain ⟨a, c, b, off, h, _⟩ := hmb.at_; exact ⟨_, _, _, h⟩
  obtain ⟨-, -, aa, ac, ab, af, rfl, hac, haa, hacell⟩ := hia
  obtain ⟨-, -, ba, bc, bb, bf, rfl, hbc, hba, hbcell⟩ := hib
  obtain rfl := haa (by omega)
  obtain rfl := hba (by omega)
  have HCA := Lib.hid hacell
  have HCB := Lib.hid hbcell
  have HLA := Lib.hid hla
  have HLB := Lib.hid hlb
  rw [hla] at hac ⊢
  rw [hlb] at hbc ⊢
  clear haa hba hacell hbcell hla hlb hma hmb
  have HX := Lib.hid (Box3.new w (.int .i64 ea) (.slice ma mn mc) (.slice (some ⟨ab, af, none⟩) 64 ac) 25)
  have HY := Lib.hid (Box3.new (w.alloc (.cells #[.int .i64 ea, .slice ma mn mc, .slice (some ⟨ab, af, none⟩) 64 ac] 25)) (.int .i64 eb) (.slice na nn nc) (.slice (some ⟨bb, bf, none⟩) 64 bc) 25)
  have HKA : Hid (Keep (fun _ => False) w (w.alloc (.cells #[.int .i64 ea, .slice ma mn mc, .slice (some ⟨ab, af, none⟩) 64 ac] 25))) := Lib.hid ((Keep.refl _ w).alloc _)
  have HKB : Hid (Keep (fun _ => False) (w.alloc (.cells #[.int .i64 ea, .slice ma mn mc, .slice (some ⟨ab, af, none⟩) 64 ac] 25)) ((w.alloc (.cells #[.int .i64 ea, .slice ma mn mc, .slice (some ⟨ab, af, none⟩) 64 ac] 25)).alloc (.cells #[.int .i64 eb, .slice na nn nc, .slice (some ⟨bb, bf, none⟩) 64 bc] 25))) := Lib.hid ((Keep.refl _ _).alloc _)
  have HX0 := Lib.hid (HX.out.kept HKB.out)
  rw [World.size_alloc] at HY
  have HK0 := Lib.hid (HKA.out.trans HKB.out)
  clear HX HKA HKB
  go_enter Tryz.func20, Tryz.ntmps20
  go_upto_region 1 with (fail)
  generalize ((w.alloc (.cells #[.int .i64 ea, .slice ma mn mc, .slice (some ⟨ab, af, none⟩) 64 ac] 25)).alloc (.cells #[.int .i64 eb, .slice na nn nc, .slice (some ⟨bb, bf, none⟩) 64 bc] 25)) = W0 at *
  generalize hz : w.heap.size = z at HX0 HY ⊢
  have HZ := Lib.hid hz
  clear hz
  obtain ⟨x0, x1, x2, -⟩ := HX0.out
  obtain ⟨y0, y1, y2, -⟩ := HY.out
  go_upto_region 5 with (fail)
  clear x0 x1 x2 y0 y1 y2
  have HW0 : Hid (OwnV W0 [] (.slice none 0 0) W0) := Lib.hid (OwnV.nil (Keep.refl _ W0))
  go_loopg [5, 6] 64 (fun gh v5 v6 wr => ∃ i : Nat, gh + i = 64 ∧ v6 = .int .i64 i ∧ OwnV W0 (movesK oa ob i) v5 wr)
  case atStart => exact ⟨0, by omega, rfl, HW0.out⟩
  case round =>
    obtain ⟨i, hi, rfl, hown⟩ := hrel
    have HOV := Lib.hid hown
    have HK := Lib.hid hown.1
    clear hown
    by_cases hlt : i < 64
    · obtain ⟨x, hx⟩ : ∃ x, oa[i]? = some x := ⟨_, List.getElem?_eq_getElem (by have := HLA.out; omega)⟩
      obtain ⟨y, hy⟩ : ∃ y, ob[i]? = some y := ⟨_, List.getElem?_eq_getElem (by have := HLB.out; omega)⟩
      have HMK := Lib.hid (movesK_len oa ob i)
      have cx := (HK0.out.trans HK.out).cell (HCA.out i x hx) (fun h => h)
      have cy := (HK0.out.trans HK.out).cell (HCB.out i y hy) (fun h => h)
      obtain ⟨x0, x1, x2, -⟩ := HX0.out.kept HK.out
      obtain ⟨y0, y1, y2, -⟩ := HY.out.kept HK.out
      have HXI := Lib.hid hx
      have HYI := Lib.hid hy
      have hiz : (i : Int) < 64 := by omega
      have hi0 : (0 : Int) ≤ (i : Int) := by omega
      clear hx hy
      obtain ⟨v5, hv5⟩ : ∃ v, u5 = v := ⟨_, rfl⟩
      have HV5 := Lib.hid hv5
      clear hv5
      go_upto_region 7 with (fail)
      go_quiet (fail)
      clear x0 x1 x2 y0 y1 y2 cx cy
      have HOW1 := Lib.hid (HOV.out.keep ((Keep.refl (fun _ => False) wr).drewN nq))
      clear HOV HK
      generalize wr.drewN nq = Y0 at *
      have cx := (HK0.out.trans HOW1.out.1).cell (HCA.out i x HXI.out) (fun h => h)
      have cy := (HK0.out.trans HOW1.out.1).cell (HCB.out i y HYI.out) (fun h => h)
      obtain ⟨x0, x1, x2, -⟩ := HX0.out.kept HOW1.out.1
      obtain ⟨y0, y1, y2, -⟩ := HY.out.kept HOW1.out.1
      by_cases hne : y = x
      · have HN : Hid (OwnV W0 (movesK oa ob (i + 1)) u5 Y0) := Lib.hid (by rw [movesK_stay HXI.out HYI.out hne]; exact HOW1.out)
        subst hne
        go_wp2_with fail
        clear x0 x1 x2 y0 y1 y2 cx cy
        go_roundg (64 - (i + 1))
        case rel => exact ⟨i + 1, by omega, by go_num, HN.out⟩
        case measure => omega
      · have HNE := Lib.hid hne
        have hxy : (x == y) = false := by simp; exact fun h => hne h.symm
        go_upto_region 8 with (fail)
        have HOW2 := Lib.hid (HOW1.out.keep (Keep.refl (fun _ => False) Y0).drew)
        obtain ⟨v', w', hr, hn⟩ := HOW2.out.snoc ⟨i, x, y⟩ (by have := HMK.out; omega)
        have HN : Hid (OwnV W0 (movesK oa ob (i + 1)) v' w') := Lib.hid (by rw [movesK_next HXI.out HYI.out HNE.out]; exact hn)
        have HR := Lib.hid hr
        clear hr hn x0 x1 x2 y0 y1 y2 cx cy
        simp only [] at HR
        have x2 : ∀ p : KA (fun _ => False) W0, p.val.cell? ⟨z, 2, none⟩ = some (.slice (some ⟨ab, af, none⟩) 64 ac) := fun p => (HX0.out.kept p.k).2.2.1
        have y2 : ∀ p : KA (fun _ => False) W0, p.val.cell? ⟨z + 1, 2, none⟩ = some (.slice (some ⟨bb, bf, none⟩) 64 bc) := fun p => (HY.out.kept p.k).2.2.1
        have cx : ∀ p : KA (fun _ => False) W0, p.val.cell? ⟨ab, af + i, none⟩ = some (.int .i64 x) := fun p => (HK0.out.trans p.k).cell (HCA.out i x HXI.out) (fun h => h)
        refine wp_region_walk [(true, 0), (true, 1), (true, 2), (true, 3), (true, 4), (true, 5), (true, 6), (true, 7), (true, 8), (false, 9), (false, 10), (false, 11), (false, 12), (false, 13), (false, 14), (false, 15)] (inKA (fun _ => False) W0) (by kernel_rfl) (by kernel_rfl) ?_
        iterate 9 (refine walkW_read rfl (fun K hK => ?_); go_simp; refine hK _ ?_; clear hK K)
        clear x2 y2 cx
        have cy := (HK0.out.trans HOW2.out.1).cell (HCB.out i y HYI.out) (fun h => h)
        iterate 5 (refine walkW_do rfl (inKA.of HOW2.out.1) (fun K hK => ?_); go_simp; refine hK _ _ ?_; clear hK K)
        refine walkW_do rfl (inKA.of (HOW2.out.1.alloc _)) (fun K hK => ?_)
        rw [if_pos (by simp [Region.wanted])]
        refine wp_app (.tmp 32) (.tmp 45) 26 rfl rfl rfl HR.out (hK _ _ ?_); clear hK K
        refine walkW_do rfl (inKA.of HN.out.1) (fun K hK => ?_)
        go_simp
        refine hK _ _ ?_; clear hK K
        refine ⟨inKA.of HN.out.1, ?_⟩
        go_wp2_with fail
        clear cy
        go_roundg (64 - (i + 1))
        case rel => exact ⟨i + 1, by omega, by go_num, HN.out⟩
        case measure => omega
    · obtain rfl : i = 64 := by omega
      have hiz : ¬ (((64 : Nat) : Int) < 64) := by omega
      obtain ⟨a, c, rfl⟩ := own_form HOV.out.2
      go_wp2_with fail
      go_ret
      exact ⟨a, c, rfl, ownsRow_lo HOV.out.2 (HK0.out.size), HK0.out.trans HK.out⟩

theorem movesV_any (va vb : Value) (ea eb : Int) (la lb : List Mb) (oa ob : List Int) (w : World) (ha : Rng w va ea la oa) (hb : Rng w vb eb lb ob) : Calls Tryz.prog 19 #[va, vb] w (MvPost (movesV oa ob) w) := by
  unfold movesV
  by_cases h : oa.length = 64 ∧ ob.length = 64
  · rw [if_pos h]
    exact moves_any va vb ea eb la lb oa ob w ha hb h.1 h.2
  · rw [if_neg h]
    exact movesR_none va vb ea eb la lb oa ob w ha hb h
theorem refMovesV_any (va vb : Value) (ea eb : Int) (la lb : List Mb) (oa ob : List Int) (w : World) (ha : Rng w va ea la oa) (hb : Rng w vb eb lb ob) : Calls Tryz.prog 20 #[va, vb] w (MvPost (movesV oa ob) w) := by
  unfold movesV
  by_cases h : oa.length = 64 ∧ ob.length = 64
  · rw [if_pos h]
    exact refMoves_ok va vb ea eb la lb oa ob w ha hb h.1 h.2
  · rw [if_neg h]
    exact refMoves_none va vb ea eb la lb oa ob w ha hb h
theorem movesV_bd {oa ob : List Int} (ha : ∀ x ∈ oa, I64 x) (hb : ∀ x ∈ ob, I64 x) : ∀ m ∈ movesV oa ob, I64 m.slot ∧ I64 m.frm ∧ I64 m.to_ := fun m hm => by
  unfold movesV at hm
  split at hm
  · rename_i h
    obtain ⟨k, hk, -, rfl⟩ := mem_movesK.1 hm
    refine ⟨by unfold I64; simp only []; omega, ?_, ?_⟩
    · simp only []
      rw [List.getD_eq_getElem?_getD, List.getElem?_eq_getElem (by omega)]
      exact ha _ (List.getElem_mem _)
    · simp only []
      rw [List.getD_eq_getElem?_getD, List.getElem?_eq_getElem (by omega)]
      exact hb _ (List.getElem_mem _)
  · cases hm
end Go.Proofs.YtiacdkggbnoigaaGreatDoor

/-
  The reference's Change, refused.
-/
namespace Go.Proofs.YtiacdkggbnoigaaGreatDoor
open Go.RowKit Go.Shelf

set_option maxRecDepth 100000 in
set_option maxHeartbeats 8000000 in
theorem refChange_bad (v vl : Value) (ep : Int) (lr l : List Mb) (ow : List Int) (w : World) (h : Rng w v ep lr ow) (hl : Mbs w vl l) (hbad : validRB ep lr ow = false ∨ validL l = false ∨ 1000000 ≤ ep) : Calls Tryz.prog 9 #[v, vl] w (NewBad w) := by
  have HRG := Lib.hid h
  have HML := Lib.hid hl
  obtain ⟨hb0, vm, vo, rfl, hm0, ho0⟩ := h
  obtain ⟨ma, mn, mc, rfl⟩ : ∃ a n c, vm = .slice a n c := by obtain ⟨a, c, b, off, h, _⟩ := hm0.at_; exact ⟨_, _, _, h⟩
  obtain ⟨oa, on, oc, rfl⟩ : ∃ a n c, vo = .slice a n c := by obtain ⟨a, c, b, off, h, _⟩ := ho0.at_; exact ⟨_, _, _, h⟩
  obtain ⟨la, ln, lc, rfl⟩ : ∃ a n c, vl = .slice a n c := by obtain ⟨a, c, b, off, h, _⟩ := hl.at_; exact ⟨_, _, _, h⟩
  clear hm0 hb0 ho0 hl
  obtain ⟨b1, hb1⟩ : ∃ b, validRB ep lr ow = b := ⟨_, rfl⟩
  obtain ⟨b2, hb2⟩ : ∃ b, validL l = b := ⟨_, rfl⟩
  have HB1 := Lib.hid hb1
  have HB2 := Lib.hid hb2
  rw [hb1, hb2] at hbad
  clear hb1 hb2
  have HX := Lib.hid (Box3.new w (.int .i64 ep) (.slice ma mn mc) (.slice oa on oc) 25)
  have HY := Lib.hid (Box3.new (w.alloc (.cells #[.int .i64 ep, .slice ma mn mc, .slice oa on oc] 25)) (.int .i64 0) (.slice none 0 0) (.slice none 0 0) 25)
  have HKA : Hid (Keep (fun _ => False) w (w.alloc (.cells #[.int .i64 ep, .slice ma mn mc, .slice oa on oc] 25))) := Lib.hid ((Keep.refl _ w).alloc _)
  have HKB : Hid (Keep (fun _ => False) (w.alloc (.cells #[.int .i64 ep, .slice ma mn mc, .slice oa on oc] 25)) ((w.alloc (.cells #[.int .i64 ep, .slice ma mn mc, .slice oa on oc] 25)).alloc (.cells #[.int .i64 0, .slice none 0 0, .slice none 0 0] 25))) := Lib.hid ((Keep.refl _ _).alloc _)
  have HX0 := Lib.hid (HX.out.kept HKB.out)
  rw [World.size_alloc] at HY
  have HK0 := Lib.hid (HKA.out.trans HKB.out)
  clear HX HKA HKB
  go_enter Tryz.func9, Tryz.ntmps9
  go_upto_region 1 with (fail)
  generalize (w.alloc (.cells #[.int .i64 ep, .slice ma mn mc, .slice oa on oc] 25)).alloc (.cells #[.int .i64 0, .slice none 0 0, .slice none 0 0] 25) = W0 at *
  generalize hz : w.heap.size = z at HX0 HY ⊢
  have HZ := Lib.hid hz
  clear hz
  obtain ⟨x0, x1, x2, xf⟩ := HX0.out
  go_wp2_with fail
  clear x0 x1 x2 xf
  have hvc := refValidRing_any _ ep lr ow W0 (HRG.out.kept HK0.out)
  rw [HB1.out] at hvc
  with_reducible refine hvc.mono ?_
  clear hvc
  rintro e W1 ⟨rfl, k1⟩
  have HX1 := Lib.hid (HX0.out.kept k1)
  have HY1 := Lib.hid (HY.out.kept k1)
  have HK1 := Lib.hid (HK0.out.trans k1)
  clear k1 HX0 HY HK0
  have fin : ∀ W, Hid (Keep (fun _ => False) w W) → Hid (Box3 W (z + 1) (.int .i64 0) (.slice none 0 0) (.slice none 0 0)) → Hid (Box3 (((W.setCell ⟨z + 1, 0, none⟩ (.int .i64 0)).setCell ⟨z + 1, 1, none⟩ (.slice none 0 0)).setCell ⟨z + 1, 2, none⟩ (.slice none 0 0)) (z + 1) (.int .i64 0) (.slice none 0 0) (.slice none 0 0) ∧ Keep (fun _ => False) w (((W.setCell ⟨z + 1, 0, none⟩ (.int .i64 0)).setCell ⟨z + 1, 1, none⟩ (.slice none 0 0)).setCell ⟨z + 1, 2, none⟩ (.slice none 0 0))) := fun W k h =>
    Lib.hid ⟨((h.out.set0 _).set1 _).set2 _, k.out.trans' ((((Keep.refl (fun j => j = z + 1) W).setCell (p := ⟨z + 1, 0, none⟩) _ (.inl rfl)).setCell (p := ⟨z + 1, 1, none⟩) _ (.inl rfl)).setCell (p := ⟨z + 1, 2, none⟩) _ (.inl rfl)) (fun j e => .inr (by have h5 : j = z + 1 := e; have := HZ.out; omega))⟩
  have FIN := Lib.hid fin
  clear fin
  go_wp2_with fail
  have hvc := refValid_any _ l W1 (HML.out.kept HK1.out)
  rw [HB2.out] at hvc
  with_reducible refine hvc.mono ?_
  clear hvc
  rintro e W2 ⟨rfl, k2⟩
  have HX2 := Lib.hid (HX1.out.kept k2)
  have HY2 := Lib.hid (HY1.out.kept k2)
  have HK2 := Lib.hid (HK1.out.trans k2)
  clear k2 HX1 HY1 HK1
  obtain ⟨x0, x1, x2, xf⟩ := HX2.out
  obtain ⟨y0, y1, y2, yf⟩ := HY2.out
  cases b1 with
  | false =>
    go_upto_region 4 with (fail)
    go_wp2_with fail
    clear x0 x1 x2 xf y0 y1 y2 yf
    obtain ⟨⟨g0, g1, g2, -⟩, kf⟩ := (FIN.out W2 HK2 HY2).out
    generalize ((W2.setCell ⟨z + 1, 0, none⟩ (.int .i64 0)).setCell ⟨z + 1, 1, none⟩ (.slice none 0 0)).setCell ⟨z + 1, 2, none⟩ (.slice none 0 0) = WF at *
    refine bodyPost_ret (v := .tuple #[ringV 0 (.slice none 0 0) (.slice none 0 0), .int .i64 120]) (by simp [results, Tryz.results9, go_sem, g0, g1, g2]) rfl ?_
    exact ⟨rfl, kf⟩
  | true =>
    cases b2 with
    | false =>
      go_upto_region 4 with (fail)
      go_wp2_with fail
      clear x0 x1 x2 xf y0 y1 y2 yf
      obtain ⟨⟨g0, g1, g2, -⟩, kf⟩ := (FIN.out W2 HK2 HY2).out
      generalize ((W2.setCell ⟨z + 1, 0, none⟩ (.int .i64 0)).setCell ⟨z + 1, 1, none⟩ (.slice none 0 0)).setCell ⟨z + 1, 2, none⟩ (.slice none 0 0) = WF at *
      refine bodyPost_ret (v := .tuple #[ringV 0 (.slice none 0 0) (.slice none 0 0), .int .i64 120]) (by simp [results, Tryz.results9, go_sem, g0, g1, g2]) rfl ?_
      exact ⟨rfl, kf⟩
    | true =>
      have hep : 1000000 ≤ ep := by
        rcases hbad with h | h | h
        · cases h
        · cases h
        · exact h
      go_upto_region 4 with (fail)
      go_wp2_with fail
      clear x0 x1 x2 xf y0 y1 y2 yf
      obtain ⟨⟨g0, g1, g2, -⟩, kf⟩ := (FIN.out W2 HK2 HY2).out
      generalize ((W2.setCell ⟨z + 1, 0, none⟩ (.int .i64 0)).setCell ⟨z + 1, 1, none⟩ (.slice none 0 0)).setCell ⟨z + 1, 2, none⟩ (.slice none 0 0) = WF at *
      refine bodyPost_ret (v := .tuple #[ringV 0 (.slice none 0 0) (.slice none 0 0), .int .i64 120]) (by simp [results, Tryz.results9, go_sem, g0, g1, g2]) rfl ?_
      exact ⟨rfl, kf⟩
end Go.Proofs.YtiacdkggbnoigaaGreatDoor

/-
  The plain law of the reference's Change: owners and loads, slot after slot.
-/
namespace Go.Proofs.YtiacdkggbnoigaaGreatDoor

/-- The owners behind k slots of the second pass. -/
def refA (l : List Mb) (ow : List Int) (k : Nat) : List Int := placeA (fun s => ords PN l (QS s)) (limitL l) (keepR ow (limitL l) 64) k
theorem placeA_succ (ord : Nat → List Int) (g : Int → Int) (R : List Int) (k : Nat) : placeA ord g R (k + 1) = if (placeA ord g R k)[k]? = some (-1) then placeS ord g (placeA ord g R k) k else placeA ord g R k := rfl
theorem refA_succ (l : List Mb) (ow : List Int) (k : Nat) : refA l ow (k + 1) = if (refA l ow k)[k]? = some (-1) then placeS (fun s => ords PN l (QS s)) (limitL l) (refA l ow k) k else refA l ow k := by
  unfold refA
  exact placeA_succ _ _ _ _
theorem refA_zero (l : List Mb) (ow : List Int) : refA l ow 0 = keepR ow (limitL l) 64 := rfl
theorem refA_row {l : List Mb} (h : VL l) {ow : List Int} (hl : ow.length = 64) : ∀ k, k ≤ 64 → RowK (limitL l) (l.map Mb.node) (refA l ow k)
  | 0, _ => keep_row hl
  | k + 1, hk => by
    have ih := refA_row h hl k (by omega)
    rw [refA_succ]
    generalize refA l ow k = R at *
    by_cases e : R[k]? = some (-1)
    · rw [if_pos e]
      obtain ⟨n, h1, h2, h3, h4⟩ := place_ok (ord := fun s => ords PN l (QS s)) h.nodup (fun n hn => by have := h.node n hn; omega) (fun s n => by rw [mem_ords PN h, List.mem_map]) (by have := limit_sum h; omega) ih e
      unfold placeS
      rw [h1]
      exact h4
    · rw [if_neg e]
      exact ih
theorem refA_len {l : List Mb} (h : VL l) {ow : List Int} (hl : ow.length = 64) {k : Nat} (hk : k ≤ 64) : (refA l ow k).length = 64 := (refA_row h hl k hk).len
theorem refA_get {l : List Mb} (h : VL l) {ow : List Int} (hl : ow.length = 64) {k : Nat} (hk : k ≤ 64) : ∀ x ∈ refA l ow k, x = -1 ∨ 0 ≤ x ∧ x ≤ 23 := fun x hx => by
  by_cases e : x = -1
  · exact .inl e
  · exact .inr (h.node x ((refA_row h hl k hk).mem x hx e))
/-- A slot that has an owner keeps it. -/
theorem refA_skip {l : List Mb} {ow : List Int} {k : Nat} {x : Int} (hx : (refA l ow k)[k]? = some x) (hne : x ≠ -1) : refA l ow (k + 1) = refA l ow k := by
  rw [refA_succ, hx, if_neg (fun e => hne (Option.some.inj e))]
/-- A slot that has none gets the first one with room. -/
theorem refA_home {l : List Mb} (h : VL l) {ow : List Int} (hl : ow.length = 64) {k : Nat} (hk : k < 64) (hx : (refA l ow k)[k]? = some (-1)) :
    ∃ n, firstN (fun n => limitL l n - cnt (refA l ow k) n) (ords PN l (QS k)) = some n ∧ 0 ≤ n ∧ n ≤ 23 ∧ refA l ow (k + 1) = (refA l ow k).set k n := by
  have hr := refA_row h hl k (by omega)
  obtain ⟨n, h1, h2, h3, h4⟩ := place_ok (ord := fun s => ords PN l (QS s)) h.nodup (fun n hn => by have := h.node n hn; omega) (fun s n => by rw [mem_ords PN h, List.mem_map]) (by have := limit_sum h; omega) hr hx
  have hn := h.node n h2
  refine ⟨n, h1, hn.1, hn.2, ?_⟩
  rw [refA_succ, hx, if_pos rfl]
  unfold placeS
  rw [h1]
theorem refA_end {l : List Mb} {ow : List Int} : refA l ow 64 = changeL PN QS l ow := by
  have hlen : (keepR ow (limitL l) 64).length = 64 := keepR_len _ _ _
  unfold refA changeL
  generalize keepR ow (limitL l) 64 = R at *
  rw [placeA_eq]
  unfold homeL
  rw [hlen]
theorem loadsL_set {R : List Int} {s n : Nat} (hs : R[s]? = some (-1)) (hn : n < 24) : loadsL (R.set s n) = (loadsL R).set n (cnt R n + 1) := by
  apply List.ext_getElem?
  intro i
  by_cases hi : i < 24
  · rw [loadsL_get hi, cnt_set hs]
    by_cases e : n = i
    · subst e
      rw [List.getElem?_set_self (by rw [loadsL_len]; exact hn), if_pos rfl, if_neg (by omega)]
      first | rfl | (congr 1; omega)
    · rw [List.getElem?_set_ne e, loadsL_get hi, if_neg (by omega), if_neg (by omega)]
      first | rfl | (congr 1; omega)
  · rw [List.getElem?_eq_none (by rw [loadsL_len]; omega), List.getElem?_eq_none (by rw [List.length_set, loadsL_len]; omega)]
theorem loadsL_none (R : List Int) : loadsL (R ++ [-1]) = loadsL R := by
  apply List.ext_getElem?
  intro i
  by_cases hi : i < 24
  · rw [loadsL_get hi, loadsL_get hi, cnt_snoc, if_neg (by omega), Int.add_zero]
  · rw [List.getElem?_eq_none (by rw [loadsL_len]; omega), List.getElem?_eq_none (by rw [loadsL_len]; omega)]
/-- The owners in memory behind k slots of the first pass. -/
def padO (R : List Int) (k : Nat) : List Int := R ++ List.replicate (64 - k) 0
theorem padO_len {R : List Int} {k : Nat} (h : R.length = k) (hk : k ≤ 64) : (padO R k).length = 64 := by simp [padO, h]; omega
theorem padO_set {R : List Int} {k : Nat} (h : R.length = k) (hk : k < 64) (x : Int) : (padO R k).set k x = padO (R ++ [x]) (k + 1) := by
  unfold padO
  rw [List.set_append, if_neg (by omega), h, Nat.sub_self, show 64 - k = (64 - (k + 1)) + 1 by omega, List.replicate_succ, List.set_cons_zero]
  simp
theorem padO_all {R : List Int} : padO R 64 = R := by simp [padO]
theorem padO_zero : padO [] 0 = List.replicate 64 0 := by simp [padO]
theorem limsK_snoc (l : List Mb) (k : Nat) : (List.range (k + 1)).map (fun n : Nat => limitL l n) = (List.range k).map (fun n : Nat => limitL l n) ++ [limitL l k] := by
  rw [List.range_succ, List.map_append]; rfl
theorem limsK_get (l : List Mb) {n : Nat} (h : n < 24) : ((List.range 24).map (fun n : Nat => limitL l n))[n]? = some (limitL l n) := by
  rw [List.getElem?_map, List.getElem?_range h]; rfl
/-- What firstN finds, at its place. -/
theorem firstN_at {g : Int → Int} : ∀ {o : List Int} {n : Int}, firstN g o = some n → ∃ i : Nat, o[i]? = some n ∧ 0 < g n ∧ ∀ (q : Nat) (x : Int), q < i → o[q]? = some x → g x ≤ 0
  | [], n, h => by simp [firstN] at h
  | y :: o, n, h => by
    unfold firstN at h
    rw [List.find?_cons] at h
    by_cases e : 0 < g y
    · rw [decide_eq_true e] at h
      cases h
      exact ⟨0, rfl, e, fun q x hq => by omega⟩
    · rw [decide_eq_false e] at h
      obtain ⟨i, h1, h2, h3⟩ := firstN_at (g := g) (o := o) (n := n) h
      refine ⟨i + 1, h1, h2, fun q x hq hx => ?_⟩
      cases q with
      | zero => simp only [List.getElem?_cons_zero, Option.some.injEq] at hx; subst hx; omega
      | succ q => exact h3 q x (by omega) hx
theorem cnt_len' (ow : List Int) (n : Int) : cnt ow n ≤ ow.length := by
  unfold cnt
  have := List.count_le_length (a := n) (l := ow)
  omega
/-! under names, so that no search unfolds them -/
structure KeepAt (l : List Mb) (ow : List Int) (k : Nat) (R : List Int) : Prop where
  eq : keepR ow (limitL l) k = R
structure RefAt (l : List Mb) (ow : List Int) (k : Nat) (R : List Int) : Prop where
  eq : refA l ow k = R
theorem KeepAt.first (l : List Mb) (ow : List Int) : KeepAt l ow 0 [] := ⟨rfl⟩
theorem KeepAt.len {l : List Mb} {ow : List Int} {k : Nat} {R : List Int} (h : KeepAt l ow k R) : R.length = k := by rw [← h.eq, keepR_len]
theorem KeepAt.stay {l : List Mb} {ow : List Int} {k : Nat} {R : List Int} (h : KeepAt l ow k R) {x : Int} (hx : ow[k]? = some x) (hr : cnt R x < limitL l x) : KeepAt l ow (k + 1) (R ++ [x]) := by
  constructor
  rw [keepR_succ, h.eq, List.getD_eq_getElem?_getD, hx, Option.getD_some, if_pos hr]
theorem KeepAt.go {l : List Mb} {ow : List Int} {k : Nat} {R : List Int} (h : KeepAt l ow k R) {x : Int} (hx : ow[k]? = some x) (hr : ¬ cnt R x < limitL l x) : KeepAt l ow (k + 1) (R ++ [-1]) := by
  constructor
  rw [keepR_succ, h.eq, List.getD_eq_getElem?_getD, hx, Option.getD_some, if_neg hr]
theorem KeepAt.all {l : List Mb} {ow : List Int} {k : Nat} {R : List Int} (h : KeepAt l ow k R) (hk : k = 64) : RefAt l ow 0 R := ⟨by rw [refA_zero, ← h.eq, hk]⟩
theorem RefAt.len {l : List Mb} (hv : VL l) {ow : List Int} (hl : ow.length = 64) {k : Nat} (hk : k ≤ 64) {R : List Int} (h : RefAt l ow k R) : R.length = 64 := by rw [← h.eq]; exact refA_len hv hl hk
theorem RefAt.get {l : List Mb} (hv : VL l) {ow : List Int} (hl : ow.length = 64) {k : Nat} (hk : k ≤ 64) {R : List Int} (h : RefAt l ow k R) {s : Nat} {x : Int} (hx : R[s]? = some x) : x = -1 ∨ 0 ≤ x ∧ x ≤ 23 := by
  have := List.mem_of_getElem? hx
  rw [← h.eq] at this
  exact refA_get hv hl hk x this
theorem RefAt.skip {l : List Mb} {ow : List Int} {k : Nat} {R : List Int} (h : RefAt l ow k R) {x : Int} (hx : R[k]? = some x) (hne : x ≠ -1) : RefAt l ow (k + 1) R := by
  have e := h.eq
  rw [← e] at hx
  exact ⟨(refA_skip hx hne).trans e⟩
theorem RefAt.home {l : List Mb} (hv : VL l) {ow : List Int} (hl : ow.length = 64) {k : Nat} (hk : k < 64) {R : List Int} (h : RefAt l ow k R) (hx : R[k]? = some (-1)) :
    ∃ (i n : Nat), (ords PN l (QS k))[i]? = some (n : Int) ∧ n < 24 ∧ cnt R n < limitL l n ∧ (∀ (q : Nat) (x : Int), q < i → (ords PN l (QS k))[q]? = some x → limitL l x ≤ cnt R x) ∧ RefAt l ow (k + 1) (R.set k n) := by
  have e := h.eq
  rw [← e] at hx
  obtain ⟨n, h1, h2, h3, h4⟩ := refA_home hv hl hk hx
  obtain ⟨i, h5, h6, h7⟩ := firstN_at h1
  rw [e] at h4 h6 h7
  refine ⟨i, n.toNat, ?_, by omega, ?_, fun q x hq hx => by have := h7 q x hq hx; omega, ⟨?_⟩⟩
  · rw [h5, Int.toNat_of_nonneg h2]
  · rw [Int.toNat_of_nonneg h2]; omega
  · rw [h4, Int.toNat_of_nonneg h2]
theorem RefAt.last {l : List Mb} {ow : List Int} {k : Nat} {R : List Int} (h : RefAt l ow k R) (hk : k = 64) : R = changeL PN QS l ow := by rw [← h.eq, hk, refA_end]
theorem ords_node {l : List Mb} (hv : VL l) {p : Int} {i : Nat} {x : Int} (h : (ords PN l p)[i]? = some x) : 0 ≤ x ∧ x ≤ 23 := by
  have := (mem_ords PN hv).1 (List.mem_of_getElem? h)
  obtain ⟨m, hm, rfl⟩ := this
  have := hv.ok m hm
  unfold okMb at this
  omega
theorem ords_len {l : List Mb} (hv : VL l) (p : Int) : (ords PN l p).length ≤ 1536 := by
  have h := circ_len hv
  rw [ords_hilo l p (Nat.le_refl _), List.length_append]
  have h1 : (hiN (circ PN l) p (circ PN l).length).length + (loN (circ PN l) p (circ PN l).length).length ≤ 3072 := by
    have h2 := hiN_len (circ PN l) p (circ PN l).length
    have h3 := loN_len (circ PN l) p (circ PN l).length
    omega
  have h4 : (ords PN l p).length = (circ PN l).length := by
    unfold ords
    rw [List.length_map, rot_len]
  rw [ords_hilo l p (Nat.le_refl _), List.length_append] at h4
  omega
end Go.Proofs.YtiacdkggbnoigaaGreatDoor

/-
  The reference's Change, accepted.
-/
namespace Go.Proofs.YtiacdkggbnoigaaGreatDoor
open Go.RowKit Go.Shelf

set_option maxRecDepth 100000 in
set_option maxHeartbeats 8000000 in
theorem refChange_ok (v vl : Value) (ep : Int) (lr l : List Mb) (ow : List Int) (w : World) (h : Rng w v ep lr ow) (hvr : validRB ep lr ow = true) (he : ep < 1000000) (hl : Mbs w vl l) (hv : VL l) : Calls Tryz.prog 9 #[v, vl] w (RingPost (ep + 1) l (changeL PN QS l ow) w) := by
  have HRG := Lib.hid h
  have HVR := Lib.hid hvr
  have HOK := Lib.hid ((validRB_iff ep lr ow).1 hvr)
  have HML := Lib.hid hl
  have HV := Lib.hid hv
  have HVL := Lib.hid ((validL_iff l).2 hv)
  obtain ⟨hb0, vm, vo, rfl, hm0, ho0⟩ := h
  obtain ⟨ma, mn, mc, rfl⟩ : ∃ a n c, vm = .slice a n c := by obtain ⟨a, c, b, off, h, _⟩ := hm0.at_; exact ⟨_, _, _, h⟩
  obtain ⟨-, -, oa, oc, ob, oo, rfl, hoc, hoa, hocell⟩ := ho0
  obtain ⟨-, -, la, lc, lb, lo, rfl, hlc, hla, -⟩ := hl
  have hep1 : 1 ≤ ep := HOK.out.1
  have hol : ow.length = 64 := HOK.out.2.2.2.1
  have HCH : Hid ((changeL PN QS l ow).length = 64) := Lib.hid (change_len PN QS hv hol)
  obtain ⟨nw, hnw⟩ : ∃ x, changeL PN QS l ow = x := ⟨_, rfl⟩
  rw [hnw] at HCH ⊢
  have HLAST : Hid (∀ k R, RefAt l ow k R → k = 64 → R = nw) := Lib.hid (fun k R h1 h2 => by rw [h1.last h2, hnw])
  clear hnw
  obtain ⟨ln, hln⟩ : ∃ n, l.length = n := ⟨_, rfl⟩
  have HLN := Lib.hid hln
  have hln24 : ln ≤ 24 := by rw [← hln]; exact hv.len
  have hln1 : 0 < ln := by rw [← hln]; exact List.length_pos_iff.2 hv.ne
  obtain rfl := hla (by omega)
  obtain rfl := hoa (by omega)
  have HOL := Lib.hid hol
  have HOC := Lib.hid hocell
  rw [hln] at hlc HML ⊢
  rw [hol] at hoc HRG ⊢
  clear hvr hv hm0 hb0 hocell hla hoa hln hol
  have HX := Lib.hid (Box3.new w (.int .i64 ep) (.slice ma mn mc) (.slice (some ⟨ob, oo, none⟩) 64 oc) 25)
  have HY := Lib.hid (Box3.new (w.alloc (.cells #[.int .i64 ep, .slice ma mn mc, .slice (some ⟨ob, oo, none⟩) 64 oc] 25)) (.int .i64 0) (.slice none 0 0) (.slice none 0 0) 25)
  have HKA : Hid (Keep (fun _ => False) w (w.alloc (.cells #[.int .i64 ep, .slice ma mn mc, .slice (some ⟨ob, oo, none⟩) 64 oc] 25))) := Lib.hid ((Keep.refl _ w).alloc _)
  have HKB : Hid (Keep (fun _ => False) (w.alloc (.cells #[.int .i64 ep, .slice ma mn mc, .slice (some ⟨ob, oo, none⟩) 64 oc] 25)) ((w.alloc (.cells #[.int .i64 ep, .slice ma mn mc, .slice (some ⟨ob, oo, none⟩) 64 oc] 25)).alloc (.cells #[.int .i64 0, .slice none 0 0, .slice none 0 0] 25))) := Lib.hid ((Keep.refl _ _).alloc _)
  have HX0 := Lib.hid (HX.out.kept HKB.out)
  rw [World.size_alloc] at HY
  have HK0 := Lib.hid (HKA.out.trans HKB.out)
  clear HX HKA HKB
  go_enter Tryz.func9, Tryz.ntmps9
  go_upto_region 1 with (fail)
  generalize (w.alloc (.cells #[.int .i64 ep, .slice ma mn mc, .slice (some ⟨ob, oo, none⟩) 64 oc] 25)).alloc (.cells #[.int .i64 0, .slice none 0 0, .slice none 0 0] 25) = W0 at *
  generalize hz : w.heap.size = z at HX0 HY ⊢
  have HZ := Lib.hid hz
  clear hz
  obtain ⟨x0, x1, x2, xf⟩ := HX0.out
  go_wp2_with fail
  clear x0 x1 x2 xf
  have hvc := refValidRing_any _ ep lr ow W0 (HRG.out.kept HK0.out)
  rw [HVR.out] at hvc
  with_reducible refine hvc.mono ?_
  clear hvc
  rintro e W1 ⟨rfl, k1⟩
  have HX1 := Lib.hid (HX0.out.kept k1)
  have HY1 := Lib.hid (HY.out.kept k1)
  have HK1 := Lib.hid (HK0.out.trans k1)
  clear k1 HX0 HY HK0
  go_wp2_with fail
  have hvc := refValid_any _ l W1 (HML.out.kept HK1.out)
  rw [HVL.out] at hvc
  with_reducible refine hvc.mono ?_
  clear hvc
  rintro e W2 ⟨rfl, k2⟩
  have HX2 := Lib.hid (HX1.out.kept k2)
  have HY2 := Lib.hid (HY1.out.kept k2)
  have HK2 := Lib.hid (HK1.out.trans k2)
  clear k2 HX1 HY1 HK1
  obtain ⟨x0, x1, x2, xf⟩ := HX2.out
  go_upto_region 5 with (fail)
  clear x0 x1 x2 xf
  go_wp2_with fail
  go_loopg [8, 9] 24 (fun gh v8 v9 wr => ∃ k : Nat, gh + k = 24 ∧ v9 = .int .i64 k ∧ OwnI W2 ((List.range k).map (fun n : Nat => limitL l n)) v8 wr)
  case atStart => exact ⟨0, by omega, rfl, OwnI.nil (Keep.refl _ W2)⟩
  case round =>
    obtain ⟨k, hk, rfl, hown⟩ := hrel
    have HOW := Lib.hid hown
    clear hown
    by_cases hlt : k < 24
    · have HLM := Lib.hid (refLimit_any _ l wr (HML.out.kept (HK2.out.trans HOW.out.1)) k)
      have hkz : (k : Int) < 24 := by omega
      have HSN := Lib.hid (limsK_snoc l k)
      go_wp2_with fail
      with_reducible refine HLM.out.mono ?_
      rintro e Y ⟨rfl, kk⟩
      have HOW1 := Lib.hid (HOW.out.keep kk)
      obtain ⟨v', Y1, hr, hn, -, -⟩ := HOW1.out.snoc (limitL l k) (by simp; omega)
      rw [← HSN.out] at hn
      have HR := Lib.hid hr
      have HN := Lib.hid hn
      clear hr hn kk
      generalize limitL l k = lk at *
      go_wp2_with (at_builtin; refine wpList_app rfl (.tmp 37) (.tmp 41) 23 rfl rfl rfl HR.out ?_)
      go_roundg (24 - (k + 1))
      case rel => exact ⟨k + 1, by omega, by go_num, HN.out⟩
      case measure => omega
    · obtain rfl : k = 24 := by omega
      have hown := HOW.out.2
      rw [List.length_map, List.length_range] at hown
      obtain ⟨am0, cm, rfl⟩ := own_form hown
      obtain ⟨gm, rfl⟩ := own_some' hown (by decide)
      have HLC : Hid (∀ n : Nat, n < 24 → wr.cell? ⟨gm, n, none⟩ = some (.int .i64 (limitL l n))) := Lib.hid (fun n hn => by
        rw [hown.cellAt n hn, List.getElem?_map, limsK_get l hn]; rfl)
      have hcm : 24 ≤ cm := by
        rcases hown.2 with ⟨e1, -⟩ | ⟨g, c, cur, e1, _, _, hc, _⟩
        · cases e1
        · obtain ⟨-, -, rfl⟩ := Value.slice.inj e1
          exact hc
      have HGM : Hid (gm < wr.heap.size) := Lib.hid (hown.lt gm rfl).2
      have HX3 := Lib.hid (HX2.out.kept HOW.out.1)
      have HY3 := Lib.hid (HY2.out.kept HOW.out.1)
      have HK3 := Lib.hid (HK2.out.trans HOW.out.1)
      clear hown HOW HX2 HY2 HK2
      -- two slices are made
      obtain ⟨i0, hi, hz0, hz1, hz2⟩ := info_parts infoInt
      obtain ⟨W3, hmk, hown3, hgr3⟩ := run_makeSlice_full (P := Tryz.prog) wr wr.heap.size 23 3 i0 _ 1 Tryz.underlying23 hi hz0 hz1 .i64 .i64 24 (by decide) (by rw [hz2]; decide) (by decide) (Nat.le_refl _)
      have hmk1 : (Instr.makeSlice 23 (.int .i64 24) (.int .i64 24)).run Tryz.prog wr = .ok (.slice (some ⟨wr.heap.size, 0, none⟩) 24 24) W3 := hmk
      have HK23 : Hid (Keep (fun _ => False) wr W3) := Lib.hid ((Keep.of_grown hgr3).mono (fun j e => by cases e))
      obtain ⟨W4, hmkb, hown4, hgr4⟩ := run_makeSlice_full (P := Tryz.prog) W3 W3.heap.size 23 3 i0 _ 1 Tryz.underlying23 hi hz0 hz1 .i64 .i64 64 (by decide) (by rw [hz2]; decide) (by decide) (Nat.le_refl _)
      have hmk2 : (Instr.makeSlice 23 (.int .i64 64) (.int .i64 64)).run Tryz.prog W3 = .ok (.slice (some ⟨W3.heap.size, 0, none⟩) 64 64) W4 := hmkb
      have HK34 : Hid (Keep (fun _ => False) W3 W4) := Lib.hid ((Keep.of_grown hgr4).mono (fun j e => by cases e))
      have HLD4 : Hid (W4.ownsRow wr.heap.size 3 1 (.slice (some ⟨wr.heap.size, 0, none⟩) 24 24) 24 ((loadsL []).map (fun x => Value.int .i64 x))) := Lib.hid (by
        have h := hown3
        rw [show (madeCells (Value.int .i64 0).cells (24 * 1)).toList = (loadsL []).map (fun x => Value.int .i64 x) by
          rw [loadsL_nil, List.map_replicate]
          exact toList_madeCells_one _ _] at h
        exact ownsRow_keep h HK34.out (fun _ _ h => h))
      have HOW4 : Hid (W4.ownsRow W3.heap.size 3 1 (.slice (some ⟨W3.heap.size, 0, none⟩) 64 64) 64 ((padO [] 0).map (fun x => Value.int .i64 x))) := Lib.hid (by
        have h := hown4
        rw [show (madeCells (Value.int .i64 0).cells (64 * 1)).toList = (padO [] 0).map (fun x => Value.int .i64 x) by
          rw [padO_zero, List.map_replicate]
          exact toList_madeCells_one _ _] at h
        exact h)
      have HGL : Hid (wr.heap.size < W3.heap.size) := Lib.hid (hown3.lt wr.heap.size rfl).2
      clear hmk hmkb hown3 hown4 hgr3 hgr4 hi hz0 hz1 hz2
      have HX4 := Lib.hid (HX3.out.kept (HK23.out.trans HK34.out))
      have HY4 := Lib.hid (HY3.out.kept (HK23.out.trans HK34.out))
      have HK4 := Lib.hid (HK3.out.trans (HK23.out.trans HK34.out))
      have HLC4 : Hid (∀ n : Nat, n < 24 → W4.cell? ⟨gm, n, none⟩ = some (.int .i64 (limitL l n))) := Lib.hid (fun n hn => (HK23.out.trans HK34.out).cell (HLC.out n hn) (fun h => h))
      have HZL : Hid (z + 1 < wr.heap.size) := Lib.hid HY3.out.lt
      clear HX3 HY3 HLC
      generalize hgl : wr.heap.size = gl at hmk1 HLD4 HGL HGM HZL
      generalize hgw : W3.heap.size = gw at hmk2 HOW4 HGL
      have HGLW := Lib.hid hgl
      have HGWW := Lib.hid hgw
      clear hgl hgw
      go_wp2_with fail
      clear hmk1 hmk2
      have HKP4 := Lib.hid (KeepAt.first l ow)
      go_loopg [12] 64 (fun gh v12 wr => ∃ (s : Nat) (R : List Int), gh + s = 64 ∧ v12 = .int .i64 s ∧ KeepAt l ow s R ∧ Keep (fun j => j = gl ∨ j = gw) W4 wr ∧ wr.ownsRow gl 3 1 (.slice (some ⟨gl, 0, none⟩) 24 24) 24 ((loadsL R).map (fun x => Value.int .i64 x)) ∧ wr.ownsRow gw 3 1 (.slice (some ⟨gw, 0, none⟩) 64 64) 64 ((padO R s).map (fun x => Value.int .i64 x)))
      case atStart => exact ⟨0, [], by omega, rfl, HKP4.out, Keep.refl _ _, HLD4.out, HOW4.out⟩
      case round =>
        clear HKP4 HLD4 HOW4
        obtain ⟨s, R, hs, rfl, hkp, hkeep, hld, how⟩ := hrel
        have HKP := Lib.hid hkp
        have HK := Lib.hid hkeep
        have HLD := Lib.hid hld
        have HOW := Lib.hid how
        have HKW : Hid (Keep (fun _ => False) w wr) := Lib.hid (HK4.out.trans' hkeep (fun j e => .inr (by have := HZ.out; have := HZL.out; have := HGL.out; rcases e with e | e <;> omega)))
        have HXR := Lib.hid (HX4.out.keep hkeep (fun e => by have := HZL.out; have := HGL.out; rcases e with e | e <;> omega))
        clear hkp hkeep hld how
        by_cases hlt : s < 64
        · obtain ⟨x, hx⟩ : ∃ x, ow[s]? = some x := ⟨_, List.getElem?_eq_getElem (by rw [HOL.out]; exact hlt)⟩
          have hxb := okRing_nodes HOK.out x (List.mem_of_getElem? hx)
          obtain ⟨xn, rfl⟩ : ∃ n : Nat, x = n := ⟨x.toNat, by omega⟩
          have co := HKW.out.cell (HOC.out s xn hx) (fun h => h)
          have HXX := Lib.hid hx
          have hn24 : xn < 24 := by omega
          have hsz : (s : Int) < 64 := by omega
          have hs0 : (0 : Int) ≤ (s : Int) := by omega
          have hn0 : (0 : Int) ≤ (xn : Int) := by omega
          have hnz : (xn : Int) < 24 := by omega
          have HRL : Hid (R.length = s) := Lib.hid HKP.out.len
          clear hx hxb
          obtain ⟨x0, x1, x2, xf⟩ := HXR.out
          have cq : wr.cell? ⟨gw, s, none⟩ = some (.int .i64 ((padO R s).getD s 0)) := by
            rw [HOW.out.cellAt s hlt, List.getElem?_map]
            obtain ⟨y, hy⟩ : ∃ y, (padO R s)[s]? = some y := ⟨_, List.getElem?_eq_getElem (by rw [padO_len HRL.out (by omega)]; exact hlt)⟩
            rw [List.getD_eq_getElem?_getD, hy]; rfl
          have cf : ∀ o, wr.frozen? ⟨gw, o, none⟩ = false := fun o => HOW.out.frozenAt o
          generalize (padO R s).getD s 0 = y0 at cq
          have HO1 := Lib.hid (HOW.out.stored s (.int .i64 (-1))).1
          have HKA : Hid (Keep (fun j => j = gl ∨ j = gw) wr (wr.setCell ⟨gw, s, none⟩ (.int .i64 (-1)))) := Lib.hid ((Keep.refl (fun j => j = gl ∨ j = gw) wr).setCell (p := ⟨gw, s, none⟩) _ (.inl (.inr rfl)))
          go_upto_region 17 with (fail)
          clear x0 x1 x2 xf co cq cf
          have HO1' : Hid ((wr.setCell ⟨gw, s, none⟩ (.int .i64 (-1))).ownsRow gw 3 1 (.slice (some ⟨gw, 0, none⟩) 64 64) 64 ((padO (R ++ [-1]) (s + 1)).map (fun x => Value.int .i64 x))) := Lib.hid (by
            have h := HO1.out
            rw [← List.map_set (f := fun x => Value.int .i64 x), padO_set HRL.out hlt] at h
            exact h)
          have HL1 : Hid ((wr.setCell ⟨gw, s, none⟩ (.int .i64 (-1))).ownsRow gl 3 1 (.slice (some ⟨gl, 0, none⟩) 24 24) 24 ((loadsL R).map (fun x => Value.int .i64 x))) := Lib.hid (ownsRow_keep HLD.out ((Keep.refl (fun j => j = gw) wr).setCell (p := ⟨gw, s, none⟩) _ (.inl rfl)) (fun b hb e => by cases hb; have h5 : gl = gw := e; have := HGL.out; omega))
          clear HO1 HLD HOW
          have HK1 : Hid (Keep (fun j => j = gl ∨ j = gw) W4 (wr.setCell ⟨gw, s, none⟩ (.int .i64 (-1)))) := Lib.hid (HK.out.trans HKA.out)
          clear HKA HK HKW HXR
          generalize wr.setCell ⟨gw, s, none⟩ (.int .i64 (-1)) = U1 at *
          have cl := HL1.out.cellAt xn hn24
          rw [List.getElem?_map, loadsL_get hn24] at cl
          have cl : U1.cell? ⟨gl, xn, none⟩ = some (.int .i64 (cnt R xn)) := cl
          have cm := HK1.out.cell (HLC4.out xn hn24) (fun e => by
            have h1 := HGM.out
            have h2 := HGL.out
            rcases e with e | e
            · have h5 : gm = gl := e; omega
            · have h5 : gm = gw := e; omega)
          have hcn := cnt_nn R xn
          have hcl := cnt_len' R xn
          rw [HRL.out] at hcl
          have hlb := limitL_nn l xn
          have HSTAY : Hid (cnt R xn < limitL l xn → KeepAt l ow (s + 1) (R ++ [(xn : Int)])) := Lib.hid (fun h => HKP.out.stay HXX.out h)
          have HGO : Hid (¬ cnt R xn < limitL l xn → KeepAt l ow (s + 1) (R ++ [-1])) := Lib.hid (fun h => HKP.out.go HXX.out h)
          generalize hcx : cnt R xn = cx at *
          have HCX := Lib.hid hcx
          generalize limitL l xn = lx at *
          clear hcx
          go_quiet (fail)
          have HKN : Hid (Keep (fun _ => False) U1 (U1.drewN nq)) := Lib.hid ((Keep.refl (fun _ => False) U1).drewN nq)
          clear cl cm
          have HL2 := Lib.hid (ownsRow_keep HL1.out HKN.out (fun _ _ h => h))
          have HO2 := Lib.hid (ownsRow_keep HO1'.out HKN.out (fun _ _ h => h))
          have HK2 : Hid (Keep (fun j => j = gl ∨ j = gw) W4 (U1.drewN nq)) := Lib.hid (HK1.out.trans (HKN.out.mono (fun _ h => h.elim)))
          clear HL1 HO1' HK1 HKN
          generalize U1.drewN nq = U2 at *
          by_cases hroom : cx < lx
          · have HST := Lib.hid (HSTAY.out hroom)
            have cl := HL2.out.cellAt xn hn24
            rw [List.getElem?_map, loadsL_get hn24, HCX.out] at cl
            have cl : U2.cell? ⟨gl, xn, none⟩ = some (.int .i64 cx) := cl
            have clf : ∀ o, U2.frozen? ⟨gl, o, none⟩ = false := fun o => HL2.out.frozenAt o
            have hwc : IntKind.i64.wrap (cx + 1) = cx + 1 := wrapI (by unfold I64; omega)
            have HL3 : Hid ((U2.setCell ⟨gl, xn, none⟩ (.int .i64 (cx + 1))).ownsRow gl 3 1 (.slice (some ⟨gl, 0, none⟩) 24 24) 24 ((loadsL (R ++ [(xn : Int)])).map (fun x => Value.int .i64 x))) := Lib.hid (by
              have h := (HL2.out.stored xn (.int .i64 (cx + 1))).1
              have e := loadsL_snoc (ow := R) (n := xn) hn24
              rw [HCX.out] at e
              rw [← List.map_set (f := fun x => Value.int .i64 x), ← e] at h
              exact h)
            have HKS : Hid (Keep (fun j => j = gl) U2 (U2.setCell ⟨gl, xn, none⟩ (.int .i64 (cx + 1)))) := Lib.hid ((Keep.refl (fun j => j = gl) U2).setCell (p := ⟨gl, xn, none⟩) _ (.inl rfl))
            have HO3 := Lib.hid (ownsRow_keep HO2.out HKS.out (fun b hb e => by cases hb; have h5 : gw = gl := e; have := HGL.out; omega))
            have HK3 : Hid (Keep (fun j => j = gl ∨ j = gw) W4 (U2.setCell ⟨gl, xn, none⟩ (.int .i64 (cx + 1)))) := Lib.hid (HK2.out.trans (HKS.out.mono (fun j e => .inl e)))
            go_upto_region 19 with (fail)
            clear cl clf hwc HL2 HO2 HK2 HKS
            generalize U2.setCell ⟨gl, xn, none⟩ (.int .i64 (cx + 1)) = U3 at *
            have cq : ∃ y, U3.cell? ⟨gw, s, none⟩ = some (.int .i64 y) := by
              rw [HO3.out.cellAt s hlt, List.getElem?_map]
              obtain ⟨y, hy⟩ : ∃ y, (padO (R ++ [-1]) (s + 1))[s]? = some y := ⟨_, List.getElem?_eq_getElem (by rw [padO_len (by rw [List.length_append, HRL.out]; rfl) (by omega)]; exact hlt)⟩
              rw [hy]; exact ⟨y, rfl⟩
            obtain ⟨y1, cq⟩ := cq
            have cf : ∀ o, U3.frozen? ⟨gw, o, none⟩ = false := fun o => HO3.out.frozenAt o
            have HO4 : Hid ((U3.setCell ⟨gw, s, none⟩ (.int .i64 xn)).ownsRow gw 3 1 (.slice (some ⟨gw, 0, none⟩) 64 64) 64 ((padO (R ++ [(xn : Int)]) (s + 1)).map (fun x => Value.int .i64 x))) := Lib.hid (by
              have h := (HO3.out.stored s (.int .i64 xn)).1
              rw [← List.map_set (f := fun x => Value.int .i64 x), ← padO_set HRL.out hlt, List.set_set, padO_set HRL.out hlt] at h
              exact h)
            have HKS : Hid (Keep (fun j => j = gw) U3 (U3.setCell ⟨gw, s, none⟩ (.int .i64 xn))) := Lib.hid ((Keep.refl (fun j => j = gw) U3).setCell (p := ⟨gw, s, none⟩) _ (.inl rfl))
            have HL4 := Lib.hid (ownsRow_keep HL3.out HKS.out (fun b hb e => by cases hb; have h5 : gl = gw := e; have := HGL.out; omega))
            have HK5 : Hid (Keep (fun j => j = gl ∨ j = gw) W4 (U3.setCell ⟨gw, s, none⟩ (.int .i64 xn))) := Lib.hid (HK3.out.trans (HKS.out.mono (fun j e => .inr e)))
            clear HL3 HO3 HK3 HKS
            go_wp2_with fail
            clear cq cf
            generalize U3.setCell ⟨gw, s, none⟩ (.int .i64 xn) = U4 at *
            go_roundg (64 - (s + 1))
            case rel => exact ⟨s + 1, R ++ [(xn : Int)], by omega, by go_num, HST.out, HK5.out, HL4.out, HO4.out⟩
            case measure => omega
          · have HST := Lib.hid (HGO.out hroom)
            have HL3 : Hid (U2.ownsRow gl 3 1 (.slice (some ⟨gl, 0, none⟩) 24 24) 24 ((loadsL (R ++ [-1])).map (fun x => Value.int .i64 x))) := Lib.hid (by rw [loadsL_none]; exact HL2.out)
            go_wp2_with fail
            go_roundg (64 - (s + 1))
            case rel => exact ⟨s + 1, R ++ [-1], by omega, by go_num, HST.out, HK2.out, HL3.out, HO2.out⟩
            case measure => omega
        · have hs64 : s = 64 := by omega
          have HREF := Lib.hid (HKP.out.all hs64)
          have HOF : Hid (wr.ownsRow gw 3 1 (.slice (some ⟨gw, 0, none⟩) 64 64) 64 (R.map (fun x => Value.int .i64 x))) := Lib.hid (by
            have h := HOW.out
            rw [hs64, padO_all] at h
            exact h)
          have hsz : ¬ (s : Int) < 64 := by omega
          clear HKP HOW HXR HKW hs64
          go_upto_region 20 with (fail)
          clear hsz
          go_wp2_with fail
          go_loopg [14] 64 (fun gh v14 wr => ∃ (s : Nat) (R : List Int), gh + s = 64 ∧ v14 = .int .i64 s ∧ RefAt l ow s R ∧ Keep (fun j => j = gl ∨ j = gw) W4 wr ∧ wr.ownsRow gl 3 1 (.slice (some ⟨gl, 0, none⟩) 24 24) 24 ((loadsL R).map (fun x => Value.int .i64 x)) ∧ wr.ownsRow gw 3 1 (.slice (some ⟨gw, 0, none⟩) 64 64) 64 (R.map (fun x => Value.int .i64 x)))
          case atStart => exact ⟨0, R, by omega, rfl, HREF.out, HK.out, HLD.out, HOF.out⟩
          case round =>
            clear HREF HK HLD HOF
            obtain ⟨s, R, hs, rfl, href, hkeep, hld, how⟩ := hrel
            have HREF := Lib.hid href
            have HK := Lib.hid hkeep
            have HLD := Lib.hid hld
            have HOW := Lib.hid how
            have HKW : Hid (Keep (fun _ => False) w wr) := Lib.hid (HK4.out.trans' hkeep (fun j e => .inr (by have := HZ.out; have := HZL.out; have := HGL.out; rcases e with e | e <;> omega)))
            clear href hkeep hld how
            by_cases hlt : s < 64
            · have HRLN := Lib.hid (HREF.out.len HV.out HOL.out (by omega))
              obtain ⟨x, hx⟩ : ∃ x, R[s]? = some x := ⟨_, List.getElem?_eq_getElem (by rw [HRLN.out]; exact hlt)⟩
              have hxb := HREF.out.get HV.out HOL.out (by omega) hx
              have cq : wr.cell? ⟨gw, s, none⟩ = some (.int .i64 x) := by
                rw [HOW.out.cellAt s hlt, List.getElem?_map, hx]; rfl
              have HXX := Lib.hid hx
              have hsz : (s : Int) < 64 := by omega
              have hs0 : (0 : Int) ≤ (s : Int) := by omega
              clear hx
              by_cases hxm : x = -1
              · subst hxm
                obtain ⟨i0, nn, h1, h2, h3, h4, h5⟩ := HREF.out.home HV.out HOL.out hlt HXX.out
                have hol2 := ords_len HV.out (QS s)
                have HNODE := Lib.hid (fun (q : Nat) (y : Int) (h : (ords PN l (QS s))[q]? = some y) => ords_node HV.out h)
                have hd1 : (dig s).size ≤ 2 := dig_size (by omega)
                have HPT : Hid (∀ W, Calls Tryz.prog 43 #[.string ((⟨#[115, 108, 111, 116, 32]⟩ : ByteArray) ++ dig s)] W fun e w' => e = .returned (.int .i64 (QS s)) ∧ W = w') := Lib.hid (fun W => by
                  rw [slotT_ref']
                  exact refPoint_any _ (slotT_size (by omega)) W)
                have HDG : Hid (∀ W, Calls Tryz.prog 44 #[.int .i64 (s : Int)] W fun e w' => e = .returned (.string (dig s)) ∧ Keep (fun _ => False) W w') := Lib.hid (fun W => digits_any s (by omega) W)
                have HCW : Hid (∀ W, Mbs W (.slice (some ⟨lb, lo, none⟩) ln lc) l → Calls Tryz.prog 42 #[.slice (some ⟨lb, lo, none⟩) ln lc, .int .i64 (QS s)] W fun e w' => ∃ vo, e = .returned vo ∧ OwnI W (ords PN l (QS s)) vo w') := Lib.hid (fun W h => clockwise_any _ l (QS s) W h HV.out)
                generalize dig s = ds at *
                generalize ords PN l (QS s) = os at *
                obtain ⟨nO, hnO⟩ : ∃ n, os.length = n := ⟨_, rfl⟩
                have hi0 : i0 < nO := by have := (List.getElem?_eq_some_iff.1 h1).1; omega
                have HNO := Lib.hid hnO
                have HI0 := Lib.hid h1
                have HRM := Lib.hid h3
                have HFST := Lib.hid h4
                have HNEW := Lib.hid h5
                rw [hnO] at hol2
                have hz1 : ¬ (9223372036854775807 < 5 + ds.size) := by omega
                clear h1 h3 h4 h5 hnO hxb
                go_wp2_with fail
                clear cq
                with_reducible refine (HDG.out _).mono ?_
                rintro e Y ⟨rfl, kk⟩
                have HYS := Lib.hid kk
                clear kk
                go_wp2_with fail
                with_reducible refine (HPT.out _).mono ?_
                rintro e w' ⟨rfl, rfl⟩
                clear hz1 hd1 HDG HPT
                go_wp2_with fail
                with_reducible refine (HCW.out _ (HML.out.kept (HKW.out.trans HYS.out))).mono ?_
                rintro e Y2 ⟨vo, rfl, hoi⟩
                obtain ⟨ao, no, co, rfl, hno⟩ := hoi.slice
                rw [HNO.out] at hno
                subst hno
                have hoi2 := hoi.2
                rw [HNO.out] at hoi2
                obtain ⟨go, rfl⟩ := own_some' hoi2 (by omega)
                have HOC2 : Hid (∀ (q : Nat) (y : Int), os[q]? = some y → Y2.cell? ⟨go, q, none⟩ = some (.int .i64 y)) := Lib.hid (fun q y hq => by
                  rw [hoi2.cellAt q (by have := (List.getElem?_eq_some_iff.1 hq).1; have := HNO.out; omega), List.getElem?_map, hq]; rfl)
                have hnc : no ≤ co := by
                  rcases hoi2.2 with ⟨e1, -⟩ | ⟨g, c, cur, e1, _, _, hc, _⟩
                  · cases e1
                  · obtain ⟨-, -, rfl⟩ := Value.slice.inj e1
                    exact hc
                have HKY := Lib.hid (HYS.out.trans hoi.1)
                have HGO : Hid (gl < go ∧ gw < go) := Lib.hid (by
                  have h1 := (hoi2.lt go rfl).1
                  have h2 := HYS.out.size
                  have h3 := (HLD.out.lt gl rfl).2
                  have h4 := (HOW.out.lt gw rfl).2
                  omega)
                have HLD2 := Lib.hid (ownsRow_keep HLD.out HKY.out (fun _ _ h => h))
                have HOW2 := Lib.hid (ownsRow_keep HOW.out HKY.out (fun _ _ h => h))
                have HKY4 : Hid (Keep (fun j => j = gl ∨ j = gw) W4 Y2) := Lib.hid (HK.out.trans (HKY.out.mono (fun _ h => h.elim)))
                clear hoi hoi2 HLD HOW HK HYS HKY HCW
                go_wp2_with fail
                go_loopg [16] no (fun gh v16 wr => ∃ (i : Nat) (fd : Bool) (Q : List Int), gh + i = no ∧ v16 = .int .i64 i ∧ Keep (fun j => j = gl ∨ j = gw) Y2 wr ∧ wr.ownsRow gl 3 1 (.slice (some ⟨gl, 0, none⟩) 24 24) 24 ((loadsL Q).map (fun x => Value.int .i64 x)) ∧ wr.ownsRow gw 3 1 (.slice (some ⟨gw, 0, none⟩) 64 64) 64 (Q.map (fun x => Value.int .i64 x)) ∧ (fd = true → RefAt l ow (s + 1) Q ∧ ∃ y, Q[s]? = some y ∧ 0 ≤ y) ∧ (fd = false → Q = R ∧ ∀ (q : Nat) (y : Int), q < i → os[q]? = some y → limitL l y ≤ cnt R y))
                case atStart => exact ⟨0, false, R, by omega, rfl, Keep.refl _ _, HLD2.out, HOW2.out, (fun h => by cases h), fun _ => ⟨rfl, fun q y hq => by omega⟩⟩
                case round =>
                  clear HLD2 HOW2
                  obtain ⟨i, fd, Q, hi, rfl, hkeep, hld, how, ht, hf⟩ := hrel
                  have HKI := Lib.hid hkeep
                  have HLD := Lib.hid hld
                  have HOW := Lib.hid how
                  have hi0' : (0 : Int) ≤ (i : Int) := by omega
                  clear hkeep hld how
                  cases fd with
                  | true =>
                    obtain ⟨h1, y, h6, h7⟩ := ht rfl
                    have HREF2 := Lib.hid h1
                    have cq : wr.cell? ⟨gw, s, none⟩ = some (.int .i64 y) := by
                      rw [HOW.out.cellAt s hlt, List.getElem?_map, h6]; rfl
                    have HKE : Hid (Keep (fun j => j = gl ∨ j = gw) W4 wr) := Lib.hid (HKY4.out.trans HKI.out)
                    have hy0 : ¬ y < 0 := by omega
                    clear h1 h6 h7 ht hf
                    by_cases hin : i < no
                    · have hiz : (i : Int) < (no : Int) := by omega
                      go_wp2_with fail
                      clear cq
                      go_roundg (64 - (s + 1))
                      case rel => exact ⟨s + 1, Q, by omega, by go_num, HREF2.out, HKE.out, HLD.out, HOW.out⟩
                      case measure => omega
                    · have hiz : ¬ (i : Int) < (no : Int) := by omega
                      go_wp2_with fail
                      clear cq
                      go_roundg (64 - (s + 1))
                      case rel => exact ⟨s + 1, Q, by omega, by go_num, HREF2.out, HKE.out, HLD.out, HOW.out⟩
                      case measure => omega
                  | false =>
                    obtain ⟨rfl, hnone⟩ := hf rfl
                    have HNONE := Lib.hid hnone
                    clear ht hf hnone
                    have hin : i < no := by
                      rcases Nat.lt_or_ge i0 i with h | h
                      · have h6 := HNONE.out i0 nn h HI0.out
                        have h7 := HRM.out
                        omega
                      · omega
                    obtain ⟨y, hy⟩ : ∃ y, os[i]? = some y := ⟨_, List.getElem?_eq_getElem (by rw [HNO.out]; exact hin)⟩
                    have hyb := HNODE.out i y hy
                    obtain ⟨yn, rfl⟩ : ∃ n : Nat, y = n := ⟨y.toNat, by omega⟩
                    have hyn : yn < 24 := by omega
                    have hiz : (i : Int) < (no : Int) := by omega
                    have hy0 : (0 : Int) ≤ (yn : Int) := by omega
                    have hyz : (yn : Int) < 24 := by omega
                    have cq : wr.cell? ⟨gw, s, none⟩ = some (.int .i64 (-1)) := by
                      rw [HOW.out.cellAt s hlt, List.getElem?_map, HXX.out]; rfl
                    have co := HKI.out.cell (HOC2.out i yn hy) (fun e => by
                      have h1 := HGO.out
                      rcases e with e | e
                      · have h5 : go = gl := e; omega
                      · have h5 : go = gw := e; omega)
                    have cl : wr.cell? ⟨gl, yn, none⟩ = some (.int .i64 (cnt Q yn)) := by
                      rw [HLD.out.cellAt yn hyn, List.getElem?_map, loadsL_get hyn]; rfl
                    have cm := (HKY4.out.trans HKI.out).cell (HLC4.out yn hyn) (fun e => by
                      have h1 := HGM.out
                      have h2 := HGL.out
                      rcases e with e | e
                      · have h5 : gm = gl := e; omega
                      · have h5 : gm = gw := e; omega)
                    have hcn := cnt_nn Q yn
                    have hcl := cnt_len' Q yn
                    rw [HRLN.out] at hcl
                    have hlb := limitL_nn l yn
                    have HYY := Lib.hid hy
                    have HSAME : Hid (cnt Q yn < limitL l yn → yn = nn) := Lib.hid (fun h => by
                      have h8 : i = i0 := by
                        rcases Nat.lt_trichotomy i i0 with h9 | h9 | h9
                        · have := HFST.out i yn h9 HYY.out; omega
                        · exact h9
                        · have := HNONE.out i0 nn h9 HI0.out; have := HRM.out; omega
                      subst h8
                      have h9 := HYY.out
                      rw [HI0.out] at h9
                      have := Option.some.inj h9
                      omega)
                    have HLOW : Hid (¬ cnt Q yn < limitL l yn → ∀ (q : Nat) (y : Int), q < i + 1 → os[q]? = some y → limitL l y ≤ cnt Q y) := Lib.hid (fun h q y2 hq hy2 => by
                      by_cases e : q < i
                      · exact HNONE.out q y2 e hy2
                      · have e3 : q = i := by omega
                        rw [e3, HYY.out] at hy2
                        have e2 := Option.some.inj hy2
                        rw [← e2]
                        omega)
                    have HLS := Lib.hid (loadsL_set (n := yn) HXX.out hyn)
                    clear hy hyb
                    generalize cnt Q yn = cx at *
                    generalize limitL l yn = lx at *
                    by_cases hroom : cx < lx
                    · obtain rfl := HSAME.out hroom
                      have hwc : IntKind.i64.wrap (cx + 1) = cx + 1 := wrapI (by unfold I64; omega)
                      go_upto_region 28 with (fail)
                      go_quiet (fail)
                      have HKN : Hid (Keep (fun _ => False) wr (wr.drewN nq)) := Lib.hid ((Keep.refl (fun _ => False) wr).drewN nq)
                      have co2 := HKN.out.cell co (fun h => h)
                      have cl2 := HKN.out.cell cl (fun h => h)
                      have HL2 := Lib.hid (ownsRow_keep HLD.out HKN.out (fun _ _ h => h))
                      have HO2 := Lib.hid (ownsRow_keep HOW.out HKN.out (fun _ _ h => h))
                      have HK2 : Hid (Keep (fun j => j = gl ∨ j = gw) Y2 (wr.drewN nq)) := Lib.hid (HKI.out.trans (HKN.out.mono (fun _ h => h.elim)))
                      clear co cl cm cq HLD HOW HKI HKN
                      generalize wr.drewN nq = U2 at *
                      have clf : ∀ o, U2.frozen? ⟨gl, o, none⟩ = false := fun o => HL2.out.frozenAt o
                      have HL3 : Hid ((U2.setCell ⟨gl, yn, none⟩ (.int .i64 (cx + 1))).ownsRow gl 3 1 (.slice (some ⟨gl, 0, none⟩) 24 24) 24 ((loadsL (Q.set s (yn : Int))).map (fun x => Value.int .i64 x))) := Lib.hid (by
                        have h := (HL2.out.stored yn (.int .i64 (cx + 1))).1
                        rw [← List.map_set (f := fun x => Value.int .i64 x), ← HLS.out] at h
                        exact h)
                      have HKS : Hid (Keep (fun j => j = gl) U2 (U2.setCell ⟨gl, yn, none⟩ (.int .i64 (cx + 1)))) := Lib.hid ((Keep.refl (fun j => j = gl) U2).setCell (p := ⟨gl, yn, none⟩) _ (.inl rfl))
                      have HO3 := Lib.hid (ownsRow_keep HO2.out HKS.out (fun b hb e => by cases hb; have h5 : gw = gl := e; have := HGL.out; omega))
                      have HK3 : Hid (Keep (fun j => j = gl ∨ j = gw) Y2 (U2.setCell ⟨gl, yn, none⟩ (.int .i64 (cx + 1)))) := Lib.hid (HK2.out.trans (HKS.out.mono (fun j e => .inl e)))
                      have co3 := HKS.out.cell co2 (fun e => by have h5 : go = gl := e; have := HGO.out; omega)
                      go_upto_region 30 with (fail)
                      clear co2 cl2 clf hwc HL2 HO2 HK2 HKS
                      generalize U2.setCell ⟨gl, yn, none⟩ (.int .i64 (cx + 1)) = U3 at *
                      have cq : U3.cell? ⟨gw, s, none⟩ = some (.int .i64 (-1)) := by
                        rw [HO3.out.cellAt s hlt, List.getElem?_map, HXX.out]; rfl
                      have cf : ∀ o, U3.frozen? ⟨gw, o, none⟩ = false := fun o => HO3.out.frozenAt o
                      have HO4 : Hid ((U3.setCell ⟨gw, s, none⟩ (.int .i64 yn)).ownsRow gw 3 1 (.slice (some ⟨gw, 0, none⟩) 64 64) 64 ((Q.set s (yn : Int)).map (fun x => Value.int .i64 x))) := Lib.hid (by
                        have h := (HO3.out.stored s (.int .i64 yn)).1
                        rw [← List.map_set (f := fun x => Value.int .i64 x)] at h
                        exact h)
                      have HKS : Hid (Keep (fun j => j = gw) U3 (U3.setCell ⟨gw, s, none⟩ (.int .i64 yn))) := Lib.hid ((Keep.refl (fun j => j = gw) U3).setCell (p := ⟨gw, s, none⟩) _ (.inl rfl))
                      have HL4 := Lib.hid (ownsRow_keep HL3.out HKS.out (fun b hb e => by cases hb; have h5 : gl = gw := e; have := HGL.out; omega))
                      have HK5 : Hid (Keep (fun j => j = gl ∨ j = gw) Y2 (U3.setCell ⟨gw, s, none⟩ (.int .i64 yn))) := Lib.hid (HK3.out.trans (HKS.out.mono (fun j e => .inr e)))
                      have HGET : Hid ((Q.set s (yn : Int))[s]? = some (yn : Int)) := Lib.hid (List.getElem?_set_self (by rw [HRLN.out]; exact hlt))
                      clear HL3 HO3 HK3 HKS
                      go_wp2_with fail
                      clear cq cf co3
                      generalize U3.setCell ⟨gw, s, none⟩ (.int .i64 yn) = U4 at *
                      go_roundg (no - (i + 1))
                      case rel => exact ⟨i + 1, true, Q.set s (yn : Int), by omega, by go_num, HK5.out, HL4.out, HO4.out, fun _ => ⟨HNEW.out, yn, HGET.out, hy0⟩, fun h => by cases h⟩
                      case measure => omega
                    · have HLW := Lib.hid (HLOW.out hroom)
                      go_upto_region 28 with (fail)
                      go_quiet (fail)
                      have HKN : Hid (Keep (fun _ => False) wr (wr.drewN nq)) := Lib.hid ((Keep.refl (fun _ => False) wr).drewN nq)
                      have HL2 := Lib.hid (ownsRow_keep HLD.out HKN.out (fun _ _ h => h))
                      have HO2 := Lib.hid (ownsRow_keep HOW.out HKN.out (fun _ _ h => h))
                      have HK2 : Hid (Keep (fun j => j = gl ∨ j = gw) Y2 (wr.drewN nq)) := Lib.hid (HKI.out.trans (HKN.out.mono (fun _ h => h.elim)))
                      clear co cl cm cq HLD HOW HKI HKN
                      generalize wr.drewN nq = U2 at *
                      go_wp2_with fail
                      go_roundg (no - (i + 1))
                      case rel => exact ⟨i + 1, false, Q, by omega, by go_num, HK2.out, HL2.out, HO2.out, (fun h => by cases h), fun _ => ⟨rfl, HLW.out⟩⟩
                      case measure => omega
              · have hx0 : 0 ≤ x := by omega
                have HREF2 := Lib.hid (HREF.out.skip HXX.out hxm)
                clear hxb hxm
                go_wp2_with fail
                clear cq
                go_roundg (64 - (s + 1))
                case rel => exact ⟨s + 1, R, by omega, by go_num, HREF2.out, HK.out, HLD.out, HOW.out⟩
                case measure => omega
            · have hsz : ¬ (s : Int) < 64 := by omega
              obtain rfl := HLAST.out s R HREF.out (by omega)
              have HXE := Lib.hid (HX4.out.keep HK.out (fun e => by have := HZL.out; have := HGL.out; rcases e with e | e <;> omega))
              have HYE := Lib.hid (HY4.out.keep HK.out (fun e => by have := HZL.out; have := HGL.out; rcases e with e | e <;> omega))
              have hwe : IntKind.i64.wrap (ep + 1) = ep + 1 := wrapI (by unfold I64; omega)
              go_upto_region 31 with (fail)
              have x0 : ∀ p : KA (fun j => j = z + 1) wr, p.val.cell? ⟨z, 0, none⟩ = some (.int .i64 ep) := fun p => p.k.cell HXE.out.1 (fun e => by have h5 : z = z + 1 := e; omega)
              refine wp_region_walk [(true, 0), (true, 1), (true, 2), (true, 4), (true, 6), (false, 3), (false, 5), (false, 7), (false, 8), (false, 9)] (inKA (fun j => j = z + 1) wr) (by kernel_rfl) (by kernel_rfl) ?_
              iterate 5 (refine walkW_read rfl (fun K hK => ?_); go_simp; refine hK _ ?_; clear hK K)
              clear x0 hwe
              have HKD : Hid (Keep (fun _ => False) wr wr.drew) := Lib.hid (Keep.refl _ wr).drew
              generalize wr.drew = V1 at *
              obtain ⟨ga, gc, V2, hr, k2, hown⟩ := lit_mbs V1 (.slice (some ⟨lb, lo, none⟩) ln lc) l (HML.out.kept (HKW.out.trans HKD.out)) (by have := HLN.out; omega)
              have HR := Lib.hid hr
              have HM2 := Lib.hid hown
              rw [HLN.out] at HR HM2
              have HK2 : Hid (Keep (fun _ => False) wr V2) := Lib.hid (HKD.out.trans k2)
              have HY2 := Lib.hid (HYE.out.kept HK2.out)
              have HOW2 := Lib.hid (ownsRow_keep HOW.out HK2.out (fun _ _ h => h))
              have HKA : Hid (Keep (fun _ => False) V1 (V1.alloc (.cells #[] 44))) := Lib.hid ((Keep.refl _ V1).alloc _)
              clear hr hown k2
              refine walkW_do rfl (inKA.of (HKD.out.mono (fun _ h => h.elim))) (fun K hK => ?_)
              go_simp
              refine hK _ _ ?_; clear hK K
              refine walkW_do rfl (inKA.of ((HKD.out.trans HKA.out).mono (fun _ h => h.elim))) (fun K hK => ?_)
              rw [if_pos (by first | rfl | simp [Region.wanted, yielded])]
              refine wp_app (.tmp 138) (.tmp 139) 22 rfl rfl rfl HR.out (hK _ _ ?_); clear hK K
              refine walkW_do rfl (inKA.of (HK2.out.mono (fun _ h => h.elim))) (fun K hK => ?_)
              go_simp
              refine hK _ _ ?_; clear hK K
              obtain ⟨y0, y1, y2, yf⟩ := HY2.out
              refine walkW_do rfl (inKA.of (HK2.out.mono (fun _ h => h.elim))) (fun K hK => ?_)
              go_simp
              refine hK _ _ ?_; clear hK K
              have g := ((HY2.out.set0 (.int .i64 (ep + 1))).set1 (.slice ga ln gc)).set2 (.slice (some ⟨gw, 0, none⟩) 64 64)
              have kq : Keep (fun j => j = z + 1) V2 (((V2.setCell ⟨z + 1, 0, none⟩ (.int .i64 (ep + 1))).setCell ⟨z + 1, 1, none⟩ (.slice ga ln gc)).setCell ⟨z + 1, 2, none⟩ (.slice (some ⟨gw, 0, none⟩) 64 64)) := (((Keep.refl (fun j => j = z + 1) V2).setCell (p := ⟨z + 1, 0, none⟩) _ (.inl rfl)).setCell (p := ⟨z + 1, 1, none⟩) _ (.inl rfl)).setCell (p := ⟨z + 1, 2, none⟩) _ (.inl rfl)
              have HSZ1 : Hid (z + 1 < V1.heap.size) := Lib.hid (by have h1 := HYE.out.lt; have h2 := HKD.out.size; omega)
              have HFM := Lib.hid (ownsRow_keep HM2.out kq (fun b hb e => by have h5 : b = z + 1 := e; have h6 := (HM2.out.lt b hb).1; have := HSZ1.out; omega))
              have HFO := Lib.hid (ownsRow_keep HOW2.out kq (fun b hb e => by cases hb; have h5 : gw = z + 1 := e; have := HZL.out; have := HGL.out; omega))
              have HFK := Lib.hid ((HKW.out.trans HK2.out).trans' kq (fun j e => .inr (by have h5 : j = z + 1 := e; have := HZ.out; omega)))
              have HSW : Hid (w.heap.size ≤ V1.heap.size) := Lib.hid (HKW.out.trans HKD.out).size
              have HFA : Hid (Keep (fun j => j = z + 1) wr (((V2.setCell ⟨z + 1, 0, none⟩ (.int .i64 (ep + 1))).setCell ⟨z + 1, 1, none⟩ (.slice ga ln gc)).setCell ⟨z + 1, 2, none⟩ (.slice (some ⟨gw, 0, none⟩) 64 64))) := Lib.hid ((HK2.out.mono (fun _ h => h.elim)).trans kq)
              clear y0 y1 y2 yf kq
              generalize ((V2.setCell ⟨z + 1, 0, none⟩ (.int .i64 (ep + 1))).setCell ⟨z + 1, 1, none⟩ (.slice ga ln gc)).setCell ⟨z + 1, 2, none⟩ (.slice (some ⟨gw, 0, none⟩) 64 64) = WF at *
              obtain ⟨g0, g1, g2, -⟩ := g
              refine walkW_do rfl (inKA.of HFA.out) (fun K hK => ?_)
              go_simp
              refine hK _ _ ?_; clear hK K
              refine ⟨inKA.of HFA.out, ?_⟩
              go_wp2_with fail
              refine bodyPost_ret (v := .tuple #[.agg #[.int .i64 (ep + 1), .slice ga ln gc, .slice (some ⟨gw, 0, none⟩) 64 64], .int .i64 0]) (by simp [results, Tryz.results9, go_sem, g0, g1, g2]) rfl ?_
              refine ⟨ga, gc, some ⟨gw, 0, none⟩, 64, by rw [HLN.out, HCH.out], ?_, ?_, HFK.out⟩
              · rw [HLN.out]; exact ownsRow_lo HFM.out HSW.out
              · rw [HCH.out]; exact ownsRow_lo HFO.out (by have h1 := HK3.out.size; have h2 := HK23.out.size; have h3 := HGWW.out; omega)
end Go.Proofs.YtiacdkggbnoigaaGreatDoor

/-
  The reference's find and Without.
-/
namespace Go.Proofs.YtiacdkggbnoigaaGreatDoor
open Go.RowKit Go.Shelf

/-- The index of a node among members, or -1. -/
def findR : List Mb → Int → Int
  | [], _ => -1
  | m :: l, n => if m.node = n then 0 else if findR l n < 0 then -1 else findR l n + 1
theorem findR_bd : ∀ (l : List Mb) (n : Int), -1 ≤ findR l n ∧ findR l n < l.length
  | [], _ => by simp [findR]
  | m :: l, n => by
    have := findR_bd l n
    unfold findR
    rw [List.length_cons]
    split
    · omega
    · split <;> omega
theorem findR_hit {n : Int} : ∀ {l : List Mb} {i : Nat} {m : Mb}, l[i]? = some m → m.node = n → (∀ x ∈ l.take i, x.node ≠ n) → findR l n = i
  | [], i, m, h, _, _ => by simp at h
  | x :: l, 0, m, h, e, _ => by
    simp only [List.getElem?_cons_zero, Option.some.injEq] at h
    subst h
    unfold findR
    rw [if_pos e]
    rfl
  | x :: l, i + 1, m, h, e, hno => by
    rw [List.getElem?_cons_succ] at h
    rw [List.take_succ_cons] at hno
    have h1 := findR_hit h e (fun y hy => hno y (List.mem_cons_of_mem _ hy))
    unfold findR
    rw [if_neg (hno x List.mem_cons_self), h1, if_neg (by omega)]
    rfl
theorem findR_none {n : Int} : ∀ {l : List Mb}, (∀ x ∈ l, x.node ≠ n) → findR l n = -1
  | [], _ => rfl
  | x :: l, h => by
    unfold findR
    rw [if_neg (h x List.mem_cons_self), findR_none (fun y hy => h y (List.mem_cons_of_mem _ hy))]
    rfl
theorem findR_has (l : List Mb) (n : Int) : decide (findR l n < 0) = !hasN l n := by
  induction l with
  | nil => rfl
  | cons m l ih =>
    have h := findR_bd l n
    unfold findR hasN
    rw [List.any_cons]
    by_cases e : m.node = n
    · rw [if_pos e]; simp [e]
    · rw [if_neg e]
      have ih' : decide (findR l n < 0) = !l.any (fun m => decide (m.node = n)) := ih
      by_cases h2 : findR l n < 0
      · rw [if_pos h2]
        rw [decide_eq_true h2] at ih'
        simp [e, ← ih']
      · rw [if_neg h2]
        rw [decide_eq_false h2] at ih'
        have : ¬ findR l n + 1 < 0 := by omega
        simp only [this, decide_false, decide_eq_false e, Bool.false_or]
        exact ih'
set_option maxRecDepth 100000 in
set_option maxHeartbeats 2000000 in
theorem find_any (v : Value) (l : List Mb) (n : Int) (w : World) (h : Mbs w v l) : Calls Tryz.prog 50 #[v, .int .i64 n] w fun e w' => e = .returned (.int .i64 (findR l n)) ∧ w = w' := by
  obtain ⟨hl15, -, a, c, b, off, rfl, hc, ha, hcell⟩ := h
  obtain ⟨ln, hln⟩ : ∃ n, l.length = n := ⟨_, rfl⟩
  rw [hln] at hc ha hl15 ⊢
  have HC := Lib.hid hcell
  have HA := Lib.hid ha
  have HLN := Lib.hid hln
  clear hcell ha hln
  go_enter Tryz.func50, Tryz.ntmps50
  go_wp2_with fail
  go_loopg [5] ln (fun gh v5 wr => ∃ k : Nat, gh + k = ln ∧ v5 = .int .i64 k ∧ (∀ x ∈ l.take k, x.node ≠ n) ∧ wr = w)
  case atStart => exact ⟨0, by omega, rfl, fun x hx => by simp at hx, rfl⟩
  case round =>
    obtain ⟨k, hk, rfl, hno, rfl⟩ := hrel
    have HNO := Lib.hid hno
    clear hno
    by_cases hlt : k < ln
    · obtain ⟨x, hx⟩ : ∃ x, l[k]? = some x := ⟨_, List.getElem?_eq_getElem (by have := HLN.out; omega)⟩
      obtain rfl := HA.out (by omega)
      obtain ⟨c0, -, -⟩ := HC.out k x hx
      have HXX := Lib.hid hx
      have hkz : (k : Int) < (ln : Int) := by omega
      have hk0 : (0 : Int) ≤ (k : Int) := by omega
      clear hx
      by_cases e : x.node = n
      · have HE := Lib.hid (findR_hit HXX.out e HNO.out)
        have hb : (x.node == n) = true := by simpa using e
        generalize x.node = x0 at *
        clear e
        go_wp2_with fail
        go_ret
        exact ⟨by rw [HE.out]; first | done | rfl, rfl⟩
      · have HN2 : Hid (∀ y ∈ l.take (k + 1), y.node ≠ n) := Lib.hid (by
          intro y hy
          rw [List.take_add_one, HXX.out] at hy
          rcases List.mem_append.1 hy with h | h
          · exact HNO.out y h
          · simp only [Option.toList_some, List.mem_singleton] at h
            subst h
            exact e)
        have hb : (x.node == n) = false := by simpa using e
        generalize x.node = x0 at *
        clear e
        go_wp2_with fail
        clear c0 hb
        go_roundg (ln - (k + 1))
        case rel => exact ⟨k + 1, by omega, by go_num, HN2.out, rfl⟩
        case measure => omega
    · obtain rfl : k = ln := by omega
      have HE : Hid (findR l n = -1) := Lib.hid (findR_none (fun x hx => HNO.out x (by rw [List.take_of_length_le (by have := HLN.out; omega)]; exact hx)))
      go_wp2_with fail
      go_ret
      exact ⟨by rw [HE.out]; first | done | rfl, rfl⟩

theorem filter_take_next {l : List Mb} {n : Int} {k : Nat} {x : Mb} (h : l[k]? = some x) : (l.take (k + 1)).filter (notN n) = (l.take k).filter (notN n) ++ if x.node = n then [] else [x] := by
  rw [List.take_add_one, h, List.filter_append]
  congr 1
  by_cases e : x.node = n <;> simp [notN, e]
set_option maxRecDepth 100000 in
set_option maxHeartbeats 4000000 in
theorem without_any (v : Value) (l : List Mb) (n : Int) (w : World) (h : Mbs w v l) (hl : l.length ≤ 1000) : Calls Tryz.prog 51 #[v, .int .i64 n] w (OwnPost (l.filter (notN n)) w) := by
  obtain ⟨-, -, a, c, b, off, rfl, hc, ha, hcell⟩ := h
  obtain ⟨ln, hln⟩ : ∃ n, l.length = n := ⟨_, rfl⟩
  rw [hln] at hc ha hl ⊢
  have HC := Lib.hid hcell
  have HA := Lib.hid ha
  have HLN := Lib.hid hln
  clear hcell ha hln
  go_enter Tryz.func51, Tryz.ntmps51
  go_wp2_with fail
  have HW0 : Hid (OwnB w ((l.take 0).filter (notN n)) (.slice none 0 0) w) := Lib.hid (OwnB.nil (Keep.refl _ w))
  go_loopg [5, 6] ln (fun gh v5 v6 wr => ∃ k : Nat, gh + k = ln ∧ v6 = .int .i64 k ∧ OwnB w ((l.take k).filter (notN n)) v5 wr)
  case atStart => exact ⟨0, by omega, rfl, HW0.out⟩
  case round =>
    obtain ⟨k, hk, rfl, hown⟩ := hrel
    have HOW := Lib.hid hown
    clear hown
    by_cases hlt : k < ln
    · obtain ⟨x, hx⟩ : ∃ x, l[k]? = some x := ⟨_, List.getElem?_eq_getElem (by have := HLN.out; omega)⟩
      obtain rfl := HA.out (by omega)
      obtain ⟨c0, c1, c2⟩ := HC.out k x hx
      have c0 := HOW.out.1.cell c0 (fun h => h)
      have c1 := HOW.out.1.cell c1 (fun h => h)
      have c2 := HOW.out.1.cell c2 (fun h => h)
      have HNX := Lib.hid (filter_take_next (n := n) hx)
      have hkz : (k : Int) < (ln : Int) := by omega
      have hk0 : (0 : Int) ≤ (k : Int) := by omega
      have HFL : Hid (((l.take k).filter (notN n)).length ≤ 1000) := Lib.hid (by
        have h1 := List.length_filter_le (notN n) (l.take k)
        have h2 : (l.take k).length ≤ k := List.length_take_le _ _
        omega)
      clear hx
      obtain ⟨x0, x1, x2⟩ := x
      simp only [] at c0 c1 c2 HNX
      by_cases e : x0 = n
      · rw [if_pos e, List.append_nil] at HNX
        have hb : (x0 != n) = false := by simpa using e
        clear e
        go_wp2_with fail
        clear c0 c1 c2 hb
        go_roundg (ln - (k + 1))
        case rel => exact ⟨k + 1, by omega, by go_num, by rw [HNX.out]; exact HOW.out⟩
        case measure => omega
      · rw [if_neg e] at HNX
        have hb : (x0 != n) = true := by simpa using e
        clear e
        obtain ⟨v', Y1, hr, hn, -, -⟩ := HOW.out.snoc ⟨x0, x1, x2⟩ (by have := HFL.out; omega)
        simp only [] at hr
        rw [← HNX.out] at hn
        have HR := Lib.hid hr
        have HN := Lib.hid hn
        clear hr hn
        go_wp2_with (at_builtin; refine wpList_app rfl (.tmp 20) (.tmp 25) 22 rfl rfl rfl HR.out ?_)
        clear c0 c1 c2 hb
        go_roundg (ln - (k + 1))
        case rel => exact ⟨k + 1, by omega, by go_num, HN.out⟩
        case measure => omega
    · obtain rfl : k = ln := by omega
      have HE : Hid (l.take k = l) := Lib.hid (List.take_of_length_le (by have := HLN.out; omega))
      rw [HE.out] at HOW
      go_wp2_with fail
      go_ret
      exact ⟨_, rfl, HOW.out⟩
end Go.Proofs.YtiacdkggbnoigaaGreatDoor

/-
  The reference's Change (both ways), Join and Leave.
-/
namespace Go.Proofs.YtiacdkggbnoigaaGreatDoor
open Go.RowKit Go.Shelf

theorem refChangeU (v vl : Value) (ep : Int) (lr l : List Mb) (ow : List Int) (w : World) (h : Rng w v ep lr ow) (hl : Mbs w vl l) : Calls Tryz.prog 9 #[v, vl] w (RingRes (chOk ep lr l ow) (ep + 1) l (changeL PN QS l ow) w) := by
  unfold chOk
  cases h1 : validRB ep lr ow with
  | false => exact (refChange_bad v vl ep lr l ow w h hl (.inl h1)).mono (fun _ _ => RingRes.bad)
  | true =>
    cases h2 : validL l with
    | false => exact (refChange_bad v vl ep lr l ow w h hl (.inr (.inl h2))).mono (fun _ _ => RingRes.bad)
    | true =>
      by_cases h3 : ep < 1000000
      · rw [decide_eq_true h3]
        exact (refChange_ok v vl ep lr l ow w h h1 h3 hl ((validL_iff l).1 h2)).mono (fun _ _ => RingRes.ok')
      · rw [decide_eq_false h3]
        exact (refChange_bad v vl ep lr l ow w h hl (.inr (.inr (by omega)))).mono (fun _ _ => RingRes.bad)

set_option maxRecDepth 100000 in
set_option maxHeartbeats 8000000 in
theorem refJoin_any (v : Value) (ep : Int) (lr : List Mb) (ow : List Int) (m : Mb) (w : World) (h : Rng w v ep lr ow) (hm : I64 m.node ∧ I64 m.region ∧ I64 m.weight) (hl : lr.length ≤ 100) : Calls Tryz.prog 22 #[v, mbV m] w (RingRes (joinOk ep lr ow m) (ep + 1) (moreM lr m) (changeL PN QS (moreM lr m) ow) w) := by
  have HRG := Lib.hid h
  have HMI := Lib.hid hm
  obtain ⟨hb0, vm, vo, rfl, hm0, ho0⟩ := h
  have HML := Lib.hid hm0
  obtain ⟨ma, mn, mc, rfl⟩ : ∃ a n c, vm = .slice a n c := by obtain ⟨a, c, b, off, h, _⟩ := hm0.at_; exact ⟨_, _, _, h⟩
  obtain ⟨oa, on, oc, rfl⟩ : ∃ a n c, vo = .slice a n c := by obtain ⟨a, c, b, off, h, _⟩ := ho0.at_; exact ⟨_, _, _, h⟩
  clear hm0 hb0 ho0 hm
  obtain ⟨m0, m1, m2⟩ := m
  simp only [mbV] at HMI ⊢
  obtain ⟨mb, hmb⟩ : ∃ mb : Mb, (⟨m0, m1, m2⟩ : Mb) = mb := ⟨_, rfl⟩
  have HMB := Lib.hid hmb
  clear hmb
  have HX := Lib.hid (Box3.new w (.int .i64 ep) (.slice ma mn mc) (.slice oa on oc) 25)
  have HY := Lib.hid (Box3.new (w.alloc (.cells #[.int .i64 ep, .slice ma mn mc, .slice oa on oc] 25)) (.int .i64 m0) (.int .i64 m1) (.int .i64 m2) 44)
  have HU := Lib.hid (Box3.new ((w.alloc (.cells #[.int .i64 ep, .slice ma mn mc, .slice oa on oc] 25)).alloc (.cells #[.int .i64 m0, .int .i64 m1, .int .i64 m2] 44)) (.int .i64 0) (.slice none 0 0) (.slice none 0 0) 25)
  have k1 : Keep (fun _ => False) w (w.alloc (.cells #[.int .i64 ep, .slice ma mn mc, .slice oa on oc] 25)) := (Keep.refl _ w).alloc _
  have k2 : Keep (fun _ => False) (w.alloc (.cells #[.int .i64 ep, .slice ma mn mc, .slice oa on oc] 25)) ((w.alloc (.cells #[.int .i64 ep, .slice ma mn mc, .slice oa on oc] 25)).alloc (.cells #[.int .i64 m0, .int .i64 m1, .int .i64 m2] 44)) := (Keep.refl _ _).alloc _
  have k3 : Keep (fun _ => False) ((w.alloc (.cells #[.int .i64 ep, .slice ma mn mc, .slice oa on oc] 25)).alloc (.cells #[.int .i64 m0, .int .i64 m1, .int .i64 m2] 44)) (((w.alloc (.cells #[.int .i64 ep, .slice ma mn mc, .slice oa on oc] 25)).alloc (.cells #[.int .i64 m0, .int .i64 m1, .int .i64 m2] 44)).alloc (.cells #[.int .i64 0, .slice none 0 0, .slice none 0 0] 25)) := (Keep.refl _ _).alloc _
  have HX0 := Lib.hid (HX.out.kept (k2.trans k3))
  have HY0 := Lib.hid (HY.out.kept k3)
  have HK0 := Lib.hid (k1.trans (k2.trans k3))
  simp only [World.size_alloc] at HY0 HU
  clear k1 k2 k3 HX HY
  obtain ⟨hc, hhc⟩ : ∃ b, hasN lr m0 = b := ⟨_, rfl⟩
  have HHC := Lib.hid hhc
  have hfr := findR_has lr m0
  rw [hhc] at hfr
  obtain ⟨fr, hfe⟩ : ∃ x, findR lr m0 = x := ⟨_, rfl⟩
  rw [hfe] at hfr
  have HFIND : Hid (∀ W, Keep (fun _ => False) w W → Calls Tryz.prog 50 #[.slice ma mn mc, .int .i64 m0] W fun e w' => e = .returned (.int .i64 fr) ∧ W = w') := Lib.hid (fun W k => by rw [← hfe]; exact find_any _ lr m0 W (HML.out.kept k))
  clear hhc hfe
  go_enter Tryz.func22, Tryz.ntmps22
  go_upto_region 1 with (fail)
  generalize ((w.alloc (.cells #[.int .i64 ep, .slice ma mn mc, .slice oa on oc] 25)).alloc (.cells #[.int .i64 m0, .int .i64 m1, .int .i64 m2] 44)).alloc (.cells #[.int .i64 0, .slice none 0 0, .slice none 0 0] 25) = W4 at *
  generalize hz : w.heap.size = z at HX0 HY0 HU ⊢
  have HZ := Lib.hid hz
  clear hz
  obtain ⟨x0, x1, x2, xf⟩ := HX0.out
  obtain ⟨y0, y1, y2, yf⟩ := HY0.out
  go_wp2_with fail
  clear x0 x1 x2 xf y0 y1 y2 yf
  with_reducible refine (HFIND.out W4 HK0.out).mono ?_
  rintro e w' ⟨rfl, rfl⟩
  cases hc with
  | true =>
    have hge : (0 : Int) ≤ fr := by simp at hfr; omega
    have HJ : Hid (joinOk ep lr ow ⟨m0, m1, m2⟩ = false) := Lib.hid (by unfold joinOk; rw [show hasN lr (⟨m0, m1, m2⟩ : Mb).node = true from HHC.out]; rfl)
    clear hfr
    obtain ⟨u0, u1, u2, uf⟩ := HU.out
    go_wp2_with fail
    clear u0 u1 u2 uf
    obtain ⟨g0, g1, g2, -⟩ := ((HU.out.set0 (.int .i64 0)).set1 (.slice none 0 0)).set2 (.slice none 0 0)
    have kf : Keep (fun _ => False) w (((W4.setCell ⟨z + 1 + 1, 0, none⟩ (.int .i64 0)).setCell ⟨z + 1 + 1, 1, none⟩ (.slice none 0 0)).setCell ⟨z + 1 + 1, 2, none⟩ (.slice none 0 0)) := HK0.out.trans' ((((Keep.refl (fun j => j = z + 1 + 1) W4).setCell (p := ⟨z + 1 + 1, 0, none⟩) _ (.inl rfl)).setCell (p := ⟨z + 1 + 1, 1, none⟩) _ (.inl rfl)).setCell (p := ⟨z + 1 + 1, 2, none⟩) _ (.inl rfl)) (fun j e => .inr (by have h5 : j = z + 1 + 1 := e; have := HZ.out; omega))
    generalize ((W4.setCell ⟨z + 1 + 1, 0, none⟩ (.int .i64 0)).setCell ⟨z + 1 + 1, 1, none⟩ (.slice none 0 0)).setCell ⟨z + 1 + 1, 2, none⟩ (.slice none 0 0) = WF at *
    refine bodyPost_ret (v := .tuple #[ringV 0 (.slice none 0 0) (.slice none 0 0), .int .i64 120]) (by simp [results, Tryz.results22, go_sem, g0, g1, g2]) rfl ?_
    rw [HJ.out]
    exact RingRes.bad ⟨rfl, kf⟩
  | false =>
    have hge : ¬ (0 : Int) ≤ fr := by simp at hfr; omega
    have HNM : Hid (∀ x ∈ lr, x.node ≠ mb.node) := Lib.hid (by rw [← HMB.out]; exact hasN_false HHC.out)
    have HJ : Hid (joinOk ep lr ow ⟨m0, m1, m2⟩ = chOk ep lr (insW lr mb) ow ∧ (chOk ep lr (insW lr mb) ow = true → insW lr mb = moreM lr mb)) := Lib.hid (by
      have hmo : validRB ep lr ow = true → insW lr mb = moreM lr mb := fun h => insW_more ((validRB_iff ep lr ow).1 h).2.2.1.asc HNM.out
      unfold joinOk
      rw [show hasN lr (⟨m0, m1, m2⟩ : Mb).node = false from HHC.out, HMB.out]
      unfold chOk
      cases hv : validRB ep lr ow with
      | true => rw [hmo hv]; exact ⟨rfl, fun _ => rfl⟩
      | false => exact ⟨rfl, fun h => by cases h⟩)
    have HWI : Hid (∀ W, Keep (fun _ => False) w W → Calls Tryz.prog 28 #[.slice ma mn mc, .agg #[.int .i64 m0, .int .i64 m1, .int .i64 m2]] W (OwnPost (insW lr mb) W)) := Lib.hid (fun W k => by
      have := withG_any _ lr mb W (HML.out.kept k) (by omega)
      rw [← HMB.out] at this ⊢
      exact this)
    have HBD : Hid (∀ x ∈ insW lr mb, I64 x.node ∧ I64 x.region ∧ I64 x.weight) := Lib.hid (by
      intro x hx
      rcases insW_mem hx with hx | hx
      · rw [hx, ← HMB.out]; exact HMI.out
      · exact HML.out.bd x hx)
    have HLEN : Hid ((insW lr mb).length ≤ 101) := Lib.hid (by rw [insW_len]; omega)
    clear hfr
    have x0 : ∀ p : KA (fun j => j = z + 1 + 1) W4, p.val.cell? ⟨z, 0, none⟩ = some (.int .i64 ep) := fun p => (HX0.out.keep p.k (by omega)).1
    have x1 : ∀ p : KA (fun j => j = z + 1 + 1) W4, p.val.cell? ⟨z, 1, none⟩ = some (.slice ma mn mc) := fun p => (HX0.out.keep p.k (by omega)).2.1
    have x2 : ∀ p : KA (fun j => j = z + 1 + 1) W4, p.val.cell? ⟨z, 2, none⟩ = some (.slice oa on oc) := fun p => (HX0.out.keep p.k (by omega)).2.2.1
    go_upto_region 3 with (fail)
    refine wp_region_walk [(true, 0), (true, 1), (true, 2), (false, 3), (false, 4), (false, 5), (true, 6), (false, 7), (false, 8), (false, 9)] (inKA (fun j => j = z + 1 + 1) W4) (by kernel_rfl) (by kernel_rfl) ?_
    iterate 3 (refine walkW_read rfl (fun K hK => ?_); go_simp; refine hK _ ?_; clear hK K)
    clear x0 x1 x2
    have HKD : Hid (Keep (fun _ => False) W4 W4.drew) := Lib.hid (Keep.refl _ W4).drew
    obtain ⟨y0, y1, y2, -⟩ := HY0.out.kept HKD.out
    generalize W4.drew = W5 at *
    refine walkW_do rfl (inKA.of (HKD.out.mono (fun _ h => h.elim))) (fun K hK => ?_)
    go_simp
    refine hK _ _ ?_; clear hK K
    clear y0 y1 y2
    refine walkW_do rfl (inKA.of (HKD.out.mono (fun _ h => h.elim))) (fun K hK => ?_)
    go_simp
    refine (HWI.out W5 (HK0.out.trans HKD.out)).mono ?_
    rintro e W7 ⟨vw, rfl, hop⟩
    obtain ⟨ga, gc, rfl⟩ := own_form hop.2
    have HK7 := Lib.hid (HKD.out.trans hop.1)
    have HMM : Hid (Mbs W7 (.slice ga (insW lr mb).length gc) (insW lr mb)) := Lib.hid (mbs_owns hop.2 (by have := HLEN.out; omega) HBD.out)
    clear hop HBD HLEN
    refine hK _ _ ?_; clear hK K
    have HCH := Lib.hid (refChangeU _ _ ep lr (insW lr mb) ow W7 (HRG.out.kept (HK0.out.trans HK7.out)) HMM.out)
    generalize (insW lr mb).length = nl at *
    refine walkW_do rfl (inKA.of (HK7.out.mono (fun _ h => h.elim))) (fun K hK => ?_)
    go_simp
    refine HCH.out.mono ?_
    rintro e W8 ⟨ep', l', ow', err, am, nm, cm, ao, no, co, q1, q2, q3, q4, rfl, r1, r2, k8⟩
    refine hK _ _ ?_; clear hK K
    have HK8 := Lib.hid (HK7.out.trans k8)
    have HR1 := Lib.hid r1
    have HR2 := Lib.hid r2
    have HQ := Lib.hid (And.intro q1 (And.intro q2 (And.intro q3 q4)))
    have HS7 : Hid (w.heap.size ≤ W7.heap.size ∧ z + 1 + 1 < W7.heap.size) := Lib.hid ⟨Nat.le_trans HK0.out.size HK7.out.size, Nat.lt_of_lt_of_le HU.out.lt HK7.out.size⟩
    clear q1 q2 q3 q4 r1 r2 k8 HCH
    refine walkW_read rfl (fun K hK => ?_)
    go_simp
    refine hK _ ?_; clear hK K
    refine walkW_do rfl (inKA.of (HK8.out.mono (fun _ h => h.elim))) (fun K hK => ?_)
    go_simp
    refine hK _ _ ?_; clear hK K
    have HU8 := Lib.hid (HU.out.kept HK8.out)
    obtain ⟨u0, u1, u2, uf⟩ := HU8.out
    refine walkW_do rfl (inKA.of (HK8.out.mono (fun _ h => h.elim))) (fun K hK => ?_)
    go_simp
    refine hK _ _ ?_; clear hK K
    clear u0 u1 u2 uf
    have kq : Keep (fun j => j = z + 1 + 1) W8 (((W8.setCell ⟨z + 1 + 1, 0, none⟩ (.int .i64 ep')).setCell ⟨z + 1 + 1, 1, none⟩ (.slice am nm cm)).setCell ⟨z + 1 + 1, 2, none⟩ (.slice ao no co)) := (((Keep.refl (fun j => j = z + 1 + 1) W8).setCell (p := ⟨z + 1 + 1, 0, none⟩) _ (.inl rfl)).setCell (p := ⟨z + 1 + 1, 1, none⟩) _ (.inl rfl)).setCell (p := ⟨z + 1 + 1, 2, none⟩) _ (.inl rfl)
    have HU9 := Lib.hid (((HU8.out.set0 (.int .i64 ep')).set1 (.slice am nm cm)).set2 (.slice ao no co))
    have HR19 := Lib.hid (ownsRow_keep HR1.out kq (fun b hb e => by have h5 : b = z + 1 + 1 := e; have := (HR1.out.lt b hb).1; have := HS7.out; omega))
    have HR29 := Lib.hid (ownsRow_keep HR2.out kq (fun b hb e => by have h5 : b = z + 1 + 1 := e; have := (HR2.out.lt b hb).1; have := HS7.out; omega))
    have HK9 : Hid (Keep (fun j => j = z + 1 + 1) W4 (((W8.setCell ⟨z + 1 + 1, 0, none⟩ (.int .i64 ep')).setCell ⟨z + 1 + 1, 1, none⟩ (.slice am nm cm)).setCell ⟨z + 1 + 1, 2, none⟩ (.slice ao no co))) := Lib.hid ((HK8.out.mono (fun _ h => h.elim)).trans kq)
    have HF9 : Hid (Keep (fun _ => False) w (((W8.setCell ⟨z + 1 + 1, 0, none⟩ (.int .i64 ep')).setCell ⟨z + 1 + 1, 1, none⟩ (.slice am nm cm)).setCell ⟨z + 1 + 1, 2, none⟩ (.slice ao no co))) := Lib.hid ((HK0.out.trans HK8.out).trans' kq (fun j e => .inr (by have h5 : j = z + 1 + 1 := e; have := HZ.out; omega)))
    clear kq
    generalize ((W8.setCell ⟨z + 1 + 1, 0, none⟩ (.int .i64 ep')).setCell ⟨z + 1 + 1, 1, none⟩ (.slice am nm cm)).setCell ⟨z + 1 + 1, 2, none⟩ (.slice ao no co) = W9 at *
    refine walkW_do rfl (inKA.of HK9.out) (fun K hK => ?_)
    go_simp
    refine hK _ _ ?_; clear hK K
    refine ⟨inKA.of HK9.out, ?_⟩
    go_wp2_with fail
    obtain ⟨g0, g1, g2, -⟩ := HU9.out
    refine bodyPost_ret (v := .tuple #[.agg #[.int .i64 ep', .slice am nm cm, .slice ao no co], .int .i64 err]) (by simp [results, Tryz.results22, go_sem, g0, g1, g2]) rfl ?_
    rw [HJ.out.1, HMB.out]
    exact ⟨ep', l', ow', err, am, nm, cm, ao, no, co, (fun h => by rw [← HJ.out.2 h]; exact HQ.out.1 h), HQ.out.2.1, HQ.out.2.2.1, HQ.out.2.2.2, rfl, ownsRow_lo HR19.out HS7.out.1, ownsRow_lo HR29.out HS7.out.1, HF9.out⟩

set_option maxRecDepth 100000 in
set_option maxHeartbeats 8000000 in
theorem refLeave_any (v : Value) (ep : Int) (lr : List Mb) (ow : List Int) (n : Int) (w : World) (h : Rng w v ep lr ow) (hl : lr.length ≤ 100) : Calls Tryz.prog 13 #[v, .int .i64 n] w (RingRes (leaveOk ep lr ow n) (ep + 1) (lr.filter (notN n)) (changeL PN QS (lr.filter (notN n)) ow) w) := by
  have HRG := Lib.hid h
  obtain ⟨hb0, vm, vo, rfl, hm0, ho0⟩ := h
  have HML := Lib.hid hm0
  obtain ⟨ma, mn, mc, rfl⟩ : ∃ a n c, vm = .slice a n c := by obtain ⟨a, c, b, off, h, _⟩ := hm0.at_; exact ⟨_, _, _, h⟩
  obtain ⟨oa, on, oc, rfl⟩ : ∃ a n c, vo = .slice a n c := by obtain ⟨a, c, b, off, h, _⟩ := ho0.at_; exact ⟨_, _, _, h⟩
  clear hm0 hb0 ho0
  have HX := Lib.hid (Box3.new w (.int .i64 ep) (.slice ma mn mc) (.slice oa on oc) 25)
  have HU := Lib.hid (Box3.new (w.alloc (.cells #[.int .i64 ep, .slice ma mn mc, .slice oa on oc] 25)) (.int .i64 0) (.slice none 0 0) (.slice none 0 0) 25)
  have k1 : Keep (fun _ => False) w (w.alloc (.cells #[.int .i64 ep, .slice ma mn mc, .slice oa on oc] 25)) := (Keep.refl _ w).alloc _
  have k2 : Keep (fun _ => False) (w.alloc (.cells #[.int .i64 ep, .slice ma mn mc, .slice oa on oc] 25)) ((w.alloc (.cells #[.int .i64 ep, .slice ma mn mc, .slice oa on oc] 25)).alloc (.cells #[.int .i64 0, .slice none 0 0, .slice none 0 0] 25)) := (Keep.refl _ _).alloc _
  have HX0 := Lib.hid (HX.out.kept k2)
  have HK0 := Lib.hid (k1.trans k2)
  simp only [World.size_alloc] at HU
  clear k1 k2 HX
  obtain ⟨hc, hhc⟩ : ∃ b, hasN lr n = b := ⟨_, rfl⟩
  have HHC := Lib.hid hhc
  have hfr := findR_has lr n
  rw [hhc] at hfr
  obtain ⟨fr, hfe⟩ : ∃ x, findR lr n = x := ⟨_, rfl⟩
  rw [hfe] at hfr
  have HFIND : Hid (∀ W, Keep (fun _ => False) w W → Calls Tryz.prog 50 #[.slice ma mn mc, .int .i64 n] W fun e w' => e = .returned (.int .i64 fr) ∧ W = w') := Lib.hid (fun W k => by rw [← hfe]; exact find_any _ lr n W (HML.out.kept k))
  clear hhc hfe
  go_enter Tryz.func13, Tryz.ntmps13
  go_upto_region 1 with (fail)
  generalize (w.alloc (.cells #[.int .i64 ep, .slice ma mn mc, .slice oa on oc] 25)).alloc (.cells #[.int .i64 0, .slice none 0 0, .slice none 0 0] 25) = W4 at *
  generalize hz : w.heap.size = z at HX0 HU ⊢
  have HZ := Lib.hid hz
  clear hz
  obtain ⟨x0, x1, x2, xf⟩ := HX0.out
  go_wp2_with fail
  clear x0 x1 x2 xf
  with_reducible refine (HFIND.out W4 HK0.out).mono ?_
  rintro e w' ⟨rfl, rfl⟩
  cases hc with
  | false =>
    have hge : fr < 0 := by simpa using hfr
    have HJ : Hid (leaveOk ep lr ow n = false) := Lib.hid (by unfold leaveOk; rw [HHC.out]; rfl)
    clear hfr
    obtain ⟨u0, u1, u2, uf⟩ := HU.out
    go_wp2_with fail
    clear u0 u1 u2 uf
    obtain ⟨g0, g1, g2, -⟩ := ((HU.out.set0 (.int .i64 0)).set1 (.slice none 0 0)).set2 (.slice none 0 0)
    have kf : Keep (fun _ => False) w (((W4.setCell ⟨z + 1, 0, none⟩ (.int .i64 0)).setCell ⟨z + 1, 1, none⟩ (.slice none 0 0)).setCell ⟨z + 1, 2, none⟩ (.slice none 0 0)) := HK0.out.trans' ((((Keep.refl (fun j => j = z + 1) W4).setCell (p := ⟨z + 1, 0, none⟩) _ (.inl rfl)).setCell (p := ⟨z + 1, 1, none⟩) _ (.inl rfl)).setCell (p := ⟨z + 1, 2, none⟩) _ (.inl rfl)) (fun j e => .inr (by have h5 : j = z + 1 := e; have := HZ.out; omega))
    generalize ((W4.setCell ⟨z + 1, 0, none⟩ (.int .i64 0)).setCell ⟨z + 1, 1, none⟩ (.slice none 0 0)).setCell ⟨z + 1, 2, none⟩ (.slice none 0 0) = WF at *
    refine bodyPost_ret (v := .tuple #[ringV 0 (.slice none 0 0) (.slice none 0 0), .int .i64 120]) (by simp [results, Tryz.results13, go_sem, g0, g1, g2]) rfl ?_
    rw [HJ.out]
    exact RingRes.bad ⟨rfl, kf⟩
  | true =>
    have hge : ¬ fr < 0 := by simpa using hfr
    have HJ : Hid (leaveOk ep lr ow n = chOk ep lr (lr.filter (notN n)) ow) := Lib.hid (by
      unfold leaveOk
      rw [HHC.out]
      rfl)
    have HWI : Hid (∀ W, Keep (fun _ => False) w W → Calls Tryz.prog 51 #[.slice ma mn mc, .int .i64 n] W (OwnPost (lr.filter (notN n)) W)) := Lib.hid (fun W k => without_any _ lr n W (HML.out.kept k) (by omega))
    have HBD : Hid (∀ x ∈ lr.filter (notN n), I64 x.node ∧ I64 x.region ∧ I64 x.weight) := Lib.hid (fun x hx => HML.out.bd x (List.mem_filter.1 hx).1)
    have HLEN : Hid ((lr.filter (notN n)).length ≤ 101) := Lib.hid (by have := List.length_filter_le (notN n) lr; omega)
    clear hfr
    have x0 : ∀ p : KA (fun j => j = z + 1) W4, p.val.cell? ⟨z, 0, none⟩ = some (.int .i64 ep) := fun p => (HX0.out.keep p.k (by omega)).1
    have x1 : ∀ p : KA (fun j => j = z + 1) W4, p.val.cell? ⟨z, 1, none⟩ = some (.slice ma mn mc) := fun p => (HX0.out.keep p.k (by omega)).2.1
    have x2 : ∀ p : KA (fun j => j = z + 1) W4, p.val.cell? ⟨z, 2, none⟩ = some (.slice oa on oc) := fun p => (HX0.out.keep p.k (by omega)).2.2.1
    go_upto_region 3 with (fail)
    refine wp_region_walk [(true, 0), (true, 1), (true, 2), (false, 3), (false, 4), (false, 5), (true, 6), (false, 7), (false, 8), (false, 9)] (inKA (fun j => j = z + 1) W4) (by kernel_rfl) (by kernel_rfl) ?_
    iterate 3 (refine walkW_read rfl (fun K hK => ?_); go_simp; refine hK _ ?_; clear hK K)
    clear x0 x1 x2
    have HKD : Hid (Keep (fun _ => False) W4 W4.drew) := Lib.hid (Keep.refl _ W4).drew
    generalize W4.drew = W5 at *
    refine walkW_do rfl (inKA.of (HKD.out.mono (fun _ h => h.elim))) (fun K hK => ?_)
    go_simp
    refine hK _ _ ?_; clear hK K
    refine walkW_do rfl (inKA.of (HKD.out.mono (fun _ h => h.elim))) (fun K hK => ?_)
    go_simp
    refine (HWI.out W5 (HK0.out.trans HKD.out)).mono ?_
    rintro e W7 ⟨vw, rfl, hop⟩
    obtain ⟨ga, gc, rfl⟩ := own_form hop.2
    have HK7 := Lib.hid (HKD.out.trans hop.1)
    have HMM : Hid (Mbs W7 (.slice ga (lr.filter (notN n)).length gc) (lr.filter (notN n))) := Lib.hid (mbs_owns hop.2 (by have := HLEN.out; omega) HBD.out)
    clear hop HBD HLEN
    refine hK _ _ ?_; clear hK K
    have HCH := Lib.hid (refChangeU _ _ ep lr (lr.filter (notN n)) ow W7 (HRG.out.kept (HK0.out.trans HK7.out)) HMM.out)
    generalize (lr.filter (notN n)).length = nl at *
    refine walkW_do rfl (inKA.of (HK7.out.mono (fun _ h => h.elim))) (fun K hK => ?_)
    go_simp
    refine HCH.out.mono ?_
    rintro e W8 ⟨ep', l', ow', err, am, nm, cm, ao, no, co, q1, q2, q3, q4, rfl, r1, r2, k8⟩
    refine hK _ _ ?_; clear hK K
    have HK8 := Lib.hid (HK7.out.trans k8)
    have HR1 := Lib.hid r1
    have HR2 := Lib.hid r2
    have HQ := Lib.hid (And.intro q1 (And.intro q2 (And.intro q3 q4)))
    have HS7 : Hid (w.heap.size ≤ W7.heap.size ∧ z + 1 < W7.heap.size) := Lib.hid ⟨Nat.le_trans HK0.out.size HK7.out.size, Nat.lt_of_lt_of_le HU.out.lt HK7.out.size⟩
    clear q1 q2 q3 q4 r1 r2 k8 HCH
    refine walkW_read rfl (fun K hK => ?_)
    go_simp
    refine hK _ ?_; clear hK K
    refine walkW_do rfl (inKA.of (HK8.out.mono (fun _ h => h.elim))) (fun K hK => ?_)
    go_simp
    refine hK _ _ ?_; clear hK K
    have HU8 := Lib.hid (HU.out.kept HK8.out)
    obtain ⟨u0, u1, u2, uf⟩ := HU8.out
    refine walkW_do rfl (inKA.of (HK8.out.mono (fun _ h => h.elim))) (fun K hK => ?_)
    go_simp
    refine hK _ _ ?_; clear hK K
    clear u0 u1 u2 uf
    have kq : Keep (fun j => j = z + 1) W8 (((W8.setCell ⟨z + 1, 0, none⟩ (.int .i64 ep')).setCell ⟨z + 1, 1, none⟩ (.slice am nm cm)).setCell ⟨z + 1, 2, none⟩ (.slice ao no co)) := (((Keep.refl (fun j => j = z + 1) W8).setCell (p := ⟨z + 1, 0, none⟩) _ (.inl rfl)).setCell (p := ⟨z + 1, 1, none⟩) _ (.inl rfl)).setCell (p := ⟨z + 1, 2, none⟩) _ (.inl rfl)
    have HU9 := Lib.hid (((HU8.out.set0 (.int .i64 ep')).set1 (.slice am nm cm)).set2 (.slice ao no co))
    have HR19 := Lib.hid (ownsRow_keep HR1.out kq (fun b hb e => by have h5 : b = z + 1 := e; have := (HR1.out.lt b hb).1; have := HS7.out; omega))
    have HR29 := Lib.hid (ownsRow_keep HR2.out kq (fun b hb e => by have h5 : b = z + 1 := e; have := (HR2.out.lt b hb).1; have := HS7.out; omega))
    have HK9 : Hid (Keep (fun j => j = z + 1) W4 (((W8.setCell ⟨z + 1, 0, none⟩ (.int .i64 ep')).setCell ⟨z + 1, 1, none⟩ (.slice am nm cm)).setCell ⟨z + 1, 2, none⟩ (.slice ao no co))) := Lib.hid ((HK8.out.mono (fun _ h => h.elim)).trans kq)
    have HF9 : Hid (Keep (fun _ => False) w (((W8.setCell ⟨z + 1, 0, none⟩ (.int .i64 ep')).setCell ⟨z + 1, 1, none⟩ (.slice am nm cm)).setCell ⟨z + 1, 2, none⟩ (.slice ao no co))) := Lib.hid ((HK0.out.trans HK8.out).trans' kq (fun j e => .inr (by have h5 : j = z + 1 := e; have := HZ.out; omega)))
    clear kq
    generalize ((W8.setCell ⟨z + 1, 0, none⟩ (.int .i64 ep')).setCell ⟨z + 1, 1, none⟩ (.slice am nm cm)).setCell ⟨z + 1, 2, none⟩ (.slice ao no co) = W9 at *
    refine walkW_do rfl (inKA.of HK9.out) (fun K hK => ?_)
    go_simp
    refine hK _ _ ?_; clear hK K
    refine ⟨inKA.of HK9.out, ?_⟩
    go_wp2_with fail
    obtain ⟨g0, g1, g2, -⟩ := HU9.out
    refine bodyPost_ret (v := .tuple #[.agg #[.int .i64 ep', .slice am nm cm, .slice ao no co], .int .i64 err]) (by simp [results, Tryz.results13, go_sem, g0, g1, g2]) rfl ?_
    rw [HJ.out]
    exact ⟨ep', l', ow', err, am, nm, cm, ao, no, co, HQ.out.1, HQ.out.2.1, HQ.out.2.2.1, HQ.out.2.2.2, rfl, ownsRow_lo HR19.out HS7.out.1, ownsRow_lo HR29.out HS7.out.1, HF9.out⟩
end Go.Proofs.YtiacdkggbnoigaaGreatDoor

/-
  The reference's Replace, refused.
-/
namespace Go.Proofs.YtiacdkggbnoigaaGreatDoor
open Go.RowKit Go.Shelf

set_option maxRecDepth 100000 in
set_option maxHeartbeats 8000000 in
theorem refReplace_bad (v : Value) (ep : Int) (lr : List Mb) (ow : List Int) (nd sp : Int) (w : World) (h : Rng w v ep lr ow) (hbad : validRB ep lr ow = false ∨ hasN lr nd = false ∨ hasN lr sp = true ∨ sp < 0 ∨ 24 ≤ sp ∨ 1000000 ≤ ep) :
    Calls Tryz.prog 11 #[v, .int .i64 nd, .int .i64 sp] w (NewBad w) := by
  have HRG := Lib.hid h
  obtain ⟨hb0, vm, vo, rfl, hm0, ho0⟩ := h
  have HML := Lib.hid hm0
  obtain ⟨ma, mn, mc, rfl⟩ : ∃ a n c, vm = .slice a n c := by obtain ⟨a, c, b, off, h, _⟩ := hm0.at_; exact ⟨_, _, _, h⟩
  obtain ⟨oa, on, oc, rfl⟩ : ∃ a n c, vo = .slice a n c := by obtain ⟨a, c, b, off, h, _⟩ := ho0.at_; exact ⟨_, _, _, h⟩
  clear hm0 hb0 ho0
  obtain ⟨vr, hvr⟩ : ∃ b, validRB ep lr ow = b := ⟨_, rfl⟩
  obtain ⟨hd, hhd⟩ : ∃ b, hasN lr nd = b := ⟨_, rfl⟩
  obtain ⟨hs, hhs⟩ : ∃ b, hasN lr sp = b := ⟨_, rfl⟩
  rw [hvr, hhd, hhs] at hbad
  have HBAD := Lib.hid hbad
  have hfd := findR_has lr nd
  have hfs := findR_has lr sp
  rw [hhd] at hfd
  rw [hhs] at hfs
  obtain ⟨fd, hfde⟩ : ∃ x, findR lr nd = x := ⟨_, rfl⟩
  obtain ⟨fs, hfse⟩ : ∃ x, findR lr sp = x := ⟨_, rfl⟩
  rw [hfde] at hfd
  rw [hfse] at hfs
  have HFD := Lib.hid hfd
  have HFS := Lib.hid hfs
  have HVC : Hid (∀ W, Keep (fun _ => False) w W → Calls Tryz.prog 39 #[ringV ep (.slice ma mn mc) (.slice oa on oc)] W fun e w' => e = .returned (.bool vr) ∧ Keep (fun _ => False) W w') := Lib.hid (fun W k => by rw [← hvr]; exact refValidRing_any _ ep lr ow W (HRG.out.kept k))
  have HFND : Hid (∀ W, Keep (fun _ => False) w W → Calls Tryz.prog 50 #[.slice ma mn mc, .int .i64 nd] W fun e w' => e = .returned (.int .i64 fd) ∧ W = w') := Lib.hid (fun W k => by rw [← hfde]; exact find_any _ lr nd W (HML.out.kept k))
  have HFNS : Hid (∀ W, Keep (fun _ => False) w W → Calls Tryz.prog 50 #[.slice ma mn mc, .int .i64 sp] W fun e w' => e = .returned (.int .i64 fs) ∧ W = w') := Lib.hid (fun W k => by rw [← hfse]; exact find_any _ lr sp W (HML.out.kept k))
  clear hvr hhd hhs hbad hfde hfse hfd hfs
  have HX := Lib.hid (Box3.new w (.int .i64 ep) (.slice ma mn mc) (.slice oa on oc) 25)
  have HU := Lib.hid (Box3.new (w.alloc (.cells #[.int .i64 ep, .slice ma mn mc, .slice oa on oc] 25)) (.int .i64 0) (.slice none 0 0) (.slice none 0 0) 25)
  have k1 : Keep (fun _ => False) w (w.alloc (.cells #[.int .i64 ep, .slice ma mn mc, .slice oa on oc] 25)) := (Keep.refl _ w).alloc _
  have k3 : Keep (fun _ => False) (w.alloc (.cells #[.int .i64 ep, .slice ma mn mc, .slice oa on oc] 25)) ((w.alloc (.cells #[.int .i64 ep, .slice ma mn mc, .slice oa on oc] 25)).alloc (.cells #[.int .i64 0, .slice none 0 0, .slice none 0 0] 25)) := (Keep.refl _ _).alloc _
  have HX0 := Lib.hid (HX.out.kept k3)
  have HK0 := Lib.hid (k1.trans k3)
  simp only [World.size_alloc] at HU
  clear k1 k3 HX
  go_enter Tryz.func11, Tryz.ntmps11
  go_upto_region 1 with (fail)
  generalize (w.alloc (.cells #[.int .i64 ep, .slice ma mn mc, .slice oa on oc] 25)).alloc (.cells #[.int .i64 0, .slice none 0 0, .slice none 0 0] 25) = W0 at *
  generalize hz : w.heap.size = z at HX0 HU ⊢
  have HZ := Lib.hid hz
  clear hz
  obtain ⟨x0, x1, x2, xf⟩ := HX0.out
  go_wp2_with fail
  clear x0 x1 x2 xf
  with_reducible refine (HVC.out W0 HK0.out).mono ?_
  rintro e W1 ⟨rfl, k1⟩
  have HX1 := Lib.hid (HX0.out.kept k1)
  have HU1 := Lib.hid (HU.out.kept k1)
  have HK1 := Lib.hid (HK0.out.trans k1)
  clear k1 HX0 HU HK0
  obtain ⟨x0, x1, x2, xf⟩ := HX1.out
  go_wp2_with fail
  clear x0 x1 x2 xf
  with_reducible refine (HFND.out W1 HK1.out).mono ?_
  rintro e w' ⟨rfl, rfl⟩
  have FIN : Hid (Box3 (((W1.setCell ⟨z + 1, 0, none⟩ (.int .i64 0)).setCell ⟨z + 1, 1, none⟩ (.slice none 0 0)).setCell ⟨z + 1, 2, none⟩ (.slice none 0 0)) (z + 1) (.int .i64 0) (.slice none 0 0) (.slice none 0 0) ∧ Keep (fun _ => False) w (((W1.setCell ⟨z + 1, 0, none⟩ (.int .i64 0)).setCell ⟨z + 1, 1, none⟩ (.slice none 0 0)).setCell ⟨z + 1, 2, none⟩ (.slice none 0 0))) := Lib.hid
    ⟨((HU1.out.set0 _).set1 _).set2 _, HK1.out.trans' ((((Keep.refl (fun j => j = z + 1) W1).setCell (p := ⟨z + 1, 0, none⟩) _ (.inl rfl)).setCell (p := ⟨z + 1, 1, none⟩) _ (.inl rfl)).setCell (p := ⟨z + 1, 2, none⟩) _ (.inl rfl)) (fun j e => .inr (by have h5 : j = z + 1 := e; have := HZ.out; omega))⟩
  obtain ⟨x0, x1, x2, xf⟩ := HX1.out
  obtain ⟨u0, u1, u2, uf⟩ := HU1.out
  cases vr with
  | false =>
    go_wp2_with fail
    clear u0 u1 u2 uf x0 x1 x2 xf
    obtain ⟨⟨g0, g1, g2, -⟩, kf⟩ := FIN.out
    generalize ((W1.setCell ⟨z + 1, 0, none⟩ (.int .i64 0)).setCell ⟨z + 1, 1, none⟩ (.slice none 0 0)).setCell ⟨z + 1, 2, none⟩ (.slice none 0 0) = WF at *
    refine bodyPost_ret (v := .tuple #[ringV 0 (.slice none 0 0) (.slice none 0 0), .int .i64 120]) (by simp [results, Tryz.results11, go_sem, g0, g1, g2]) rfl ?_
    exact ⟨rfl, kf⟩
  | true =>
    by_cases hdn : fd < 0
    · skip
      go_wp2_with fail
      clear u0 u1 u2 uf x0 x1 x2 xf
      obtain ⟨⟨g0, g1, g2, -⟩, kf⟩ := FIN.out
      generalize ((W1.setCell ⟨z + 1, 0, none⟩ (.int .i64 0)).setCell ⟨z + 1, 1, none⟩ (.slice none 0 0)).setCell ⟨z + 1, 2, none⟩ (.slice none 0 0) = WF at *
      refine bodyPost_ret (v := .tuple #[ringV 0 (.slice none 0 0) (.slice none 0 0), .int .i64 120]) (by simp [results, Tryz.results11, go_sem, g0, g1, g2]) rfl ?_
      exact ⟨rfl, kf⟩
    · have HND : Hid (hd = true) := Lib.hid (by have := HFD.out; rw [decide_eq_false hdn] at this; cases hd; exact absurd this (by decide); rfl)
      go_wp2_with fail
      with_reducible refine (HFNS.out W1 HK1.out).mono ?_
      rintro e w' ⟨rfl, rfl⟩
      by_cases hsn : fs < 0
      · have hsn2 : ¬ (0 ≤ fs) := by omega
        have HNS : Hid (hs = false) := Lib.hid (by have := HFS.out; rw [decide_eq_true hsn] at this; cases hs; rfl; exact absurd this (by decide))
        by_cases h0 : sp < 0
        · skip
          go_wp2_with fail
          clear u0 u1 u2 uf x0 x1 x2 xf
          obtain ⟨⟨g0, g1, g2, -⟩, kf⟩ := FIN.out
          generalize ((W1.setCell ⟨z + 1, 0, none⟩ (.int .i64 0)).setCell ⟨z + 1, 1, none⟩ (.slice none 0 0)).setCell ⟨z + 1, 2, none⟩ (.slice none 0 0) = WF at *
          refine bodyPost_ret (v := .tuple #[ringV 0 (.slice none 0 0) (.slice none 0 0), .int .i64 120]) (by simp [results, Tryz.results11, go_sem, g0, g1, g2]) rfl ?_
          exact ⟨rfl, kf⟩
        · by_cases h1 : 24 ≤ sp
          · skip
            go_wp2_with fail
            clear u0 u1 u2 uf x0 x1 x2 xf
            obtain ⟨⟨g0, g1, g2, -⟩, kf⟩ := FIN.out
            generalize ((W1.setCell ⟨z + 1, 0, none⟩ (.int .i64 0)).setCell ⟨z + 1, 1, none⟩ (.slice none 0 0)).setCell ⟨z + 1, 2, none⟩ (.slice none 0 0) = WF at *
            refine bodyPost_ret (v := .tuple #[ringV 0 (.slice none 0 0) (.slice none 0 0), .int .i64 120]) (by simp [results, Tryz.results11, go_sem, g0, g1, g2]) rfl ?_
            exact ⟨rfl, kf⟩
          · by_cases h2 : 1000000 ≤ ep
            · skip
              go_wp2_with fail
              clear u0 u1 u2 uf x0 x1 x2 xf
              obtain ⟨⟨g0, g1, g2, -⟩, kf⟩ := FIN.out
              generalize ((W1.setCell ⟨z + 1, 0, none⟩ (.int .i64 0)).setCell ⟨z + 1, 1, none⟩ (.slice none 0 0)).setCell ⟨z + 1, 2, none⟩ (.slice none 0 0) = WF at *
              refine bodyPost_ret (v := .tuple #[ringV 0 (.slice none 0 0) (.slice none 0 0), .int .i64 120]) (by simp [results, Tryz.results11, go_sem, g0, g1, g2]) rfl ?_
              exact ⟨rfl, kf⟩
            · exfalso
              rcases HBAD.out with h | h | h | h | h | h
              · cases h
              · rw [HND.out] at h; cases h
              · rw [HNS.out] at h; cases h
              · exact h0 h
              · exact h1 h
              · exact h2 h
      · have hsn2 : 0 ≤ fs := by omega
        go_wp2_with fail
        clear u0 u1 u2 uf x0 x1 x2 xf
        obtain ⟨⟨g0, g1, g2, -⟩, kf⟩ := FIN.out
        generalize ((W1.setCell ⟨z + 1, 0, none⟩ (.int .i64 0)).setCell ⟨z + 1, 1, none⟩ (.slice none 0 0)).setCell ⟨z + 1, 2, none⟩ (.slice none 0 0) = WF at *
        refine bodyPost_ret (v := .tuple #[ringV 0 (.slice none 0 0) (.slice none 0 0), .int .i64 120]) (by simp [results, Tryz.results11, go_sem, g0, g1, g2]) rfl ?_
        exact ⟨rfl, kf⟩
end Go.Proofs.YtiacdkggbnoigaaGreatDoor

/-
  The reference's Replace, accepted.
-/
namespace Go.Proofs.YtiacdkggbnoigaaGreatDoor
open Go.RowKit Go.Shelf

/-- What the free operations of the region answer. -/
def rrS (ep : Int) (l1 l2 : List Mb) (n1 n2 B : Nat) (t : Nat) (v : Value) (W : World) : Prop :=
  (t = 60 → ∃ a c, v = .slice a n1 c ∧ Mbs W (.slice a n1 c) l1) ∧
  (t = 62 → ∃ a c, v = .slice a n2 c ∧ W.ownsRow B 44 3 (.slice a n2 c) n2 (flatB l2)) ∧
  (t = 63 → ∃ a c, v = .agg #[.int .i64 ep, .slice a n2 c, .slice none 0 0] ∧ W.ownsRow B 44 3 (.slice a n2 c) n2 (flatB l2)) ∧
  (t = 11 → ∃ z, v = ptr z ∧ B ≤ z ∧ Box3 W z (.int .i64 0) (.slice none 0 0) (.slice none 0 0) ∧ BoxT W z 25)
section
variable {ep : Int} {l1 l2 : List Mb} {n1 n2 B : Nat} {v : Value} {W : World}
theorem rrS_60 (h : ∃ a c, v = .slice a n1 c ∧ Mbs W (.slice a n1 c) l1) : rrS ep l1 l2 n1 n2 B 60 v W := ⟨fun _ => h, fun e => absurd e (by decide), fun e => absurd e (by decide), fun e => absurd e (by decide)⟩
theorem rrS_62 (h : ∃ a c, v = .slice a n2 c ∧ W.ownsRow B 44 3 (.slice a n2 c) n2 (flatB l2)) : rrS ep l1 l2 n1 n2 B 62 v W := ⟨fun e => absurd e (by decide), fun _ => h, fun e => absurd e (by decide), fun e => absurd e (by decide)⟩
theorem rrS_63 (h : ∃ a c, v = .agg #[.int .i64 ep, .slice a n2 c, .slice none 0 0] ∧ W.ownsRow B 44 3 (.slice a n2 c) n2 (flatB l2)) : rrS ep l1 l2 n1 n2 B 63 v W := ⟨fun e => absurd e (by decide), fun e => absurd e (by decide), fun _ => h, fun e => absurd e (by decide)⟩
theorem rrS_11 (h : ∃ z, v = ptr z ∧ B ≤ z ∧ Box3 W z (.int .i64 0) (.slice none 0 0) (.slice none 0 0) ∧ BoxT W z 25) : rrS ep l1 l2 n1 n2 B 11 v W := ⟨fun e => absurd e (by decide), fun e => absurd e (by decide), fun e => absurd e (by decide), fun _ => h⟩
end
theorem rrS_keep {ep : Int} {l1 l2 : List Mb} {n1 n2 B : Nat} (t : Nat) (v : Value) (w w' : World) (h : rrS ep l1 l2 n1 n2 B t v w) (k : Keep (fun _ => False) w w') : rrS ep l1 l2 n1 n2 B t v w' := by
  obtain ⟨h1, h2, h3, h4⟩ := h
  refine ⟨fun e => ?_, fun e => ?_, fun e => ?_, fun e => ?_⟩
  · obtain ⟨a, c, q1, q2⟩ := h1 e
    exact ⟨a, c, q1, q2.kept k⟩
  · obtain ⟨a, c, q1, q2⟩ := h2 e
    exact ⟨a, c, q1, ownsRow_keep q2 k (fun _ _ h => h)⟩
  · obtain ⟨a, c, q1, q2⟩ := h3 e
    exact ⟨a, c, q1, ownsRow_keep q2 k (fun _ _ h => h)⟩
  · obtain ⟨z, q1, q2, q3, q4⟩ := h4 e
    exact ⟨z, q1, q2, q3.kept k, q4.kept k⟩

set_option maxRecDepth 100000 in
set_option maxHeartbeats 8000000 in
theorem refReplace_ok (v : Value) (ep : Int) (lr : List Mb) (ow : List Int) (nd sp : Int) (m : Mb) (k : Nat) (w : World) (h : Rng w v ep lr ow) (hvr : validRB ep lr ow = true) (he : ep < 1000000) (hk : lr[k]? = some m) (hmn : m.node = nd) (hsp : hasN lr sp = false) (hsb : 0 ≤ sp ∧ sp < 24) :
    Calls Tryz.prog 11 #[v, .int .i64 nd, .int .i64 sp] w (RingPost (ep + 1) (moreM (lr.filter (notN nd)) ⟨sp, m.region, m.weight⟩) (ow.map (repF nd sp)) w) := by
  have HRG := Lib.hid h
  have HOK := Lib.hid ((validRB_iff ep lr ow).1 hvr)
  have HASC : Hid (lr.Pairwise (fun a b => a.node < b.node)) := Lib.hid HOK.out.2.2.1.asc
  have hln24 : lr.length ≤ 24 := HOK.out.2.2.1.len
  obtain ⟨hb0, vm, vo, rfl, hm0, ho0⟩ := h
  have HML := Lib.hid hm0
  obtain ⟨-, hmbd, ma, mc, mb, mo, rfl, hmc, hma, hmcell⟩ := hm0
  obtain ⟨-, hobd, oa, oc, ob, oo, rfl, hoc, hoa, hocell⟩ := ho0
  have hol : ow.length = 64 := HOK.out.2.2.2.1
  have hep1 : 1 ≤ ep := HOK.out.1
  have HOL := Lib.hid hol
  obtain ⟨mn, hmn'⟩ : ∃ n, lr.length = n := ⟨_, rfl⟩
  have hkl : k < mn := by have := (List.getElem?_eq_some_iff.1 hk).1; omega
  obtain rfl := hma (by omega)
  obtain rfl := hoa (by omega)
  have HMC := Lib.hid (hmcell k m hk)
  have HOC := Lib.hid hocell
  have HMBD := Lib.hid (hmbd m (List.mem_of_getElem? hk))
  have HFK : Hid (findR lr nd = (k : Int)) := Lib.hid (findR_hit hk hmn (fun x hx e => by
    obtain ⟨j, hj⟩ := List.mem_iff_getElem?.1 hx
    have hjl := (List.getElem?_eq_some_iff.1 hj).1
    rw [List.length_take] at hjl
    rw [List.getElem?_take_of_lt (by omega)] at hj
    obtain ⟨a1, a2⟩ := List.getElem?_eq_some_iff.1 hk
    obtain ⟨b1, b2⟩ := List.getElem?_eq_some_iff.1 hj
    have h5 := List.pairwise_iff_getElem.1 HASC.out j k b1 a1 (by omega)
    rw [a2, b2] at h5
    omega))
  have HNS : Hid (∀ x ∈ lr, x.node ≠ sp) := Lib.hid (hasN_false hsp)
  have HFS : Hid (findR lr sp = -1) := Lib.hid (findR_none HNS.out)
  rw [hmn'] at hmc HRG HML hln24 ⊢
  rw [hol] at hoc HRG ⊢
  have HVC : Hid (∀ W, Keep (fun _ => False) w W → Calls Tryz.prog 39 #[ringV ep (.slice (some ⟨mb, mo, none⟩) mn mc) (.slice (some ⟨ob, oo, none⟩) 64 oc)] W fun e w' => e = .returned (.bool true) ∧ Keep (fun _ => False) W w') := Lib.hid (fun W k => by rw [← hvr]; exact refValidRing_any _ ep lr ow W (HRG.out.kept k))
  have HFND : Hid (∀ W, Keep (fun _ => False) w W → Calls Tryz.prog 50 #[.slice (some ⟨mb, mo, none⟩) mn mc, .int .i64 nd] W fun e w' => e = .returned (.int .i64 k) ∧ W = w') := Lib.hid (fun W k => by rw [← HFK.out]; exact find_any _ lr nd W (HML.out.kept k))
  have HFNS : Hid (∀ W, Keep (fun _ => False) w W → Calls Tryz.prog 50 #[.slice (some ⟨mb, mo, none⟩) mn mc, .int .i64 sp] W fun e w' => e = .returned (.int .i64 (-1)) ∧ W = w') := Lib.hid (fun W k => by rw [← HFS.out]; exact find_any _ lr sp W (HML.out.kept k))
  obtain ⟨m0, m1, m2⟩ := m
  simp only [] at HMC HMBD hmn ⊢
  -- the new members
  obtain ⟨l1, hl1⟩ : ∃ l, lr.filter (notN nd) = l := ⟨_, rfl⟩
  have HM1 : Hid (∀ x ∈ l1, x ∈ lr) := Lib.hid (fun x hx => by rw [← hl1] at hx; exact (List.mem_filter.1 hx).1)
  have HA1 : Hid (l1.Pairwise (fun a b => a.node < b.node)) := Lib.hid (by rw [← hl1]; exact HASC.out.sublist List.filter_sublist)
  have hl1n : l1.length ≤ 24 := by rw [← hl1]; have := List.length_filter_le (notN nd) lr; omega
  obtain ⟨mnew, hmnew⟩ : ∃ m : Mb, (⟨sp, m1, m2⟩ : Mb) = m := ⟨_, rfl⟩
  have HNM : Hid (∀ x ∈ l1, x.node ≠ mnew.node) := Lib.hid (by rw [← hmnew]; exact fun x hx => HNS.out x (HM1.out x hx))
  obtain ⟨lq, hlq⟩ : ∃ l, moreM l1 mnew = l := ⟨_, rfl⟩
  have HWO : Hid (∀ W, Keep (fun _ => False) w W → Calls Tryz.prog 51 #[.slice (some ⟨mb, mo, none⟩) mn mc, .int .i64 nd] W (OwnPost l1 W)) := Lib.hid (fun W k => by rw [← hl1]; exact without_any _ lr nd W (HML.out.kept k) (by omega))
  have HWI : Hid (∀ v W, Mbs W v l1 → Calls Tryz.prog 28 #[v, .agg #[.int .i64 sp, .int .i64 m1, .int .i64 m2]] W (OwnPost lq W)) := Lib.hid (fun v W h => by
    have := with_any v l1 mnew W h HA1.out HNM.out (by omega)
    rw [hlq, ← hmnew] at this
    exact this)
  have HBD1 : Hid (∀ x ∈ l1, I64 x.node ∧ I64 x.region ∧ I64 x.weight) := Lib.hid (fun x hx => hmbd x (HM1.out x hx))
  rw [hl1, hmnew, hlq]
  obtain ⟨n1, hn1⟩ : ∃ n, l1.length = n := ⟨_, rfl⟩
  obtain ⟨n2, hn2⟩ : ∃ n, lq.length = n := ⟨_, rfl⟩
  have HN1 := Lib.hid hn1
  have HN2 := Lib.hid hn2
  clear hvr hk hmn hsp hb0 hmbd hobd hma hmcell hoa hocell hol hmn' hl1 hmnew hlq hn1 hn2
  have HX := Lib.hid (Box3.new w (.int .i64 ep) (.slice (some ⟨mb, mo, none⟩) mn mc) (.slice (some ⟨ob, oo, none⟩) 64 oc) 25)
  have HU := Lib.hid (Box3.new (w.alloc (.cells #[.int .i64 ep, .slice (some ⟨mb, mo, none⟩) mn mc, .slice (some ⟨ob, oo, none⟩) 64 oc] 25)) (.int .i64 0) (.slice none 0 0) (.slice none 0 0) 25)
  have k1 : Keep (fun _ => False) w (w.alloc (.cells #[.int .i64 ep, .slice (some ⟨mb, mo, none⟩) mn mc, .slice (some ⟨ob, oo, none⟩) 64 oc] 25)) := (Keep.refl _ w).alloc _
  have k3 : Keep (fun _ => False) (w.alloc (.cells #[.int .i64 ep, .slice (some ⟨mb, mo, none⟩) mn mc, .slice (some ⟨ob, oo, none⟩) 64 oc] 25)) ((w.alloc (.cells #[.int .i64 ep, .slice (some ⟨mb, mo, none⟩) mn mc, .slice (some ⟨ob, oo, none⟩) 64 oc] 25)).alloc (.cells #[.int .i64 0, .slice none 0 0, .slice none 0 0] 25)) := (Keep.refl _ _).alloc _
  have HX0 := Lib.hid (HX.out.kept k3)
  have HK0 := Lib.hid (k1.trans k3)
  simp only [World.size_alloc] at HU
  clear k1 k3 HX
  have hk0 : ¬ ((k : Int) < 0) := by omega
  have hs0 : ¬ (sp < 0) := by omega
  have hs1 : ¬ (24 ≤ sp) := by omega
  have hep2 : ¬ (1000000 ≤ ep) := by omega
  go_enter Tryz.func11, Tryz.ntmps11
  go_upto_region 1 with (fail)
  generalize (w.alloc (.cells #[.int .i64 ep, .slice (some ⟨mb, mo, none⟩) mn mc, .slice (some ⟨ob, oo, none⟩) 64 oc] 25)).alloc (.cells #[.int .i64 0, .slice none 0 0, .slice none 0 0] 25) = W0 at *
  generalize hz : w.heap.size = z at HX0 HU ⊢
  have HZ := Lib.hid hz
  clear hz
  obtain ⟨x0, x1, x2, xf⟩ := HX0.out
  go_wp2_with fail
  clear x0 x1 x2 xf
  with_reducible refine (HVC.out W0 HK0.out).mono ?_
  rintro e W1 ⟨rfl, k1⟩
  have HX1 := Lib.hid (HX0.out.kept k1)
  have HU1 := Lib.hid (HU.out.kept k1)
  have HK1 := Lib.hid (HK0.out.trans k1)
  clear k1 HX0 HU HK0
  obtain ⟨x0, x1, x2, xf⟩ := HX1.out
  go_wp2_with fail
  with_reducible refine (HFND.out W1 HK1.out).mono ?_
  rintro e w' ⟨rfl, rfl⟩
  go_wp2_with fail
  with_reducible refine (HFNS.out W1 HK1.out).mono ?_
  rintro e w' ⟨rfl, rfl⟩
  have c0 := HK1.out.cell HMC.out.1 (fun h => h)
  have c1 := HK1.out.cell HMC.out.2.1 (fun h => h)
  have c2 := HK1.out.cell HMC.out.2.2 (fun h => h)
  have hkz : (k : Int) < (mn : Int) := by omega
  have hkn : (0 : Int) ≤ (k : Int) := by omega
  go_upto_region 6 with (fail)
  clear c0 c1 c2 x0 x1 x2 xf hkz hkn hk0 hs0 hs1 hep2
  have HB0 := Lib.hid (Box3.new W1 (.int .i64 m0) (.int .i64 m1) (.int .i64 m2) 44)
  have HKA : Hid (Keep (fun _ => False) W1 (W1.alloc (.cells #[.int .i64 m0, .int .i64 m1, .int .i64 m2] 44))) := Lib.hid ((Keep.refl _ W1).alloc _)
  have HX4 := Lib.hid (HX1.out.kept HKA.out)
  have HU4 := Lib.hid (HU1.out.kept HKA.out)
  have HKW4 := Lib.hid (HK1.out.trans HKA.out)
  have HZV : Hid (z + 1 < W1.heap.size) := Lib.hid HU1.out.lt
  clear HX1 HU1 HK1 HKA
  generalize W1.alloc (.cells #[.int .i64 m0, .int .i64 m1, .int .i64 m2] 44) = V4 at *
  generalize W1.heap.size = b9 at *
  obtain ⟨x0, x1, x2, xf⟩ := HB0.out
  go_upto_region 7 with (fail)
  clear x0 x1 x2 xf
  have kq : Keep (fun j => j = b9) V4 (V4.setCell ⟨b9, 0, none⟩ (.int .i64 sp)) := (Keep.refl (fun j => j = b9) V4).setCell (p := ⟨b9, 0, none⟩) _ (.inl rfl)
  have HB5 := Lib.hid (HB0.out.set0 (.int .i64 sp))
  have HX5 := Lib.hid (HX4.out.keep kq (by have := HZV.out; omega))
  have HU5 := Lib.hid (HU4.out.keep kq (by have := HZV.out; omega))
  have HKW5 := Lib.hid (HKW4.out.trans' kq (fun j e => .inr (by have h5 : j = b9 := e; have := HZ.out; have := HZV.out; omega)))
  clear kq HX4 HU4 HKW4 HB0
  generalize V4.setCell ⟨b9, 0, none⟩ (.int .i64 sp) = V5 at *
  generalize (decide ((k : Int) < 0) || decide (sp < 0) || decide (24 ≤ sp) || decide (1000000 ≤ ep)) = q1 at *
  generalize (decide ((k : Int) < 0) || decide (sp < 0) || decide (24 ≤ sp)) = q2 at *
  generalize (decide ((k : Int) < 0) || decide (sp < 0)) = q3 at *
  generalize decide ((k : Int) < 0) = q4 at *
  generalize decide (sp < 0) = q5 at *
  generalize decide (24 ≤ sp) = q6 at *
  generalize decide (1000000 ≤ ep) = q7 at *
  have hw1 : IntKind.i64.wrap (ep + 1) = ep + 1 := wrapI (by unfold I64; omega)
  have x0 : ∀ p : KA (fun _ => False) V5, p.val.cell? ⟨z, 0, none⟩ = some (.int .i64 ep) := fun p => (HX5.out.kept p.k).1
  have x1 : ∀ p : KA (fun _ => False) V5, p.val.cell? ⟨z, 1, none⟩ = some (.slice (some ⟨mb, mo, none⟩) mn mc) := fun p => (HX5.out.kept p.k).2.1
  have c0 : ∀ p : KA (fun _ => False) V5, p.val.cell? ⟨b9, 0, none⟩ = some (.int .i64 sp) := fun p => (HB5.out.kept p.k).1
  have c1 : ∀ p : KA (fun _ => False) V5, p.val.cell? ⟨b9, 1, none⟩ = some (.int .i64 m1) := fun p => (HB5.out.kept p.k).2.1
  have c2 : ∀ p : KA (fun _ => False) V5, p.val.cell? ⟨b9, 2, none⟩ = some (.int .i64 m2) := fun p => (HB5.out.kept p.k).2.2.1
  refine wp_region_free [0, 1, 2, 3, 4, 5, 7] [⟨6, 60, []⟩, ⟨8, 62, [60]⟩, ⟨10, 11, []⟩, ⟨9, 63, [62]⟩] [(false, 11)] (inKA (fun _ => False) V5) (rrS (ep + 1) l1 lq n1 n2 V5.heap.size) (Keep (fun _ => False)) (by kernel_rfl) (by kernel_rfl) (inKA.of (Keep.refl _ V5).drew) rrS_keep (fun w w' hw hk => by obtain ⟨p, rfl⟩ := hw; exact inKA.of (p.k.trans hk)) ?_
  iterate 7 (refine headW_step rfl (fun K hK => ?_); go_simp; refine hK _ ?_; clear hK K)
  clear x0 x1 c0 c1 c2 hw1
  refine ⟨?_, ?_, ?_⟩
  · intro h hh
    simp only [List.mem_cons, List.not_mem_nil, or_false] at hh
    rcases hh with rfl | rfl | rfl | rfl <;> simp
  · refine freeW_step rfl (fun vs W hC hS K hK => ?_) (freeW_step rfl (fun vs W hC hS K hK => ?_) (freeW_step rfl (fun vs W hC hS K hK => ?_) (freeW_step rfl (fun vs W hC hS K hK => ?_) trivial)))
    · obtain ⟨p, rfl⟩ := hC
      simp only [putL, List.foldl]
      have HKP := Lib.hid p.k
      go_simp
      refine (HWO.out p.val (HKW5.out.trans HKP.out)).mono ?_
      rintro e W2 ⟨vw, rfl, hop⟩
      obtain ⟨ga, gc, rfl⟩ := own_form hop.2
      exact hK _ _ (rrS_60 ⟨ga, gc, by rw [HN1.out], by rw [← HN1.out]; exact mbs_owns hop.2 (by omega) HBD1.out⟩) hop.1
    · obtain ⟨p, rfl⟩ := hC
      obtain ⟨a, c, e1, h1⟩ := (hS 60 (by simp)).1 rfl
      simp only [putL, List.foldl]
      generalize vs 60 = v60 at *
      subst e1
      have HKP := Lib.hid p.k
      have HM := Lib.hid h1
      go_simp
      refine (HWI.out _ p.val HM.out).mono ?_
      rintro e W2 ⟨vw, rfl, hop⟩
      obtain ⟨ga, gc, rfl⟩ := own_form hop.2
      have hop2 := hop.2
      rw [HN2.out] at hop2
      exact hK _ _ (rrS_62 ⟨ga, gc, by rw [HN2.out], ownsRow_lo hop2 HKP.out.size⟩) hop.1
    · obtain ⟨p, rfl⟩ := hC
      simp only [putL, List.foldl]
      have hsz := p.k.size
      go_simp
      exact hK _ _ (rrS_11 ⟨p.val.heap.size, rfl, hsz, Box3.new _ _ _ _ _, ⟨_, World.alloc_heap_new _ _⟩⟩) ((Keep.refl _ p.val).alloc _)
    · obtain ⟨a, c, e1, h1⟩ := (hS 62 (by simp)).2.1 rfl
      simp only [putL, List.foldl]
      generalize vs 62 = v62 at *
      subst e1
      go_simp
      exact hK _ _ (rrS_63 ⟨a, c, rfl, h1⟩) (Keep.refl _ W)
  · intro vs W hC hS
    obtain ⟨p, rfl⟩ := hC
    obtain ⟨a60, c60, e1, -⟩ := (hS ⟨6, 60, []⟩ (by simp)).1 rfl
    obtain ⟨a62, c62, e2, -⟩ := (hS ⟨8, 62, [60]⟩ (by simp)).2.1 rfl
    obtain ⟨am, cm, e3, hm9⟩ := (hS ⟨9, 63, [62]⟩ (by simp)).2.2.1 rfl
    obtain ⟨z9, e4, hz9, hb9, ht9⟩ := (hS ⟨10, 11, []⟩ (by simp)).2.2.2 rfl
    simp only [] at e1 e2 e3 e4
    simp only [List.map, putL, List.foldl]
    generalize vs 60 = v60 at *
    generalize vs 62 = v62 at *
    generalize vs 63 = v63 at *
    generalize vs 11 = v11 at *
    subst e1 e2 e3 e4
    have HGMZ : Hid (∀ b, (Value.slice am n2 cm).ownBlock = some b → b ≠ z9) := Lib.hid (fun b hb => own_ne hm9 ht9 (by decide) hb)
    have HXP := Lib.hid (HX5.out.kept p.k)
    have HUP := Lib.hid (HU5.out.kept p.k)
    have HKP := Lib.hid p.k
    have HBP := Lib.hid hb9
    have HMP := Lib.hid hm9
    have HZ9 : Hid (V5.heap.size ≤ z9 ∧ z + 1 < V5.heap.size ∧ w.heap.size ≤ V5.heap.size) := Lib.hid ⟨hz9, HU5.out.lt, HKW5.out.size⟩
    have HGMB : Hid (∀ b, (Value.slice am n2 cm).ownBlock = some b → V5.heap.size ≤ b) := Lib.hid (fun b hb => (hm9.lt b hb).1)
    clear hS hz9 hb9 ht9 hm9
    have HKWP := Lib.hid (HKW5.out.trans p.k)
    generalize p.val = V at *
    obtain ⟨y0, y1, y2, yf⟩ := HBP.out
    refine walkW_do rfl (inKA.of HKP.out) (fun K hK => ?_)
    go_simp
    refine hK _ _ ?_; clear hK K
    clear y0 y1 y2 yf
    have kq : Keep (fun j => j = z9) V (((V.setCell ⟨z9, 0, none⟩ (.int .i64 (ep + 1))).setCell ⟨z9, 1, none⟩ (.slice am n2 cm)).setCell ⟨z9, 2, none⟩ (.slice none 0 0)) := (((Keep.refl (fun j => j = z9) V).setCell (p := ⟨z9, 0, none⟩) _ (.inl rfl)).setCell (p := ⟨z9, 1, none⟩) _ (.inl rfl)).setCell (p := ⟨z9, 2, none⟩) _ (.inl rfl)
    have HBQ := Lib.hid (((HBP.out.set0 (.int .i64 (ep + 1))).set1 (.slice am n2 cm)).set2 (.slice none 0 0))
    have HMQ := Lib.hid (ownsRow_keep HMP.out kq (fun b hb e => HGMZ.out b hb e))
    have HXQ := Lib.hid (HXP.out.keep kq (by have := HZ9.out; omega))
    have HUQ := Lib.hid (HUP.out.keep kq (by have := HZ9.out; omega))
    have HKQ := Lib.hid (HKP.out.trans' kq (fun j e => .inr (by have h5 : j = z9 := e; have := HZ9.out; omega)))
    have HKWQ := Lib.hid (HKWP.out.trans' kq (fun j e => .inr (by have h5 : j = z9 := e; have := HZ9.out; omega)))
    clear kq HBP HMP HXP HUP HKP HKWP
    generalize ((V.setCell ⟨z9, 0, none⟩ (.int .i64 (ep + 1))).setCell ⟨z9, 1, none⟩ (.slice am n2 cm)).setCell ⟨z9, 2, none⟩ (.slice none 0 0) = V6 at *
    refine ⟨inKA.of HKQ.out, ?_⟩
    have HZS : Hid (z9 < V6.heap.size) := Lib.hid HBQ.out.lt
    have HGMS : Hid (∀ b, (Value.slice am n2 cm).ownBlock = some b → b < V6.heap.size) := Lib.hid (fun b hb => (HMQ.out.lt b hb).2)
    go_upto_region 8 with (fail)
    go_wp2_with fail
    have HRQ : Hid (V6.ownsRow V6.heap.size 3 1 (.slice none 0 0) 0 (((ow.take 0).map (repF nd sp)).map (fun x => Value.int .i64 x))) := Lib.hid (by simpa using World.ownsRow_nil V6 V6.heap.size 3 1)
    go_loopg [12] 64 (fun gh v12 wr => ∃ (i : Nat) (vo : Value), gh + i = 64 ∧ v12 = .int .i64 i ∧ Box3 wr z9 (.int .i64 (ep + 1)) (.slice am n2 cm) vo ∧ wr.ownsRow V6.heap.size 3 1 vo i (((ow.take i).map (repF nd sp)).map (fun x => Value.int .i64 x)) ∧ Keep (fun j => j = z9) V6 wr)
    case atStart => exact ⟨0, .slice none 0 0, by omega, rfl, HBQ.out, HRQ.out, Keep.refl _ _⟩
    case round =>
      clear HRQ HBQ
      obtain ⟨i, vo, hi, rfl, hbox, hown, hkeep⟩ := hrel
      obtain ⟨ga, gc, rfl⟩ := own_form hown
      have HBI := Lib.hid hbox
      have HOI := Lib.hid hown
      have HK := Lib.hid hkeep
      have HKW : Hid (Keep (fun _ => False) w wr) := Lib.hid (HKWQ.out.trans' hkeep (fun j e => .inr (by have h5 : j = z9 := e; have := HZ9.out; omega)))
      have HXI := Lib.hid (HXQ.out.keep hkeep (by have := HZ9.out; omega))
      have HUI := Lib.hid (HUQ.out.keep hkeep (by have := HZ9.out; omega))
      have HMI := Lib.hid (ownsRow_keep HMQ.out hkeep (fun b hb e => HGMZ.out b hb e))
      clear hown hkeep hbox
      by_cases hlt : i < 64
      · obtain ⟨x, hx⟩ : ∃ x, ow[i]? = some x := ⟨_, List.getElem?_eq_getElem (by have := HOL.out; omega)⟩
        have ci := HKW.out.cell (HOC.out i x hx) (fun h => h)
        have HNX : Hid (((ow.take (i + 1)).map (repF nd sp)).map (fun x => Value.int .i64 x) = ((ow.take i).map (repF nd sp)).map (fun x => Value.int .i64 x) ++ [Value.int .i64 (repF nd sp x)]) := Lib.hid (by
          rw [List.take_add_one, hx, Option.toList_some, List.map_append, List.map_append]; rfl)
        obtain ⟨v', W2, r1, r2, r3, r4, g', c', r5⟩ := app_one 23 3 1 8 _ Tryz.underlying23 infoInt rfl (by decide) (by decide) wr 23 V6.heap.size (.slice ga i gc) i _ [.int .i64 (repF nd sp x)] HOI.out rfl (by simp [Value.oneCell']) (by omega) HK.out.size
        rw [← HNX.out] at r2
        subst r5
        have HR := Lib.hid r1
        have HO2 := Lib.hid r2
        have HK2 : Hid (Keep (fun j => (Value.slice ga i gc).ownBlock = some j) wr W2) := Lib.hid r3
        have HGA : Hid (∀ j, (Value.slice ga i gc).ownBlock = some j → V6.heap.size ≤ j) := Lib.hid (fun j e => (HOI.out.lt j e).1)
        have HB2 := Lib.hid (HBI.out.keep HK2.out (fun e => by have := HGA.out z9 e; have := HZS.out; omega))
        have HK26 : Hid (Keep (fun j => j = z9) V6 W2) := Lib.hid (HK.out.trans' HK2.out (fun j e => .inr (HGA.out j e)))
        have HB3 := Lib.hid (HB2.out.set2 (.slice (some ⟨g', 0, none⟩) (i + 1) c'))
        have kq : Keep (fun j => j = z9) W2 (W2.setCell ⟨z9, 2, none⟩ (.slice (some ⟨g', 0, none⟩) (i + 1) c')) := (Keep.refl (fun j => j = z9) W2).setCell (p := ⟨z9, 2, none⟩) _ (.inl rfl)
        have HO3 := Lib.hid (ownsRow_keep HO2.out kq (fun b hb e => by have h5 : b = z9 := e; have := (HO2.out.lt b hb).1; have := HZS.out; omega))
        have HK3 : Hid (Keep (fun j => j = z9) V6 (W2.setCell ⟨z9, 2, none⟩ (.slice (some ⟨g', 0, none⟩) (i + 1) c'))) := Lib.hid (HK26.out.trans kq)
        obtain ⟨x0, x1, x2, -⟩ := HXI.out
        have hiz : (i : Int) < 64 := by omega
        have hi0 : (0 : Int) ≤ (i : Int) := by omega
        clear hx r1 r2 r3 r4 kq
        by_cases hxn : x = nd
        · have hb : (x == nd) = true := by simpa using hxn
          have HXN : Hid (repF nd sp x = sp) := Lib.hid (by unfold repF; rw [if_pos hxn])
          rw [HXN.out] at HR
          clear hxn
          go_upto_region 14 with (fail)
          clear ci x0 x1 x2
          obtain ⟨y0, y1, y2, yf⟩ := HBI.out
          obtain ⟨q0, q1', q2', qf⟩ := HB2.out
          go_wp2_with (at_builtin; refine wpList_app rfl (.tmp 81) (.tmp 83) 23 rfl rfl rfl HR.out ?_)
          clear y0 y1 y2 yf q0 q1' q2' qf
          generalize W2.setCell ⟨z9, 2, none⟩ (.slice (some ⟨g', 0, none⟩) (i + 1) c') = W3 at *
          go_roundg (64 - (i + 1))
          case rel => exact ⟨i + 1, _, by omega, by go_num, HB3.out, HO3.out, HK3.out⟩
          case measure => omega
        · have hb : (x == nd) = false := by simpa using hxn
          have HXN : Hid (repF nd sp x = x) := Lib.hid (by unfold repF; rw [if_neg hxn])
          rw [HXN.out] at HR
          clear hxn
          go_upto_region 14 with (fail)
          clear ci x0 x1 x2
          obtain ⟨y0, y1, y2, yf⟩ := HBI.out
          obtain ⟨q0, q1', q2', qf⟩ := HB2.out
          go_wp2_with (at_builtin; refine wpList_app rfl (.tmp 81) (.tmp 83) 23 rfl rfl rfl HR.out ?_)
          clear y0 y1 y2 yf q0 q1' q2' qf
          generalize W2.setCell ⟨z9, 2, none⟩ (.slice (some ⟨g', 0, none⟩) (i + 1) c') = W3 at *
          go_roundg (64 - (i + 1))
          case rel => exact ⟨i + 1, _, by omega, by go_num, HB3.out, HO3.out, HK3.out⟩
          case measure => omega
      · have hie : i = 64 := by omega
        have HOE : Hid (wr.ownsRow V6.heap.size 3 1 (.slice ga 64 gc) 64 ((ow.map (repF nd sp)).map (fun x => Value.int .i64 x))) := Lib.hid (by
          have h := HOI.out
          rw [hie, List.take_of_length_le (by rw [HOL.out]; omega)] at h
          exact h)
        subst hie
        obtain ⟨x0, x1, x2, -⟩ := HXI.out
        obtain ⟨y0, y1, y2, -⟩ := HBI.out
        obtain ⟨u0, u1, u2, uf⟩ := HUI.out
        clear hlt
        go_upto_region 15 with (fail)
        go_wp2_with fail
        have g := ((HUI.out.set0 (.int .i64 (ep + 1))).set1 (.slice am n2 cm)).set2 (.slice ga 64 gc)
        have kq : Keep (fun j => j = z + 1) wr (((wr.setCell ⟨z + 1, 0, none⟩ (.int .i64 (ep + 1))).setCell ⟨z + 1, 1, none⟩ (.slice am n2 cm)).setCell ⟨z + 1, 2, none⟩ (.slice ga 64 gc)) := (((Keep.refl (fun j => j = z + 1) wr).setCell (p := ⟨z + 1, 0, none⟩) _ (.inl rfl)).setCell (p := ⟨z + 1, 1, none⟩) _ (.inl rfl)).setCell (p := ⟨z + 1, 2, none⟩) _ (.inl rfl)
        have HFM := Lib.hid (ownsRow_keep HMI.out kq (fun b hb e => by have h5 : b = z + 1 := e; have := HGMB.out b hb; have := HZ9.out; omega))
        have HFO := Lib.hid (ownsRow_keep HOE.out kq (fun b hb e => by have h5 : b = z + 1 := e; have := (HOE.out.lt b hb).1; have := HZS.out; have := HZ9.out; omega))
        have HFK := Lib.hid (HKW.out.trans' kq (fun j e => .inr (by have h5 : j = z + 1 := e; have := HZ.out; omega)))
        have HV6 : Hid (w.heap.size ≤ V6.heap.size) := Lib.hid HKWQ.out.size
        clear x0 x1 x2 y0 y1 y2 u0 u1 u2 uf kq
        generalize ((wr.setCell ⟨z + 1, 0, none⟩ (.int .i64 (ep + 1))).setCell ⟨z + 1, 1, none⟩ (.slice am n2 cm)).setCell ⟨z + 1, 2, none⟩ (.slice ga 64 gc) = WF at *
        obtain ⟨g0, g1, g2, -⟩ := g
        refine bodyPost_ret (v := .tuple #[.agg #[.int .i64 (ep + 1), .slice am n2 cm, .slice ga 64 gc], .int .i64 0]) (by simp [results, Tryz.results11, go_sem, g0, g1, g2]) rfl ?_
        refine ⟨am, cm, ga, gc, by rw [HN2.out, List.length_map, HOL.out], ?_, ?_, HFK.out⟩
        · rw [HN2.out]; exact ownsRow_lo HFM.out HZ9.out.2.2
        · rw [List.length_map, HOL.out]; exact ownsRow_lo HFO.out HV6.out
end Go.Proofs.YtiacdkggbnoigaaGreatDoor

/-
  Replace of package reshard, refused.
-/
namespace Go.Proofs.YtiacdkggbnoigaaGreatDoor
open Go.RowKit Go.Shelf

set_option maxRecDepth 100000 in
set_option maxHeartbeats 8000000 in
theorem replace_bad (v : Value) (ep : Int) (lr : List Mb) (ow : List Int) (nd sp : Int) (w : World) (h : Rng w v ep lr ow) (hbad : validRB ep lr ow = false ∨ hasN lr nd = false ∨ hasN lr sp = true ∨ sp < 0 ∨ 24 ≤ sp ∨ 1000000 ≤ ep) (hl : lr.length ≤ 1000) :
    Calls Tryz.prog 10 #[v, .int .i64 nd, .int .i64 sp] w (NewBad w) := by
  have HRG := Lib.hid h
  obtain ⟨hb0, vm, vo, rfl, hm0, ho0⟩ := h
  have HML := Lib.hid hm0
  obtain ⟨ma, mn, mc, rfl⟩ : ∃ a n c, vm = .slice a n c := by obtain ⟨a, c, b, off, h, _⟩ := hm0.at_; exact ⟨_, _, _, h⟩
  obtain ⟨oa, on, oc, rfl⟩ : ∃ a n c, vo = .slice a n c := by obtain ⟨a, c, b, off, h, _⟩ := ho0.at_; exact ⟨_, _, _, h⟩
  clear hm0 hb0 ho0
  obtain ⟨vr, hvr⟩ : ∃ b, validRB ep lr ow = b := ⟨_, rfl⟩
  obtain ⟨hs, hhs⟩ : ∃ b, hasN lr sp = b := ⟨_, rfl⟩
  have HVR := Lib.hid hvr
  have HHS : Hid ((lr.any fun m => decide (m.node = sp)) = hs) := Lib.hid hhs
  rw [hvr, hhs] at hbad
  have HBAD := Lib.hid hbad
  clear hvr hhs hbad
  have HX := Lib.hid (Box3.new w (.int .i64 ep) (.slice ma mn mc) (.slice oa on oc) 25)
  have HU := Lib.hid (Box3.new (w.alloc (.cells #[.int .i64 ep, .slice ma mn mc, .slice oa on oc] 25)) (.int .i64 0) (.slice none 0 0) (.slice none 0 0) 25)
  have k1 : Keep (fun _ => False) w (w.alloc (.cells #[.int .i64 ep, .slice ma mn mc, .slice oa on oc] 25)) := (Keep.refl _ w).alloc _
  have k3 : Keep (fun _ => False) (w.alloc (.cells #[.int .i64 ep, .slice ma mn mc, .slice oa on oc] 25)) ((w.alloc (.cells #[.int .i64 ep, .slice ma mn mc, .slice oa on oc] 25)).alloc (.cells #[.int .i64 0, .slice none 0 0, .slice none 0 0] 25)) := (Keep.refl _ _).alloc _
  have HX0 := Lib.hid (HX.out.kept k3)
  have HK0 := Lib.hid (k1.trans k3)
  simp only [World.size_alloc] at HU
  clear k1 k3 HX
  go_enter Tryz.func10, Tryz.ntmps10
  go_wp2_with fail
  generalize (w.alloc (.cells #[.int .i64 ep, .slice ma mn mc, .slice oa on oc] 25)).alloc (.cells #[.int .i64 0, .slice none 0 0, .slice none 0 0] 25) = W0 at *
  generalize hz : w.heap.size = z at HX0 HU ⊢
  have HZ := Lib.hid hz
  clear hz
  have FIN : Hid (∀ W, Hid (Keep (fun _ => False) W0 W) → Hid (Box3 (((W.setCell ⟨z + 1, 0, none⟩ (.int .i64 0)).setCell ⟨z + 1, 1, none⟩ (.slice none 0 0)).setCell ⟨z + 1, 2, none⟩ (.slice none 0 0)) (z + 1) (.int .i64 0) (.slice none 0 0) (.slice none 0 0) ∧ Keep (fun _ => False) w (((W.setCell ⟨z + 1, 0, none⟩ (.int .i64 0)).setCell ⟨z + 1, 1, none⟩ (.slice none 0 0)).setCell ⟨z + 1, 2, none⟩ (.slice none 0 0)))) := Lib.hid (fun W k =>
    Lib.hid ⟨(((HU.out.kept k.out).set0 _).set1 _).set2 _, (HK0.out.trans k.out).trans' ((((Keep.refl (fun j => j = z + 1) W).setCell (p := ⟨z + 1, 0, none⟩) _ (.inl rfl)).setCell (p := ⟨z + 1, 1, none⟩) _ (.inl rfl)).setCell (p := ⟨z + 1, 2, none⟩) _ (.inl rfl)) (fun j e => .inr (by have h5 : j = z + 1 := e; have := HZ.out; omega))⟩)
  have x1 : ∀ p : KA (fun _ => False) W0, p.val.cell? ⟨z, 1, none⟩ = some (.slice ma mn mc) := fun p => (HX0.out.kept p.k).2.1
  refine wp_region_walk [(true, 0), (true, 1), (false, 2), (false, 3), (false, 4), (false, 5)] (inKA (fun _ => False) W0) (by kernel_rfl) (by kernel_rfl) ?_
  iterate 2 (refine walkW_read rfl (fun K hK => ?_); go_simp; refine hK _ ?_; clear hK K)
  clear x1
  have HKD : Hid (Keep (fun _ => False) W0 W0.drew) := Lib.hid (Keep.refl _ W0).drew
  have HIS := Lib.hid (is_any nd W0.drew)
  generalize W0.drew = W1 at *
  refine walkW_do rfl (inKA.of HKD.out) (fun K hK => ?_)
  go_simp
  refine hK _ _ ?_; clear hK K
  refine walkW_do rfl (inKA.of HKD.out) (fun K hK => ?_)
  go_simp
  refine HIS.out.mono ?_
  rintro e W2 ⟨rfl, hcell, k2, -⟩
  refine hK _ _ ?_; clear hK K
  have HK2 := Lib.hid (HKD.out.trans k2)
  have HCI := Lib.hid (indexIs_any _ lr W1.heap.size nd W2 (HML.out.kept (HK0.out.trans HK2.out)) hcell (by omega))
  clear hcell k2 HIS
  generalize W1.heap.size = b1 at *
  refine walkW_do rfl (inKA.of HK2.out) (fun K hK => ?_)
  go_simp
  refine HCI.out.mono ?_
  rintro e W3 ⟨⟨r, rfl, hr⟩, k3⟩
  have HIX : Hid (r < 0 ∨ (¬ r < 0 ∧ hasN lr nd = true)) := Lib.hid (by
    rcases hr with ⟨rfl, -⟩ | ⟨k', m', rfl, h1, h2, -⟩
    · exact .inl (by omega)
    · refine .inr ⟨by omega, ?_⟩
      unfold hasN
      rw [List.any_eq_true]
      exact ⟨m', List.mem_of_getElem? h1, by simpa using h2⟩)
  refine hK _ _ ?_; clear hK K
  have HK3 := Lib.hid (HK2.out.trans k3)
  clear k3 HCI hr
  refine walkW_do rfl (inKA.of HK3.out) (fun K hK => ?_)
  go_simp
  refine hK _ _ ?_; clear hK K
  refine ⟨inKA.of HK3.out, ?_⟩
  have HX3 := Lib.hid (HX0.out.kept HK3.out)
  have HKW3 := Lib.hid (HK0.out.trans HK3.out)
  clear HX0 HK2 HKD
  have x1 : ∀ p : KA (fun _ => False) W3, p.val.cell? ⟨z, 1, none⟩ = some (.slice ma mn mc) := fun p => (HX3.out.kept p.k).2.1
  go_wp2_with fail
  have z0 : W3.drew.cell? ⟨z, 0, none⟩ = some (.int .i64 ep) := (HX3.out.kept (Keep.refl _ W3).drew).1
  have z1 : W3.drew.cell? ⟨z, 1, none⟩ = some (.slice ma mn mc) := (HX3.out.kept (Keep.refl _ W3).drew).2.1
  have z2 : W3.drew.cell? ⟨z, 2, none⟩ = some (.slice oa on oc) := (HX3.out.kept (Keep.refl _ W3).drew).2.2.1
  refine wp_region_walk [(false, 0), (false, 1), (false, 2), (false, 3), (false, 4), (false, 5), (false, 6), (false, 7), (true, 8), (true, 9), (false, 10), (false, 11), (false, 12), (false, 13), (false, 14), (false, 15), (false, 16), (false, 17), (false, 18), (false, 19), (false, 20), (false, 21), (false, 22), (false, 23), (false, 24), (false, 25), (false, 26)] (inKA (fun _ => False) W3) (by kernel_rfl) (by kernel_rfl) ?_
  have HKE : Hid (Keep (fun _ => False) W3 W3.drew) := Lib.hid (Keep.refl _ W3).drew
  generalize W3.drew = V0 at *
  refine walkW_do rfl (inKA.of HKE.out) (fun K hK => ?_)
  go_simp
  refine hK _ _ ?_; clear hK K
  clear z0 z1 z2
  have hvc := validRing_any _ ep lr ow V0 (HRG.out.kept (HKW3.out.trans HKE.out))
  rw [HVR.out] at hvc
  have HVC := Lib.hid hvc
  clear hvc
  refine walkW_do rfl (inKA.of HKE.out) (fun K hK => ?_)
  go_simp
  refine HVC.out.mono ?_
  rintro e V1 ⟨rfl, k1⟩
  refine hK _ _ ?_; clear hK K
  have HK1 := Lib.hid (HKE.out.trans k1)
  clear k1 HVC HKE
  cases vr with
  | false =>
    iterate 6 (refine walkW_do rfl (inKA.of HK1.out) (fun K hK => ?_); go_simp; refine hK _ _ ?_; clear hK K)
    iterate 2 (refine walkW_read rfl (fun K hK => ?_); go_simp; refine hK _ ?_; clear hK K)
    iterate 17 (refine walkW_do rfl (inKA.of HK1.out) (fun K hK => ?_); go_simp; refine hK _ _ ?_; clear hK K)
    refine ⟨inKA.of HK1.out, ?_⟩
    have HKZ := Lib.hid (HK3.out.trans HK1.out)
    obtain ⟨u0, u1, u2, uf⟩ := HU.out.kept HKZ.out
    go_wp2_with fail
    clear u0 u1 u2 uf
    obtain ⟨⟨g0, g1, g2, -⟩, kf⟩ := (FIN.out V1 HKZ).out
    generalize ((V1.setCell ⟨z + 1, 0, none⟩ (.int .i64 0)).setCell ⟨z + 1, 1, none⟩ (.slice none 0 0)).setCell ⟨z + 1, 2, none⟩ (.slice none 0 0) = WF at *
    refine bodyPost_ret (v := .tuple #[ringV 0 (.slice none 0 0) (.slice none 0 0), .int .i64 120]) (by simp [results, Tryz.results10, go_sem, g0, g1, g2]) rfl ?_
    exact ⟨rfl, kf⟩
  | true =>
    rcases HIX.out with hrn | ⟨hrn, hnd⟩
    · skip
      iterate 6 (refine walkW_do rfl (inKA.of HK1.out) (fun K hK => ?_); go_simp; refine hK _ _ ?_; clear hK K)
      iterate 2 (refine walkW_read rfl (fun K hK => ?_); go_simp; refine hK _ ?_; clear hK K)
      iterate 17 (refine walkW_do rfl (inKA.of HK1.out) (fun K hK => ?_); go_simp; refine hK _ _ ?_; clear hK K)
      refine ⟨inKA.of HK1.out, ?_⟩
      have HKZ := Lib.hid (HK3.out.trans HK1.out)
      obtain ⟨u0, u1, u2, uf⟩ := HU.out.kept HKZ.out
      go_wp2_with fail
      clear u0 u1 u2 uf
      obtain ⟨⟨g0, g1, g2, -⟩, kf⟩ := (FIN.out V1 HKZ).out
      generalize ((V1.setCell ⟨z + 1, 0, none⟩ (.int .i64 0)).setCell ⟨z + 1, 1, none⟩ (.slice none 0 0)).setCell ⟨z + 1, 2, none⟩ (.slice none 0 0) = WF at *
      refine bodyPost_ret (v := .tuple #[ringV 0 (.slice none 0 0) (.slice none 0 0), .int .i64 120]) (by simp [results, Tryz.results10, go_sem, g0, g1, g2]) rfl ?_
      exact ⟨rfl, kf⟩
    · have HND := Lib.hid hnd
      clear hnd
      iterate 6 (refine walkW_do rfl (inKA.of HK1.out) (fun K hK => ?_); go_simp; refine hK _ _ ?_; clear hK K)
      iterate 2 (refine walkW_read rfl (fun K hK => ?_); go_simp; refine hK _ ?_; clear hK K)
      iterate 1 (refine walkW_do rfl (inKA.of HK1.out) (fun K hK => ?_); go_simp; refine hK _ _ ?_; clear hK K)
      have HIS := Lib.hid (is_any sp V1)
      refine walkW_do rfl (inKA.of HK1.out) (fun K hK => ?_)
      go_simp
      refine HIS.out.mono ?_
      rintro e V2 ⟨rfl, hcell, k2, -⟩
      refine hK _ _ ?_; clear hK K
      have HK2 := Lib.hid (HK1.out.trans k2)
      have hci := containsIs_any _ lr V1.heap.size sp V2 (HML.out.kept (HKW3.out.trans HK2.out)) hcell (by omega)
      rw [HHS.out] at hci
      have HCI := Lib.hid hci
      clear hci hcell k2 HIS HK1
      generalize V1.heap.size = b2 at *
      refine walkW_do rfl (inKA.of HK2.out) (fun K hK => ?_)
      go_simp
      refine HCI.out.mono ?_
      rintro e V3 ⟨rfl, k3⟩
      refine hK _ _ ?_; clear hK K
      have HKV := Lib.hid (HK2.out.trans k3)
      clear k3 HCI HK2
      clear x1
      have y0 : V3.cell? ⟨z, 0, none⟩ = some (.int .i64 ep) := (HX3.out.kept HKV.out).1
      cases hs with
      | true =>
        iterate 14 (refine walkW_do rfl (inKA.of HKV.out) (fun K hK => ?_); go_simp; refine hK _ _ ?_; clear hK K)
        refine ⟨inKA.of HKV.out, ?_⟩
        have HKZ := Lib.hid (HK3.out.trans HKV.out)
        obtain ⟨u0, u1, u2, uf⟩ := HU.out.kept HKZ.out
        go_wp2_with fail
        clear u0 u1 u2 uf
        obtain ⟨⟨g0, g1, g2, -⟩, kf⟩ := (FIN.out V3 HKZ).out
        generalize ((V3.setCell ⟨z + 1, 0, none⟩ (.int .i64 0)).setCell ⟨z + 1, 1, none⟩ (.slice none 0 0)).setCell ⟨z + 1, 2, none⟩ (.slice none 0 0) = WF at *
        refine bodyPost_ret (v := .tuple #[ringV 0 (.slice none 0 0) (.slice none 0 0), .int .i64 120]) (by simp [results, Tryz.results10, go_sem, g0, g1, g2]) rfl ?_
        exact ⟨rfl, kf⟩
      | false =>
        by_cases h0 : sp < 0
        · skip
          iterate 14 (refine walkW_do rfl (inKA.of HKV.out) (fun K hK => ?_); go_simp; refine hK _ _ ?_; clear hK K)
          refine ⟨inKA.of HKV.out, ?_⟩
          have HKZ := Lib.hid (HK3.out.trans HKV.out)
          obtain ⟨u0, u1, u2, uf⟩ := HU.out.kept HKZ.out
          go_wp2_with fail
          clear u0 u1 u2 uf
          obtain ⟨⟨g0, g1, g2, -⟩, kf⟩ := (FIN.out V3 HKZ).out
          generalize ((V3.setCell ⟨z + 1, 0, none⟩ (.int .i64 0)).setCell ⟨z + 1, 1, none⟩ (.slice none 0 0)).setCell ⟨z + 1, 2, none⟩ (.slice none 0 0) = WF at *
          refine bodyPost_ret (v := .tuple #[ringV 0 (.slice none 0 0) (.slice none 0 0), .int .i64 120]) (by simp [results, Tryz.results10, go_sem, g0, g1, g2]) rfl ?_
          exact ⟨rfl, kf⟩
        · by_cases h1 : 24 ≤ sp
          · skip
            iterate 14 (refine walkW_do rfl (inKA.of HKV.out) (fun K hK => ?_); go_simp; refine hK _ _ ?_; clear hK K)
            refine ⟨inKA.of HKV.out, ?_⟩
            have HKZ := Lib.hid (HK3.out.trans HKV.out)
            obtain ⟨u0, u1, u2, uf⟩ := HU.out.kept HKZ.out
            go_wp2_with fail
            clear u0 u1 u2 uf
            obtain ⟨⟨g0, g1, g2, -⟩, kf⟩ := (FIN.out V3 HKZ).out
            generalize ((V3.setCell ⟨z + 1, 0, none⟩ (.int .i64 0)).setCell ⟨z + 1, 1, none⟩ (.slice none 0 0)).setCell ⟨z + 1, 2, none⟩ (.slice none 0 0) = WF at *
            refine bodyPost_ret (v := .tuple #[ringV 0 (.slice none 0 0) (.slice none 0 0), .int .i64 120]) (by simp [results, Tryz.results10, go_sem, g0, g1, g2]) rfl ?_
            exact ⟨rfl, kf⟩
          · by_cases h2 : 1000000 ≤ ep
            · skip
              iterate 14 (refine walkW_do rfl (inKA.of HKV.out) (fun K hK => ?_); go_simp; refine hK _ _ ?_; clear hK K)
              refine ⟨inKA.of HKV.out, ?_⟩
              have HKZ := Lib.hid (HK3.out.trans HKV.out)
              obtain ⟨u0, u1, u2, uf⟩ := HU.out.kept HKZ.out
              go_wp2_with fail
              clear u0 u1 u2 uf
              obtain ⟨⟨g0, g1, g2, -⟩, kf⟩ := (FIN.out V3 HKZ).out
              generalize ((V3.setCell ⟨z + 1, 0, none⟩ (.int .i64 0)).setCell ⟨z + 1, 1, none⟩ (.slice none 0 0)).setCell ⟨z + 1, 2, none⟩ (.slice none 0 0) = WF at *
              refine bodyPost_ret (v := .tuple #[ringV 0 (.slice none 0 0) (.slice none 0 0), .int .i64 120]) (by simp [results, Tryz.results10, go_sem, g0, g1, g2]) rfl ?_
              exact ⟨rfl, kf⟩
            · exfalso
              rcases HBAD.out with h | h | h | h | h | h
              · cases h
              · rw [HND.out] at h; cases h
              · cases h
              · exact h0 h
              · exact h1 h
              · exact h2 h
end Go.Proofs.YtiacdkggbnoigaaGreatDoor

/-
  What sane calls, on its rings.
-/
namespace Go.Proofs.YtiacdkggbnoigaaGreatDoor
open Go.RowKit Go.Shelf

theorem RingRes.good {ep : Int} {l : List Mb} {ow : List Int} {w : World} {e : Ending} {w' : World} (h : RingRes true ep l ow w e w') : RingPost ep l ow w e w' := by
  obtain ⟨ep', l', ow', err, am, nm, cm, ao, no, co, h1, -, h3, h4, h5, h6, h7, h8⟩ := h
  obtain ⟨rfl, rfl, rfl, rfl⟩ := h1 rfl
  subst h3 h4
  exact ⟨am, cm, ao, co, h5, h6, h7, h8⟩
def NonePost (w : World) (e : Ending) (w' : World) : Prop := ∃ am cm ao co, e = .returned (.tuple #[.agg #[.int .i64 0, .slice am 0 cm, .slice ao 0 co], .int .i64 120]) ∧ Keep (fun _ => False) w w'
theorem RingRes.none' {ep : Int} {l : List Mb} {ow : List Int} {w : World} {e : Ending} {w' : World} (h : RingRes false ep l ow w e w') : NonePost w e w' := by
  obtain ⟨ep', l', ow', err, am, nm, cm, ao, no, co, -, h1, h3, h4, h5, h6, h7, h8⟩ := h
  obtain ⟨rfl, rfl, rfl, rfl⟩ := h1 rfl
  subst h3 h4
  exact ⟨am, cm, ao, co, h5, h8⟩
theorem okRing.obd {ep : Int} {l : List Mb} {ow : List Int} (h : okRing ep l ow) : ∀ x ∈ ow, I64 x := fun x hx => by
  have := okRing_nodes h x hx
  unfold I64
  omega
/-- A valid ring that came out of a call. -/
def GoodPost (ep : Int) (l : List Mb) (ow : List Int) (w : World) (e : Ending) (w' : World) : Prop := ∃ am cm ao co, e = .returned (.tuple #[.agg #[.int .i64 ep, .slice am l.length cm, .slice ao 64 co], .int .i64 0]) ∧ Rng w' (.agg #[.int .i64 ep, .slice am l.length cm, .slice ao 64 co]) ep l ow ∧ Keep (fun _ => False) w w'
theorem RingPost.use {ep : Int} {l : List Mb} {ow : List Int} {w : World} {e : Ending} {w' : World} (h : RingPost ep l ow w e w') (hv : VL l) (hep : I64 ep) (ho : ow.length = 64) (hob : ∀ x ∈ ow, I64 x) : GoodPost ep l ow w e w' := by
  obtain ⟨am, cm, ao, co, rfl, h2, h3, h4⟩ := h
  have h5 := its_owns h3 (by omega) hob
  rw [ho] at h5 ⊢
  exact ⟨am, cm, ao, co, rfl, ⟨hep, _, _, rfl, mbs_owns h2 (by have := hv.len; omega) hv.bd, h5⟩, h4⟩
theorem NewPost.use {ep : Int} {l : List Mb} {w : World} {e : Ending} {w' : World} (h : NewPost ep l w e w') (hv : VL l) (hep : I64 ep) : GoodPost ep l (ownersL PN QS l) w e w' := by
  obtain ⟨vm, vo, rfl, h2, h3, -, h4⟩ := h
  obtain ⟨am, cm, rfl⟩ := own_form h2
  obtain ⟨ao, co, rfl⟩ := own_form h3
  have h5 := its_owns h3 (by rw [(owners_ok PN QS hv).1]; decide) hv.obd
  have hl := (owners_ok PN QS hv).1
  rw [hl] at h5 ⊢
  exact ⟨am, cm, ao, co, rfl, ⟨hep, _, _, rfl, mbs_owns h2 (by have := hv.len; omega) hv.bd, h5⟩, h4⟩

def so1 : List Int := ownersL PN QS sl1
def so3 : List Int := changeL PN QS sl3 so1
def so6 : List Int := changeL PN QS sl6 so1
def so7 : List Int := so1.map (repF 0 7)
theorem so1_ok : okRing 1 sl1 so1 := ok_new PN QS sl1_vl (by decide)
theorem so3_ok : okRing 2 sl3 so3 := ok_change PN QS so1_ok sl3_vl (by decide)
theorem so6_ok : okRing 2 sl6 so6 := ok_change PN QS so1_ok sl6_vl (by decide)
theorem so7_len : so7.length = 64 := by unfold so7; rw [List.length_map]; exact so1_ok.2.2.2.1
theorem so7_bd : ∀ x ∈ so7, 0 ≤ x ∧ x < 24 := fun x hx => by
  obtain ⟨y, hy, rfl⟩ := List.mem_map.1 hx
  have := okRing_nodes so1_ok y hy
  unfold repF
  split <;> omega
theorem so3_load : cnt so3 0 = 64 := sane_leave so3_ok (change_ok PN QS sl3_vl so1_ok.2.2.2.1 (ok_neg so1_ok)).2
theorem so6_load : cnt so6 0 ≤ 20 ∧ 24 ≤ cnt so6 2 := sane_join so6_ok (change_ok PN QS sl6_vl so1_ok.2.2.2.1 (ok_neg so1_ok)).2
theorem so7_moves : ((movesK so1 so7 64).length : Int) = cnt so1 0 := moves_rep64 (by decide) so1_ok.2.2.2.1
section
variable {v : Value} {W : World}
theorem sane_new (vl : Value) (h : Mbs W vl sl1) (hT : Tab W) : Calls Tryz.prog 6 #[.int .i64 1, vl] W (GoodPost 1 sl1 so1 W) :=
  (new_ok 1 vl sl1 W h sl1_vl hT (by decide)).mono (fun _ _ h => h.use sl1_vl (by unfold I64; decide))
theorem sane_change (vl : Value) (h : Rng W v 1 sl1 so1) (hl : Mbs W vl sl1) (hT : Tab W) : Calls Tryz.prog 8 #[v, vl] W (GoodPost 2 sl1 so1 W) :=
  (changeR_ok v vl 1 sl1 sl1 so1 W h ((validRB_iff _ _ _).2 so1_ok) (by decide) hl sl1_vl hT).mono (fun _ _ h => by
    rw [ok_self PN QS so1_ok] at h
    exact h.use sl1_vl (by unfold I64; decide) so1_ok.2.2.2.1 so1_ok.obd)
theorem sane_leave1 (h : Rng W v 1 sl1 so1) (hT : Tab W) : Calls Tryz.prog 12 #[v, .int .i64 1] W (GoodPost 2 sl3 so3 W) :=
  (leave_any v 1 sl1 so1 1 W h (by decide) hT).mono (fun _ _ h => by
    have e1 : leaveOk 1 sl1 so1 1 = true := by
      unfold leaveOk chOk
      rw [(validRB_iff _ _ _).2 so1_ok]
      decide
    rw [e1, show sl1.filter (notN 1) = sl3 by decide] at h
    exact h.good.use sl3_vl (by unfold I64; decide) so3_ok.2.2.2.1 so3_ok.obd)
theorem sane_leave0 (h : Rng W v 2 sl3 so3) (hT : Tab W) : Calls Tryz.prog 12 #[v, .int .i64 0] W (NonePost W) :=
  (leave_any v 2 sl3 so3 0 W h (by decide) hT).mono (fun _ _ h => by
    have e1 : leaveOk 2 sl3 so3 0 = false := by
      unfold leaveOk chOk
      rw [show sl3.filter (notN 0) = [] by decide, show validL [] = false by decide]
      simp
    rw [e1] at h
    exact h.none')
theorem sane_join1 (h : Rng W v 1 sl1 so1) (hT : Tab W) : Calls Tryz.prog 21 #[v, mbV ⟨1, 0, 1⟩] W (NonePost W) :=
  (join_any v 1 sl1 so1 ⟨1, 0, 1⟩ W h (by unfold I64; decide) (by decide) hT).mono (fun _ _ h => by
    have e1 : joinOk 1 sl1 so1 ⟨1, 0, 1⟩ = false := by
      unfold joinOk
      rw [show hasN sl1 1 = true by decide]
      rfl
    rw [e1] at h
    exact h.none')
theorem sane_join2 (h : Rng W v 1 sl1 so1) (hT : Tab W) : Calls Tryz.prog 21 #[v, mbV ⟨2, 0, 2⟩] W (GoodPost 2 sl6 so6 W) :=
  (join_any v 1 sl1 so1 ⟨2, 0, 2⟩ W h (by unfold I64; decide) (by decide) hT).mono (fun _ _ h => by
    have e0 : moreM sl1 ⟨2, 0, 2⟩ = sl6 := by decide
    have e1 : joinOk 1 sl1 so1 ⟨2, 0, 2⟩ = true := by
      unfold joinOk chOk
      rw [(validRB_iff _ _ _).2 so1_ok, e0]
      decide
    rw [e1, e0] at h
    exact h.good.use sl6_vl (by unfold I64; decide) so6_ok.2.2.2.1 so6_ok.obd)
theorem sane_replace (h : Rng W v 1 sl1 so1) (hT : Tab W) : Calls Tryz.prog 10 #[v, .int .i64 0, .int .i64 7] W (GoodPost 2 sl7 so7 W) :=
  (replace_ok v 1 sl1 so1 0 7 ⟨0, 0, 1⟩ 0 W h ((validRB_iff _ _ _).2 so1_ok) (by decide) rfl rfl (by decide) (by decide) (by decide) hT).mono (fun _ _ h => by
    have e0 : moreM (sl1.filter (notN 0)) ⟨7, 0, 1⟩ = sl7 := by decide
    simp only [e0] at h
    exact h.use sl7_vl (by unfold I64; decide) so7_len (fun x hx => by have := so7_bd x hx; unfold I64; omega))
end
end Go.Proofs.YtiacdkggbnoigaaGreatDoor

/-
  Replace: both ways; its ring is valid.
-/
namespace Go.Proofs.YtiacdkggbnoigaaGreatDoor
open Go.RowKit Go.Shelf

/-- Whether Replace accepts. -/
def repOk (ep : Int) (lr : List Mb) (ow : List Int) (nd sp : Int) : Bool := validRB ep lr ow && (hasN lr nd && (!hasN lr sp && (decide (0 ≤ sp) && (decide (sp < 24) && decide (ep < 1000000)))))
/-- The members behind Replace. -/
def repM (l : List Mb) (nd sp : Int) : List Mb := match findN l nd with
  | some m => moreM (l.filter (notN nd)) ⟨sp, m.region, m.weight⟩
  | none => l
theorem repOk_false {ep : Int} {lr : List Mb} {ow : List Int} {nd sp : Int} (h : repOk ep lr ow nd sp = false) : validRB ep lr ow = false ∨ hasN lr nd = false ∨ hasN lr sp = true ∨ sp < 0 ∨ 24 ≤ sp ∨ 1000000 ≤ ep := by
  unfold repOk at h
  simp only [Bool.and_eq_false_iff, Bool.not_eq_false', decide_eq_false_iff_not] at h
  rcases h with h | h | h | h | h | h
  · exact .inl h
  · exact .inr (.inl h)
  · exact .inr (.inr (.inl h))
  · exact .inr (.inr (.inr (.inl (by omega))))
  · exact .inr (.inr (.inr (.inr (.inl (by omega)))))
  · exact .inr (.inr (.inr (.inr (.inr (by omega)))))
theorem repOk_true {ep : Int} {lr : List Mb} {ow : List Int} {nd sp : Int} (h : repOk ep lr ow nd sp = true) : validRB ep lr ow = true ∧ hasN lr nd = true ∧ hasN lr sp = false ∧ 0 ≤ sp ∧ sp < 24 ∧ ep < 1000000 := by
  unfold repOk at h
  simpa only [Bool.and_eq_true, Bool.not_eq_true', decide_eq_true_eq] using h
theorem hasN_true {l : List Mb} {n : Int} (h : hasN l n = true) : ∃ m ∈ l, m.node = n := by
  unfold hasN at h
  rw [List.any_eq_true] at h
  obtain ⟨m, h1, h2⟩ := h
  exact ⟨m, h1, by simpa using h2⟩
theorem repM_eq {l : List Mb} (hv : l.Pairwise (fun a b => a.node < b.node)) {m : Mb} (hm : m ∈ l) {nd sp : Int} (hn : m.node = nd) : repM l nd sp = moreM (l.filter (notN nd)) ⟨sp, m.region, m.weight⟩ := by
  unfold repM
  rw [← hn, findN_mem hv hm]

theorem replaceU (v : Value) (ep : Int) (lr : List Mb) (ow : List Int) (nd sp : Int) (w : World) (h : Rng w v ep lr ow) (hl : lr.length ≤ 30) (hT : Tab w) : Calls Tryz.prog 10 #[v, .int .i64 nd, .int .i64 sp] w (RingRes (repOk ep lr ow nd sp) (ep + 1) (repM lr nd sp) (ow.map (repF nd sp)) w) := by
  cases e : repOk ep lr ow nd sp with
  | false => exact (replace_bad v ep lr ow nd sp w h (repOk_false e) (by omega)).mono (fun _ _ => RingRes.bad)
  | true =>
    obtain ⟨h1, h2, h3, h4, h5, h6⟩ := repOk_true e
    obtain ⟨m, hm, hn⟩ := hasN_true h2
    obtain ⟨k, hk⟩ := List.mem_iff_getElem?.1 hm
    have hok := (validRB_iff ep lr ow).1 h1
    rw [repM_eq hok.2.2.1.asc hm hn]
    exact (replace_ok v ep lr ow nd sp m k w h h1 h6 hk hn h3 ⟨h4, h5⟩ hl hT).mono (fun _ _ => RingRes.ok')
theorem refReplaceU (v : Value) (ep : Int) (lr : List Mb) (ow : List Int) (nd sp : Int) (w : World) (h : Rng w v ep lr ow) : Calls Tryz.prog 11 #[v, .int .i64 nd, .int .i64 sp] w (RingRes (repOk ep lr ow nd sp) (ep + 1) (repM lr nd sp) (ow.map (repF nd sp)) w) := by
  cases e : repOk ep lr ow nd sp with
  | false => exact (refReplace_bad v ep lr ow nd sp w h (repOk_false e)).mono (fun _ _ => RingRes.bad)
  | true =>
    obtain ⟨h1, h2, h3, h4, h5, h6⟩ := repOk_true e
    obtain ⟨m, hm, hn⟩ := hasN_true h2
    obtain ⟨k, hk⟩ := List.mem_iff_getElem?.1 hm
    have hok := (validRB_iff ep lr ow).1 h1
    rw [repM_eq hok.2.2.1.asc hm hn]
    exact (refReplace_ok v ep lr ow nd sp m k w h h1 h6 hk hn h3 ⟨h4, h5⟩).mono (fun _ _ => RingRes.ok')

/-- The weights' sum behind Replace. -/
theorem wsum_perm {a b : List Mb} (h : a.Perm b) : wsum a = wsum b := by
  induction h with
  | nil => rfl
  | cons x _ ih => simp only [wsum]; omega
  | swap x y l => simp only [wsum]; omega
  | trans _ _ h1 h2 => omega
theorem out_perm {l : List Mb} (hs : l.Pairwise (fun a b => a.node < b.node)) {m : Mb} (hm : m ∈ l) : l.Perm (m :: l.filter (notN m.node)) := by
  induction l with
  | nil => cases hm
  | cons x l ih =>
    rw [List.pairwise_cons] at hs
    rcases List.mem_cons.1 hm with h | h
    · subst h
      have : l.filter (notN m.node) = l := List.filter_eq_self.2 (fun y hy => by unfold notN; have := hs.1 y hy; exact decide_eq_true (by omega))
      rw [List.filter_cons_of_neg (by unfold notN; simp), this]
    · have h1 := hs.1 m h
      rw [List.filter_cons_of_pos (by unfold notN; exact decide_eq_true (by omega))]
      exact ((ih hs.2 h).cons x).trans (.swap _ _ _)
theorem cnt_rep {ow : List Int} {nd sp : Int} (hne : nd ≠ sp) (n : Int) : cnt (ow.map (repF nd sp)) n = if n = sp then cnt ow nd + cnt ow sp else if n = nd then 0 else cnt ow n := by
  induction ow with
  | nil => unfold cnt; simp
  | cons x ow ih =>
    rw [List.map_cons, cnt_cons', cnt_cons', cnt_cons', cnt_cons', ih]
    unfold repF
    clear ih
    generalize cnt ow nd = c1
    generalize cnt ow sp = c2
    generalize cnt ow n = c3
    repeat' split
    all_goals omega
theorem ok_replace {ep : Int} {l : List Mb} {ow : List Int} {nd sp : Int} (h : repOk ep l ow nd sp = true) : okRing (ep + 1) (repM l nd sp) (ow.map (repF nd sp)) ∧ (repM l nd sp).length = l.length := by
  obtain ⟨h1, h2, h3, h4, h5, h6⟩ := repOk_true h
  obtain ⟨m, hm, hn⟩ := hasN_true h2
  have hok := (validRB_iff ep l ow).1 h1
  have hv := hok.2.2.1
  have hsp := hasN_false h3
  have hmk := hv.ok m hm
  have hne : nd ≠ sp := fun e => hsp m hm (by rw [hn, e])
  rw [repM_eq hv.asc hm hn]
  obtain ⟨l1, hl1⟩ : ∃ x, l.filter (notN nd) = x := ⟨_, rfl⟩
  have hm1 : ∀ x ∈ l1, x ∈ l ∧ x.node ≠ nd := fun x hx => by
    rw [← hl1] at hx
    have := List.mem_filter.1 hx
    exact ⟨this.1, by simpa [notN] using this.2⟩
  have hs1 : l1.Pairwise (fun a b => a.node < b.node) := by rw [← hl1]; exact hv.asc.sublist List.filter_sublist
  have hm2 : ∀ x ∈ l1, x.node ≠ (⟨sp, m.region, m.weight⟩ : Mb).node := fun x hx => hsp x (hm1 x hx).1
  have hp1 := moreM_perm hs1 hm2
  have hp2 := out_perm hv.asc hm
  rw [hn, hl1] at hp2
  rw [hl1]
  obtain ⟨q, hq⟩ : ∃ q, moreM l1 ⟨sp, m.region, m.weight⟩ = q := ⟨_, rfl⟩
  have hmo : okMb (⟨sp, m.region, m.weight⟩ : Mb) := by unfold okMb at hmk ⊢; simp only []; omega
  have hvq : VL q := by
    rw [← hq]
    by_cases e : l1 = []
    · subst e
      refine ⟨fun x hx => ?_, ?_, ?_⟩
      · have : x = ⟨sp, m.region, m.weight⟩ := by simpa [moreM, loM, hiM] using hx
        rw [this]; exact hmo
      · simp [moreM, loM, hiM]
      · simp [moreM, loM, hiM]
    · exact moreM_ok ⟨fun x hx => hv.ok x (hm1 x hx).1, hs1, e⟩ hmo
  rw [hq] at hp1 ⊢
  have hw : wsum q = wsum l := by
    rw [wsum_perm hp1, wsum_perm hp2]
    simp only [wsum]
  have hlen : q.length = l.length := by rw [hp1.length_eq, hp2.length_eq]; rfl
  refine ⟨⟨by have := hok.1; omega, by omega, hvq, by rw [List.length_map]; exact hok.2.2.2.1, fun n => ?_⟩, hlen⟩
  have hlim := hok.2.2.2.2
  rw [cnt_rep hne]
  by_cases e1 : n = sp
  · rw [if_pos e1, e1]
    have hq1 : (⟨sp, m.region, m.weight⟩ : Mb) ∈ q := hp1.mem_iff.2 (by simp)
    have h7 := limitL_mem hvq hq1
    have h8 := limitL_mem hv hm
    have h9 := hlim nd
    have h10 := hlim sp
    rw [limitL_none hsp] at h10
    have h11 := cnt_nn ow sp
    rw [hn] at h8
    simp only [] at h7
    rw [h7, hw, ← h8]
    omega
  · rw [if_neg e1]
    by_cases e2 : n = nd
    · rw [if_pos e2]; exact (limitL_nn q n).1
    · rw [if_neg e2]
      by_cases e3 : ∃ x ∈ l, x.node = n
      · obtain ⟨x, hx, hxn⟩ := e3
        have hxq : x ∈ q := by
          refine hp1.mem_iff.2 (List.mem_cons_of_mem _ ?_)
          rcases List.mem_cons.1 (hp2.mem_iff.1 hx) with h | h
          · subst h; exact absurd (hxn.symm.trans hn) e2
          · exact h
        have h7 := limitL_mem hvq hxq
        have h8 := limitL_mem hv hx
        rw [hxn] at h7 h8
        rw [h7, hw, ← h8]
        exact hlim n
      · have h9 := hlim n
        rw [limitL_none (fun x hx e => e3 ⟨x, hx, e⟩)] at h9
        have := (limitL_nn q n).1
        omega
end Go.Proofs.YtiacdkggbnoigaaGreatDoor

/-
  The reference's SameMoves; few of the law; Join of rings of any kind.
-/
namespace Go.Proofs.YtiacdkggbnoigaaGreatDoor
open Go.RowKit Go.Shelf

theorem Mvs.form {W : World} {v : Value} {l : List Mv} (h : Mvs W v l) : ∃ a c, v = .slice a l.length c := by
  obtain ⟨-, -, a, c, b, off, rfl, -, -, -⟩ := h
  exact ⟨a, c, by rw [List.length_map]⟩
set_option maxRecDepth 100000 in
set_option maxHeartbeats 4000000 in
theorem sameMoves_any (va vb : Value) (l : List Mv) (w : World) (ha : Mvs w va l) (hb : Mvs w vb l) (hl : l.length ≤ 1000) :
    Calls Tryz.prog 18 #[va, vb] w fun e w' => e = .returned (.bool true) ∧ Keep (fun _ => False) w w' := by
  obtain ⟨-, -, aa, ac, ab, ao, rfl, hac, haa, hacell⟩ := ha
  obtain ⟨-, -, ba, bc, bb, bo, rfl, hbc, hba, hbcell⟩ := hb
  obtain ⟨ln, hln⟩ : ∃ n, l.length = n := ⟨_, rfl⟩
  rw [List.length_map, hln] at hac hbc haa hba ⊢
  have HLN := Lib.hid hln
  have HCA := Lib.hid hacell
  have HCB := Lib.hid hbcell
  have HAA := Lib.hid haa
  have HBA := Lib.hid hba
  rw [hln] at hl
  clear hacell hbcell haa hba hln
  go_enter Tryz.func18, Tryz.ntmps18
  go_wp2_with fail
  go_loopg [5] ln (fun gh v5 wr => ∃ i : Nat, gh + i = ln ∧ v5 = .int .i64 i ∧ Keep (fun _ => False) w wr)
  case atStart => exact ⟨0, by omega, rfl, Keep.refl _ _⟩
  case round =>
    obtain ⟨i, hi, rfl, hkeep⟩ := hrel
    have HK := Lib.hid hkeep
    clear hkeep
    by_cases hlt : i < ln
    · obtain ⟨m, hm⟩ : ∃ m, l[i]? = some m := ⟨_, List.getElem?_eq_getElem (by have := HLN.out; omega)⟩
      obtain rfl := HAA.out (by omega)
      obtain rfl := HBA.out (by omega)
      obtain ⟨a0, a1, a2⟩ := HCA.out i (mvMb m) (by rw [List.getElem?_map, hm]; rfl)
      obtain ⟨b0, b1, b2⟩ := HCB.out i (mvMb m) (by rw [List.getElem?_map, hm]; rfl)
      have a0 := HK.out.cell a0 (fun h => h)
      have a1 := HK.out.cell a1 (fun h => h)
      have a2 := HK.out.cell a2 (fun h => h)
      have b0 := HK.out.cell b0 (fun h => h)
      have b1 := HK.out.cell b1 (fun h => h)
      have b2 := HK.out.cell b2 (fun h => h)
      obtain ⟨x, y, z⟩ := m
      simp only [mvMb] at a0 a1 a2 b0 b1 b2
      have hiz : (i : Int) < (ln : Int) := by omega
      have hi0 : (0 : Int) ≤ (i : Int) := by omega
      clear hm
      go_upto_region 6 with (fail)
      go_quiet (fail)
      clear a0 a1 a2 b0 b1 b2
      have HK2 := Lib.hid (HK.out.trans ((Keep.refl (fun _ => False) wr).drewN nq))
      generalize wr.drewN nq = Y0 at *
      go_wp2_with fail
      go_roundg (ln - (i + 1))
      case rel => exact ⟨i + 1, by omega, by go_num, HK2.out⟩
      case measure => omega
    · obtain rfl : i = ln := by omega
      have hiz : ¬ ((i : Int) < (i : Int)) := by omega
      go_wp2_with fail
      go_ret
      exact ⟨rfl, HK.out⟩

/-- A ring, cut. -/
theorem Rng.cut {W : World} {ep : Int} {ma oa : Option Addr} {mn mc on oc : Nat} {l : List Mb} {ow : List Int} (h : Rng W (.agg #[.int .i64 ep, .slice ma mn mc, .slice oa on oc]) ep l ow) {p q : Nat} (hp : p ≤ mn) (hq : q ≤ on) :
    Rng W (.agg #[.int .i64 ep, .slice ma p mc, .slice oa q oc]) ep (l.take p) (ow.take q) ∧ (l.take p).length = p ∧ (ow.take q).length = q ∧ mn ≤ mc ∧ on ≤ oc := by
  obtain ⟨hb, vm, vo, e, hm, ho⟩ := h
  cases e
  obtain ⟨h1, h2, h3⟩ := hm.cut hp
  obtain ⟨g1, g2, g3⟩ := ho.cut hq
  exact ⟨⟨hb, _, _, rfl, h1, g1⟩, h2, g2, h3, g3⟩
set_option maxRecDepth 100000 in
set_option maxHeartbeats 4000000 in
theorem few_any (v : Value) (ep : Int) (l : List Mb) (ow : List Int) (w : World) (h : Rng w v ep l ow) :
    Calls Tryz.prog 5 #[v] w fun e w' => ∃ am cm ao co, e = .returned (.agg #[.int .i64 ep, .slice am (l.take 25).length cm, .slice ao (ow.take 66).length co]) ∧ Rng w' (.agg #[.int .i64 ep, .slice am (l.take 25).length cm, .slice ao (ow.take 66).length co]) ep (l.take 25) (ow.take 66) ∧ Keep (fun _ => False) w w' := by
  have HRG := Lib.hid h
  obtain ⟨hb0, vm, vo, rfl, hm0, ho0⟩ := h
  obtain ⟨ma, mc, hmv⟩ : ∃ a c, vm = .slice a l.length c := by obtain ⟨a, c, b, off, h, _⟩ := hm0.at_; exact ⟨_, _, h⟩
  obtain ⟨oa, oc, hov⟩ : ∃ a c, vo = .slice a ow.length c := by obtain ⟨a, c, b, off, h, _⟩ := ho0.at_; exact ⟨_, _, h⟩
  subst hmv hov
  clear hm0 ho0 hb0
  obtain ⟨p, hp⟩ : ∃ p, min l.length 25 = p := ⟨_, rfl⟩
  obtain ⟨q, hq⟩ : ∃ q, min ow.length 66 = q := ⟨_, rfl⟩
  have htp : l.take 25 = l.take p := by rw [← hp, List.take_eq_take_min, Nat.min_comm]
  have htq : ow.take 66 = ow.take q := by rw [← hq, List.take_eq_take_min, Nat.min_comm]
  obtain ⟨hc, l1, l2, hmc, hoc⟩ := HRG.out.cut (p := p) (q := q) (by omega) (by omega)
  rw [htp, htq, l1, l2]
  obtain ⟨mn, hmn⟩ : ∃ n, l.length = n := ⟨_, rfl⟩
  obtain ⟨on, hon⟩ : ∃ n, ow.length = n := ⟨_, rfl⟩
  rw [hmn] at hp hmc HRG ⊢
  rw [hon] at hq hoc HRG ⊢
  have HC := Lib.hid hc
  have ep1 : min (mn : Int) 25 = (p : Int) := by omega
  have eq1 : min (on : Int) 66 = (q : Int) := by omega
  have hpm : p ≤ mc := by omega
  have hqo : q ≤ oc := by omega
  have hp0 : (0 : Int) ≤ (p : Int) := by omega
  have hq0 : (0 : Int) ≤ (q : Int) := by omega
  have hpz : (p : Int) ≤ (mc : Int) := by omega
  have hqz : (q : Int) ≤ (oc : Int) := by omega
  clear hp hq hmn hon hc htp htq l1 l2
  have HX := Lib.hid (Box3.new w (.int .i64 ep) (.slice ma mn mc) (.slice oa on oc) 25)
  have HY := Lib.hid (Box3.new (w.alloc (.cells #[.int .i64 ep, .slice ma mn mc, .slice oa on oc] 25)) (.int .i64 0) (.slice none 0 0) (.slice none 0 0) 25)
  have k1 : Keep (fun _ => False) w (w.alloc (.cells #[.int .i64 ep, .slice ma mn mc, .slice oa on oc] 25)) := (Keep.refl _ w).alloc _
  have k2 : Keep (fun _ => False) (w.alloc (.cells #[.int .i64 ep, .slice ma mn mc, .slice oa on oc] 25)) ((w.alloc (.cells #[.int .i64 ep, .slice ma mn mc, .slice oa on oc] 25)).alloc (.cells #[.int .i64 0, .slice none 0 0, .slice none 0 0] 25)) := (Keep.refl _ _).alloc _
  have HX0 := Lib.hid (HX.out.kept k2)
  rw [World.size_alloc] at HY
  have HK0 := Lib.hid (k1.trans k2)
  clear k1 k2 HX
  go_enter Tryz.func5, Tryz.ntmps5
  go_upto_region 1 with (fail)
  generalize (w.alloc (.cells #[.int .i64 ep, .slice ma mn mc, .slice oa on oc] 25)).alloc (.cells #[.int .i64 0, .slice none 0 0, .slice none 0 0] 25) = W0 at *
  generalize hz : w.heap.size = z at HX0 HY ⊢
  have HZ := Lib.hid hz
  clear hz
  obtain ⟨x0, x1, x2, xf⟩ := HX0.out
  go_upto_region 2 with (fail)
  clear x0 x1 x2 xf
  have HX1 := Lib.hid (HX0.out.set1 (.slice ma p mc))
  have HY1 := Lib.hid (HY.out.other (b := z) (o := 1) (by omega) (.slice ma p mc))
  have HK1 : Hid (Keep (fun j => j = z) W0 (W0.setCell ⟨z, 1, none⟩ (.slice ma p mc))) := Lib.hid ((Keep.refl (fun j => j = z) W0).setCell (p := ⟨z, 1, none⟩) _ (.inl rfl))
  generalize W0.setCell ⟨z, 1, none⟩ (.slice ma p mc) = W1 at *
  obtain ⟨x0, x1, x2, xf⟩ := HX1.out
  go_upto_region 3 with (fail)
  clear x0 x1 x2 xf
  have HX2 := Lib.hid (HX1.out.set2 (.slice oa q oc))
  have HY2 := Lib.hid (HY1.out.other (b := z) (o := 2) (by omega) (.slice oa q oc))
  have HK2 : Hid (Keep (fun j => j = z) W0 (W1.setCell ⟨z, 2, none⟩ (.slice oa q oc))) := Lib.hid (HK1.out.setCell (p := ⟨z, 2, none⟩) _ (.inl rfl))
  generalize W1.setCell ⟨z, 2, none⟩ (.slice oa q oc) = W2 at *
  obtain ⟨x0, x1, x2, xf⟩ := HX2.out
  obtain ⟨y0, y1, y2, yf⟩ := HY2.out
  go_wp2_with fail
  clear x0 x1 x2 xf y0 y1 y2 yf
  have HY3 := Lib.hid (((HY2.out.set0 (.int .i64 ep)).set1 (.slice ma p mc)).set2 (.slice oa q oc))
  have HK3 : Hid (Keep (fun _ => False) w (((W2.setCell ⟨z + 1, 0, none⟩ (.int .i64 ep)).setCell ⟨z + 1, 1, none⟩ (.slice ma p mc)).setCell ⟨z + 1, 2, none⟩ (.slice oa q oc))) := Lib.hid (HK0.out.trans' ((((HK2.out.mono (fun j e => show j = z ∨ j = z + 1 from .inl e)).setCell (p := ⟨z + 1, 0, none⟩) _ (.inl (.inr rfl))).setCell (p := ⟨z + 1, 1, none⟩) _ (.inl (.inr rfl))).setCell (p := ⟨z + 1, 2, none⟩) _ (.inl (.inr rfl))) (fun j e => .inr (by have := HZ.out; omega)))
  generalize ((W2.setCell ⟨z + 1, 0, none⟩ (.int .i64 ep)).setCell ⟨z + 1, 1, none⟩ (.slice ma p mc)).setCell ⟨z + 1, 2, none⟩ (.slice oa q oc) = W3 at *
  obtain ⟨g0, g1, g2, -⟩ := HY3.out
  refine bodyPost_ret (v := .agg #[.int .i64 ep, .slice ma p mc, .slice oa q oc]) (by simp [results, Tryz.results5, go_sem, g0, g1, g2]) rfl ?_
  exact ⟨ma, mc, oa, oc, rfl, HC.out.kept HK3.out, HK3.out⟩
end Go.Proofs.YtiacdkggbnoigaaGreatDoor

/-
  Apply on rings and moves of any kind: both sides.
-/
namespace Go.Proofs.YtiacdkggbnoigaaGreatDoor
open Go.RowKit Go.Shelf

theorem applyS_out {o : List Int} {m : Mv} (h : ¬ (0 ≤ m.slot ∧ m.slot < o.length)) : applyS o m = o := by
  unfold applyS
  rw [if_neg (fun h2 => h ⟨h2.1, h2.2.1⟩)]
set_option maxRecDepth 100000 in
set_option maxHeartbeats 8000000 in
theorem applyG_any (v vm : Value) (ep : Int) (lr : List Mb) (ow : List Int) (ms : List Mv) (w : World) (h : Rng w v ep lr ow) (hno : ow.length ≤ 1000) (hm : Mvs w vm ms) :
    Calls Tryz.prog 16 #[v, vm] w (CloneI (applyL ow ms) w) := by
  obtain ⟨-, rm, ro, rfl, hrm, hro⟩ := h
  obtain ⟨ma, mn, mc, rfl⟩ : ∃ a n c, rm = .slice a n c := by obtain ⟨a, c, b, off, h, _⟩ := hrm.at_; exact ⟨_, _, _, h⟩
  have HIO := Lib.hid hro
  obtain ⟨-, -, oa, oc, ob, oo, rfl, -, -, -⟩ := hro
  obtain ⟨hml, hbd, va, vc, vb, vo, rfl, hvc, hva, hvcell⟩ := hm
  obtain ⟨ln, hln⟩ : ∃ n, ms.length = n := ⟨_, rfl⟩
  rw [List.length_map, hln] at hvc hva hml ⊢
  obtain ⟨no, ho⟩ : ∃ n, ow.length = n := ⟨_, rfl⟩
  have HLN := Lib.hid hln
  have HOL := Lib.hid ho
  have HVA := Lib.hid hva
  have HVC := Lib.hid hvcell
  rw [ho] at HIO hno ⊢
  clear hrm hbd hva hvcell hln ho
  have HX := Lib.hid (Box3.new w (.int .i64 ep) (.slice ma mn mc) (.slice oa no oc) 25)
  have HK0 : Hid (Keep (fun _ => False) w (w.alloc (.cells #[.int .i64 ep, .slice ma mn mc, .slice oa no oc] 25))) := Lib.hid ((Keep.refl _ w).alloc _)
  go_enter Tryz.func16, Tryz.ntmps16
  go_upto_region 1 with (fail)
  generalize w.alloc (.cells #[.int .i64 ep, .slice ma mn mc, .slice oa no oc] 25) = W0 at *
  generalize hz : w.heap.size = z at HX ⊢
  have HZ := Lib.hid hz
  clear hz
  obtain ⟨x0, x1, x2, xf⟩ := HX.out
  go_wp2_with fail
  clear x0 x1 x2 xf
  with_reducible refine (cloneI_any _ ow W0 (HIO.out.kept HK0.out) (by have := HOL.out; omega)).mono ?_
  rintro e W1 ⟨ga, gc, rfl, hown, k1⟩
  rw [HOL.out] at hown ⊢
  have HKS := Lib.hid HK0.out.size
  replace k1 := HK0.out.trans k1
  generalize W0.heap.size = B at *
  have HOW : Hid (W1.ownsRow B 3 1 (.slice ga no gc) no ((applyL ow (ms.take 0)).map (fun x => Value.int .i64 x))) := Lib.hid hown
  have HOGB : Hid (∀ j, (Value.slice ga no gc).ownBlock = some j → w.heap.size ≤ j) := Lib.hid (fun j hj => by have := (hown.lt j hj).1; have := HKS.out; omega)
  have HK1 := Lib.hid k1
  clear hown k1
  go_upto_region 3 with (fail)
  go_loopg [13] ln (fun gh v13 wr => ∃ i : Nat, gh + i = ln ∧ v13 = .int .i64 i ∧ wr.ownsRow B 3 1 (.slice ga no gc) no ((applyL ow (ms.take i)).map (fun x => Value.int .i64 x)) ∧ Keep (fun j => (Value.slice ga no gc).ownBlock = some j) W1 wr)
  case atStart => exact ⟨0, by omega, rfl, HOW.out, Keep.refl _ _⟩
  case round =>
    obtain ⟨i, hi, rfl, hown, hkeep⟩ := hrel
    have HOI := Lib.hid hown
    have HK := Lib.hid hkeep
    have HKW : Hid (Keep (fun _ => False) w wr) := Lib.hid (HK1.out.trans' hkeep (fun j e => .inr (HOGB.out j e)))
    clear hown hkeep
    by_cases hlt : i < ln
    · obtain ⟨m, hm⟩ : ∃ m, ms[i]? = some m := ⟨_, List.getElem?_eq_getElem (by have := HLN.out; omega)⟩
      obtain rfl := HVA.out (by omega)
      obtain ⟨c0, c1, c2⟩ := HVC.out i (mvMb m) (by rw [List.getElem?_map, hm]; rfl)
      have c0 := HKW.out.cell c0 (fun h => h)
      have c1 := HKW.out.cell c1 (fun h => h)
      have c2 := HKW.out.cell c2 (fun h => h)
      have HMM := Lib.hid hm
      obtain ⟨ms0, mf, mt⟩ := m
      simp only [mvMb] at c0 c1 c2
      have hiz : (i : Int) < (ln : Int) := by omega
      have hi0 : (0 : Int) ≤ (i : Int) := by omega
      have HAL : Hid ((applyL ow (ms.take i)).length = no) := Lib.hid (by rw [applyL_len]; exact HOL.out)
      clear hm
      go_upto_region 5 with (fail)
      clear c0 c1 c2
      have HB := Lib.hid (Box3.new wr (.int .i64 ms0) (.int .i64 mf) (.int .i64 mt) 77)
      have HKV : Hid (Keep (fun _ => False) wr (wr.alloc (.cells #[.int .i64 ms0, .int .i64 mf, .int .i64 mt] 77))) := Lib.hid ((Keep.refl _ wr).alloc _)
      generalize wr.alloc (.cells #[.int .i64 ms0, .int .i64 mf, .int .i64 mt] 77) = V at *
      generalize wr.heap.size = zb at *
      have HOV := Lib.hid (ownsRow_keep HOI.out HKV.out (fun _ _ h => h))
      have a0 : ∀ p : KA (fun _ => False) V, p.val.cell? ⟨zb, 0, none⟩ = some (.int .i64 ms0) := fun p => (HB.out.kept p.k).1
      have a1 : ∀ p : KA (fun _ => False) V, p.val.cell? ⟨zb, 1, none⟩ = some (.int .i64 mf) := fun p => (HB.out.kept p.k).2.1
      by_cases hin : 0 ≤ ms0 ∧ ms0 < no
      · obtain ⟨hs0, hs1⟩ := hin
        obtain ⟨q, rfl⟩ : ∃ q : Nat, ms0 = q := ⟨ms0.toNat, by omega⟩
        have hq : q < no := by omega
        obtain ⟨og, rfl⟩ := own_some' HOV.out (by omega)
        obtain ⟨xq, hxq⟩ : ∃ x, (applyL ow (ms.take i))[q]? = some x := ⟨_, List.getElem?_eq_getElem (by rw [HAL.out]; exact hq)⟩
        have HXQ := Lib.hid hxq
        have cq : V.cell? ⟨og, q, none⟩ = some (.int .i64 xq) := by
          rw [HOV.out.cellAt q (by omega), List.getElem?_map, hxq]; rfl
        have HCQ := Lib.hid cq
        clear hxq cq
        have aq : ∀ p : KA (fun _ => False) V, p.val.cell? ⟨og, q, none⟩ = some (.int .i64 xq) := fun p => p.k.cell HCQ.out (fun h => h)
        refine wp_region_walk [(false, 0), (false, 1), (false, 2), (false, 3), (true, 4), (true, 5), (false, 6), (false, 7), (false, 8), (false, 9), (false, 10), (true, 11), (true, 12), (true, 13), (true, 14), (true, 15), (false, 16), (false, 17), (false, 18), (false, 19)] (inKA (fun _ => False) V) (by kernel_rfl) (by kernel_rfl) ?_
        have HKD : Hid (Keep (fun _ => False) V V.drew) := Lib.hid (Keep.refl _ V).drew
        obtain ⟨b0, b1, b2, bf⟩ := HB.out.kept HKD.out
        generalize V.drew = V1 at *
        iterate 4 (refine walkW_do rfl (inKA.of HKD.out) (fun K hK => ?_); go_simp; refine hK _ _ ?_; clear hK K)
        iterate 2 (refine walkW_read rfl (fun K hK => ?_); go_simp; refine hK _ ?_; clear hK K)
        iterate 5 (refine walkW_do rfl (inKA.of HKD.out) (fun K hK => ?_); go_simp; refine hK _ _ ?_; clear hK K)
        iterate 5 (refine walkW_read rfl (fun K hK => ?_); go_simp; refine hK _ ?_; clear hK K)
        iterate 4 (refine walkW_do rfl (inKA.of HKD.out) (fun K hK => ?_); go_simp; refine hK _ _ ?_; clear hK K)
        clear a0 a1 aq
        refine ⟨inKA.of HKD.out, ?_⟩
        have HKR : Hid (Keep (fun j => (Value.slice (some ⟨og, 0, none⟩) no gc).ownBlock = some j) W1 V1) := Lib.hid ((HK.out.trans (HKV.out.mono (fun _ h => h.elim))).trans (HKD.out.mono (fun _ h => h.elim)))
        have HOD := Lib.hid (ownsRow_keep HOV.out HKD.out (fun _ _ h => h))
        clear HK HKW HKV HKD HOV HOI HCQ HB
        by_cases hxm : xq = mf
        · subst hxm
          have HST := Lib.hid (HOD.out.stored q (.int .i64 mt)).1
          have HN : Hid ((V1.setCell ⟨og, q, none⟩ (.int .i64 mt)).ownsRow B 3 1 (.slice (some ⟨og, 0, none⟩) no gc) no ((applyL ow (ms.take (i + 1))).map (fun x => Value.int .i64 x))) := Lib.hid (by
            rw [applyL_take HMM.out, applyS_hit HXQ.out, List.map_set]
            exact HST.out)
          have HKN : Hid (Keep (fun j => (Value.slice (some ⟨og, 0, none⟩) no gc).ownBlock = some j) W1 (V1.setCell ⟨og, q, none⟩ (.int .i64 mt))) := Lib.hid (HKR.out.setCell (p := ⟨og, q, none⟩) _ (.inl rfl))
          have yf : ∀ o, V1.frozen? ⟨og, o, none⟩ = false := fun o => HOD.out.frozenAt o
          have cq : ∃ u, V1.cell? ⟨og, q, none⟩ = some u := by
            rw [HOD.out.cellAt q (by omega), List.getElem?_map, HXQ.out]; exact ⟨_, rfl⟩
          obtain ⟨yu, cq⟩ := cq
          clear HST
          go_wp2_with fail
          clear yf cq b0 b1 b2 bf
          generalize V1.setCell ⟨og, q, none⟩ (.int .i64 mt) = W9 at *
          go_roundg (ln - (i + 1))
          case rel => exact ⟨i + 1, by omega, by go_num, HN.out, HKN.out⟩
          case measure => omega
        · have HN : Hid (V1.ownsRow B 3 1 (.slice (some ⟨og, 0, none⟩) no gc) no ((applyL ow (ms.take (i + 1))).map (fun x => Value.int .i64 x))) := Lib.hid (by
            rw [applyL_take HMM.out, applyS_miss HXQ.out hxm]
            exact HOD.out)
          have hxb : (xq == mf) = false := by simpa using hxm
          go_wp2_with fail
          clear b0 b1 b2 bf
          go_roundg (ln - (i + 1))
          case rel => exact ⟨i + 1, by omega, by go_num, HN.out, HKR.out⟩
          case measure => omega
      · have HSAME : Hid (applyL ow (ms.take (i + 1)) = applyL ow (ms.take i)) := Lib.hid (by rw [applyL_take HMM.out, applyS_out (by simp only []; rw [HAL.out]; exact hin)])
        have hcase : ¬ (0 : Int) ≤ ms0 ∨ ((0 : Int) ≤ ms0 ∧ ¬ ms0 < (no : Int)) := by omega
        clear hin
        rcases hcase with hsn | ⟨hs0, hsn⟩
        all_goals
          refine wp_region_walk [(false, 0), (false, 1), (false, 2), (false, 3), (true, 4), (true, 5), (false, 6), (false, 7), (false, 8), (false, 9), (false, 10), (true, 11), (true, 12), (true, 13), (true, 14), (true, 15), (false, 16), (false, 17), (false, 18), (false, 19)] (inKA (fun _ => False) V) (by kernel_rfl) (by kernel_rfl) ?_
          have HKD : Hid (Keep (fun _ => False) V V.drew) := Lib.hid (Keep.refl _ V).drew
          obtain ⟨b0, b1, b2, bf⟩ := HB.out.kept HKD.out
          generalize V.drew = V1 at *
          iterate 4 (refine walkW_do rfl (inKA.of HKD.out) (fun K hK => ?_); go_simp; refine hK _ _ ?_; clear hK K)
          iterate 2 (refine walkW_read rfl (fun K hK => ?_); go_simp; refine hK _ ?_; clear hK K)
          iterate 5 (refine walkW_do rfl (inKA.of HKD.out) (fun K hK => ?_); go_simp; refine hK _ _ ?_; clear hK K)
          iterate 5 (refine walkW_read rfl (fun K hK => ?_); go_simp; refine hK _ ?_; clear hK K)
          iterate 4 (refine walkW_do rfl (inKA.of HKD.out) (fun K hK => ?_); go_simp; refine hK _ _ ?_; clear hK K)
          clear a0 a1
          refine ⟨inKA.of HKD.out, ?_⟩
          have HKR : Hid (Keep (fun j => (Value.slice ga no gc).ownBlock = some j) W1 V1) := Lib.hid ((HK.out.trans (HKV.out.mono (fun _ h => h.elim))).trans (HKD.out.mono (fun _ h => h.elim)))
          have HN : Hid (V1.ownsRow B 3 1 (.slice ga no gc) no ((applyL ow (ms.take (i + 1))).map (fun x => Value.int .i64 x))) := Lib.hid (by rw [HSAME.out]; exact ownsRow_keep HOV.out HKD.out (fun _ _ h => h))
          clear HK HKW HKV HKD HOV HOI HB
          go_wp2_with fail
          clear b0 b1 b2 bf
          go_roundg (ln - (i + 1))
        · exact ⟨i + 1, by omega, by go_num, HN.out, HKR.out⟩
        · omega
        · exact ⟨i + 1, by omega, by go_num, HN.out, HKR.out⟩
        · omega
    · obtain rfl : i = ln := by omega
      have hiz : ¬ ((i : Int) < (i : Int)) := by omega
      have HOE : Hid (wr.ownsRow B 3 1 (.slice ga no gc) no ((applyL ow ms).map (fun x => Value.int .i64 x))) := Lib.hid (by
        have h1 := HOI.out
        rwa [List.take_of_length_le (by have := HLN.out; omega)] at h1)
      go_wp2_with fail
      go_ret
      have hal : (applyL ow ms).length = no := by rw [applyL_len]; exact HOL.out
      exact ⟨ga, gc, by rw [hal]; rfl, by rw [hal]; exact ownsRow_lo HOE.out HKS.out, HKW.out⟩
set_option maxRecDepth 100000 in
set_option maxHeartbeats 8000000 in
theorem refApplyG_any (v vm : Value) (ep : Int) (lr : List Mb) (ow : List Int) (ms : List Mv) (w : World) (h : Rng w v ep lr ow) (hno : ow.length ≤ 1000) (hm : Mvs w vm ms) :
    Calls Tryz.prog 17 #[v, vm] w (CloneI (applyL ow ms) w) := by
  obtain ⟨-, rm, ro, rfl, hrm, hro⟩ := h
  obtain ⟨ma, mn, mc, rfl⟩ : ∃ a n c, rm = .slice a n c := by obtain ⟨a, c, b, off, h, _⟩ := hrm.at_; exact ⟨_, _, _, h⟩
  have HIO := Lib.hid hro
  obtain ⟨-, -, oa, oc, ob, oo, rfl, -, -, -⟩ := hro
  obtain ⟨hml, hbd, va, vc, vb, vo, rfl, hvc, hva, hvcell⟩ := hm
  obtain ⟨ln, hln⟩ : ∃ n, ms.length = n := ⟨_, rfl⟩
  rw [List.length_map, hln] at hvc hva hml ⊢
  obtain ⟨no, ho⟩ : ∃ n, ow.length = n := ⟨_, rfl⟩
  have HLN := Lib.hid hln
  have HOL := Lib.hid ho
  have HVA := Lib.hid hva
  have HVC := Lib.hid hvcell
  rw [ho] at HIO hno ⊢
  clear hrm hbd hva hvcell hln ho
  have HX := Lib.hid (Box3.new w (.int .i64 ep) (.slice ma mn mc) (.slice oa no oc) 25)
  have HK0 : Hid (Keep (fun _ => False) w (w.alloc (.cells #[.int .i64 ep, .slice ma mn mc, .slice oa no oc] 25))) := Lib.hid ((Keep.refl _ w).alloc _)
  go_enter Tryz.func17, Tryz.ntmps17
  go_upto_region 1 with (fail)
  generalize w.alloc (.cells #[.int .i64 ep, .slice ma mn mc, .slice oa no oc] 25) = W0 at *
  generalize hz : w.heap.size = z at HX ⊢
  have HZ := Lib.hid hz
  clear hz
  obtain ⟨ga, gc, W1, hr, k1, hown⟩ := lit_its W0 _ ow (HIO.out.kept HK0.out) (by have := HOL.out; omega)
  rw [HOL.out] at hr hown
  have HR := Lib.hid hr
  have HKS := Lib.hid HK0.out.size
  replace k1 := HK0.out.trans k1
  have HK1' := Lib.hid k1
  have HOW' := Lib.hid hown
  clear hr k1 hown
  obtain ⟨x0, x1, x2, xf⟩ := HX.out.kept (show Keep (fun _ => False) W0 (W0.alloc (.cells #[] 3)) from (Keep.refl _ W0).alloc _)
  go_wp2_with (at_builtin; refine wpList_app rfl (.tmp 8) (.tmp 10) 23 rfl rfl rfl HR.out ?_)
  clear x0 x1 x2 xf
  have hown := HOW'.out
  have k1 := HK1'.out
  clear HR HK1' HOW'
  generalize W0.heap.size = B at *
  have HOW : Hid (W1.ownsRow B 3 1 (.slice ga no gc) no ((applyL ow (ms.take 0)).map (fun x => Value.int .i64 x))) := Lib.hid hown
  have HOGB : Hid (∀ j, (Value.slice ga no gc).ownBlock = some j → w.heap.size ≤ j) := Lib.hid (fun j hj => by have := (hown.lt j hj).1; have := HKS.out; omega)
  have HK1 := Lib.hid k1
  clear hown k1
  skip
  go_loopg [6] ln (fun gh v13 wr => ∃ i : Nat, gh + i = ln ∧ v13 = .int .i64 i ∧ wr.ownsRow B 3 1 (.slice ga no gc) no ((applyL ow (ms.take i)).map (fun x => Value.int .i64 x)) ∧ Keep (fun j => (Value.slice ga no gc).ownBlock = some j) W1 wr)
  case atStart => exact ⟨0, by omega, rfl, HOW.out, Keep.refl _ _⟩
  case round =>
    obtain ⟨i, hi, rfl, hown, hkeep⟩ := hrel
    have HOI := Lib.hid hown
    have HK := Lib.hid hkeep
    have HKW : Hid (Keep (fun _ => False) w wr) := Lib.hid (HK1.out.trans' hkeep (fun j e => .inr (HOGB.out j e)))
    clear hown hkeep
    by_cases hlt : i < ln
    · obtain ⟨m, hm⟩ : ∃ m, ms[i]? = some m := ⟨_, List.getElem?_eq_getElem (by have := HLN.out; omega)⟩
      obtain rfl := HVA.out (by omega)
      obtain ⟨c0, c1, c2⟩ := HVC.out i (mvMb m) (by rw [List.getElem?_map, hm]; rfl)
      have c0 := HKW.out.cell c0 (fun h => h)
      have c1 := HKW.out.cell c1 (fun h => h)
      have c2 := HKW.out.cell c2 (fun h => h)
      have HMM := Lib.hid hm
      obtain ⟨ms0, mf, mt⟩ := m
      simp only [mvMb] at c0 c1 c2
      have hiz : (i : Int) < (ln : Int) := by omega
      have hi0 : (0 : Int) ≤ (i : Int) := by omega
      have HAL : Hid ((applyL ow (ms.take i)).length = no) := Lib.hid (by rw [applyL_len]; exact HOL.out)
      clear hm
      go_upto_region 6 with (fail)
      clear c0 c1 c2
      have HB := Lib.hid (Box3.new wr (.int .i64 ms0) (.int .i64 mf) (.int .i64 mt) 77)
      have HKV : Hid (Keep (fun _ => False) wr (wr.alloc (.cells #[.int .i64 ms0, .int .i64 mf, .int .i64 mt] 77))) := Lib.hid ((Keep.refl _ wr).alloc _)
      generalize wr.alloc (.cells #[.int .i64 ms0, .int .i64 mf, .int .i64 mt] 77) = V at *
      generalize wr.heap.size = zb at *
      have HOV := Lib.hid (ownsRow_keep HOI.out HKV.out (fun _ _ h => h))
      have a0 : ∀ p : KA (fun _ => False) V, p.val.cell? ⟨zb, 0, none⟩ = some (.int .i64 ms0) := fun p => (HB.out.kept p.k).1
      have a1 : ∀ p : KA (fun _ => False) V, p.val.cell? ⟨zb, 1, none⟩ = some (.int .i64 mf) := fun p => (HB.out.kept p.k).2.1
      by_cases hin : 0 ≤ ms0 ∧ ms0 < no
      · obtain ⟨hs0, hs1⟩ := hin
        obtain ⟨q, rfl⟩ : ∃ q : Nat, ms0 = q := ⟨ms0.toNat, by omega⟩
        have hq : q < no := by omega
        obtain ⟨og, rfl⟩ := own_some' HOV.out (by omega)
        obtain ⟨xq, hxq⟩ : ∃ x, (applyL ow (ms.take i))[q]? = some x := ⟨_, List.getElem?_eq_getElem (by rw [HAL.out]; exact hq)⟩
        have HXQ := Lib.hid hxq
        have cq : V.cell? ⟨og, q, none⟩ = some (.int .i64 xq) := by
          rw [HOV.out.cellAt q (by omega), List.getElem?_map, hxq]; rfl
        have HCQ := Lib.hid cq
        clear hxq cq
        have aq : ∀ p : KA (fun _ => False) V, p.val.cell? ⟨og, q, none⟩ = some (.int .i64 xq) := fun p => p.k.cell HCQ.out (fun h => h)
        refine wp_region_walk [(false, 0), (false, 1), (false, 2), (false, 3), (true, 4), (true, 5), (false, 6), (false, 7), (false, 8), (false, 9), (false, 10), (true, 11), (true, 12), (true, 13), (true, 14), (true, 15), (false, 16), (false, 17), (false, 18), (false, 19)] (inKA (fun _ => False) V) (by kernel_rfl) (by kernel_rfl) ?_
        have HKD : Hid (Keep (fun _ => False) V V.drew) := Lib.hid (Keep.refl _ V).drew
        obtain ⟨b0, b1, b2, bf⟩ := HB.out.kept HKD.out
        generalize V.drew = V1 at *
        iterate 4 (refine walkW_do rfl (inKA.of HKD.out) (fun K hK => ?_); go_simp; refine hK _ _ ?_; clear hK K)
        iterate 2 (refine walkW_read rfl (fun K hK => ?_); go_simp; refine hK _ ?_; clear hK K)
        iterate 5 (refine walkW_do rfl (inKA.of HKD.out) (fun K hK => ?_); go_simp; refine hK _ _ ?_; clear hK K)
        iterate 5 (refine walkW_read rfl (fun K hK => ?_); go_simp; refine hK _ ?_; clear hK K)
        iterate 4 (refine walkW_do rfl (inKA.of HKD.out) (fun K hK => ?_); go_simp; refine hK _ _ ?_; clear hK K)
        clear a0 a1 aq
        refine ⟨inKA.of HKD.out, ?_⟩
        have HKR : Hid (Keep (fun j => (Value.slice (some ⟨og, 0, none⟩) no gc).ownBlock = some j) W1 V1) := Lib.hid ((HK.out.trans (HKV.out.mono (fun _ h => h.elim))).trans (HKD.out.mono (fun _ h => h.elim)))
        have HOD := Lib.hid (ownsRow_keep HOV.out HKD.out (fun _ _ h => h))
        clear HK HKW HKV HKD HOV HOI HCQ HB
        by_cases hxm : xq = mf
        · subst hxm
          have HST := Lib.hid (HOD.out.stored q (.int .i64 mt)).1
          have HN : Hid ((V1.setCell ⟨og, q, none⟩ (.int .i64 mt)).ownsRow B 3 1 (.slice (some ⟨og, 0, none⟩) no gc) no ((applyL ow (ms.take (i + 1))).map (fun x => Value.int .i64 x))) := Lib.hid (by
            rw [applyL_take HMM.out, applyS_hit HXQ.out, List.map_set]
            exact HST.out)
          have HKN : Hid (Keep (fun j => (Value.slice (some ⟨og, 0, none⟩) no gc).ownBlock = some j) W1 (V1.setCell ⟨og, q, none⟩ (.int .i64 mt))) := Lib.hid (HKR.out.setCell (p := ⟨og, q, none⟩) _ (.inl rfl))
          have yf : ∀ o, V1.frozen? ⟨og, o, none⟩ = false := fun o => HOD.out.frozenAt o
          have cq : ∃ u, V1.cell? ⟨og, q, none⟩ = some u := by
            rw [HOD.out.cellAt q (by omega), List.getElem?_map, HXQ.out]; exact ⟨_, rfl⟩
          obtain ⟨yu, cq⟩ := cq
          clear HST
          go_wp2_with fail
          clear yf cq b0 b1 b2 bf
          generalize V1.setCell ⟨og, q, none⟩ (.int .i64 mt) = W9 at *
          go_roundg (ln - (i + 1))
          case rel => exact ⟨i + 1, by omega, by go_num, HN.out, HKN.out⟩
          case measure => omega
        · have HN : Hid (V1.ownsRow B 3 1 (.slice (some ⟨og, 0, none⟩) no gc) no ((applyL ow (ms.take (i + 1))).map (fun x => Value.int .i64 x))) := Lib.hid (by
            rw [applyL_take HMM.out, applyS_miss HXQ.out hxm]
            exact HOD.out)
          have hxb : (xq == mf) = false := by simpa using hxm
          go_wp2_with fail
          clear b0 b1 b2 bf
          go_roundg (ln - (i + 1))
          case rel => exact ⟨i + 1, by omega, by go_num, HN.out, HKR.out⟩
          case measure => omega
      · have HSAME : Hid (applyL ow (ms.take (i + 1)) = applyL ow (ms.take i)) := Lib.hid (by rw [applyL_take HMM.out, applyS_out (by simp only []; rw [HAL.out]; exact hin)])
        have hcase : ¬ (0 : Int) ≤ ms0 ∨ ((0 : Int) ≤ ms0 ∧ ¬ ms0 < (no : Int)) := by omega
        clear hin
        rcases hcase with hsn | ⟨hs0, hsn⟩
        all_goals
          refine wp_region_walk [(false, 0), (false, 1), (false, 2), (false, 3), (true, 4), (true, 5), (false, 6), (false, 7), (false, 8), (false, 9), (false, 10), (true, 11), (true, 12), (true, 13), (true, 14), (true, 15), (false, 16), (false, 17), (false, 18), (false, 19)] (inKA (fun _ => False) V) (by kernel_rfl) (by kernel_rfl) ?_
          have HKD : Hid (Keep (fun _ => False) V V.drew) := Lib.hid (Keep.refl _ V).drew
          obtain ⟨b0, b1, b2, bf⟩ := HB.out.kept HKD.out
          generalize V.drew = V1 at *
          iterate 4 (refine walkW_do rfl (inKA.of HKD.out) (fun K hK => ?_); go_simp; refine hK _ _ ?_; clear hK K)
          iterate 2 (refine walkW_read rfl (fun K hK => ?_); go_simp; refine hK _ ?_; clear hK K)
          iterate 5 (refine walkW_do rfl (inKA.of HKD.out) (fun K hK => ?_); go_simp; refine hK _ _ ?_; clear hK K)
          iterate 5 (refine walkW_read rfl (fun K hK => ?_); go_simp; refine hK _ ?_; clear hK K)
          iterate 4 (refine walkW_do rfl (inKA.of HKD.out) (fun K hK => ?_); go_simp; refine hK _ _ ?_; clear hK K)
          clear a0 a1
          refine ⟨inKA.of HKD.out, ?_⟩
          have HKR : Hid (Keep (fun j => (Value.slice ga no gc).ownBlock = some j) W1 V1) := Lib.hid ((HK.out.trans (HKV.out.mono (fun _ h => h.elim))).trans (HKD.out.mono (fun _ h => h.elim)))
          have HN : Hid (V1.ownsRow B 3 1 (.slice ga no gc) no ((applyL ow (ms.take (i + 1))).map (fun x => Value.int .i64 x))) := Lib.hid (by rw [HSAME.out]; exact ownsRow_keep HOV.out HKD.out (fun _ _ h => h))
          clear HK HKW HKV HKD HOV HOI HB
          go_wp2_with fail
          clear b0 b1 b2 bf
          go_roundg (ln - (i + 1))
        · exact ⟨i + 1, by omega, by go_num, HN.out, HKR.out⟩
        · omega
        · exact ⟨i + 1, by omega, by go_num, HN.out, HKR.out⟩
        · omega
    · obtain rfl : i = ln := by omega
      have hiz : ¬ ((i : Int) < (i : Int)) := by omega
      have HOE : Hid (wr.ownsRow B 3 1 (.slice ga no gc) no ((applyL ow ms).map (fun x => Value.int .i64 x))) := Lib.hid (by
        have h1 := HOI.out
        rwa [List.take_of_length_le (by have := HLN.out; omega)] at h1)
      go_wp2_with fail
      go_ret
      have hal : (applyL ow ms).length = no := by rw [applyL_len]; exact HOL.out
      exact ⟨ga, gc, by rw [hal]; rfl, by rw [hal]; exact ownsRow_lo HOE.out HKS.out, HKW.out⟩
end Go.Proofs.YtiacdkggbnoigaaGreatDoor

/-
  sane of the law.
-/
namespace Go.Proofs.YtiacdkggbnoigaaGreatDoor
open Go.RowKit Go.Shelf

theorem sane_apply : applyL so1 (movesK so1 so7 64) = so7 := by
  have h : so1.length = 64 := so1_ok.2.2.2.1
  have h2 := apply_moves (a := so1) (b := so7) (by rw [h, so7_len]) (ms := movesK so1 so7 so1.length) (List.Perm.refl _)
  rwa [h] at h2
set_option maxRecDepth 100000 in
set_option maxHeartbeats 8000000 in
theorem sane13_any (w : World) (hT : Tab w) : Calls Tryz.prog 4 #[] w fun e w' => e = .returned (.bool true) ∧ Keep (fun _ => False) w w' := by
  have HT := Lib.hid hT
  clear hT
  have i1 : Mbs (w.alloc (.cells #[.int .i64 0, .int .i64 0, .int .i64 1, .int .i64 1, .int .i64 0, .int .i64 1] 44)) (.slice (some ⟨w.heap.size, 0, none⟩) 2 2) sl1 := mbs_owns (lo := w.heap.size) (World.ownsRow_lit w #[.int .i64 0, .int .i64 0, .int .i64 1, .int .i64 1, .int .i64 0, .int .i64 1] 2 (Nat.le_refl _) (by decide) rfl) (by decide) (by unfold I64; decide)
  have k1 : Keep (fun _ => False) w (w.alloc (.cells #[.int .i64 0, .int .i64 0, .int .i64 1, .int .i64 1, .int .i64 0, .int .i64 1] 44)) := (Keep.refl _ w).alloc _
  have H1 := Lib.hid (sane_new _ i1 (HT.out.kept k1))
  have K1 := Lib.hid k1
  clear i1 k1
  go_enter Tryz.func4, Tryz.ntmps4
  go_wp2_with fail
  with_reducible refine H1.out.mono ?_
  rintro e W1 ⟨am, cm, ao, co, rfl, hr, k⟩
  rw [show sl1.length = 2 from rfl] at hr ⊢
  have K2 := Lib.hid (K1.out.trans k)
  have HR1 := Lib.hid hr
  clear H1 K1 hr k
  go_wp2_with fail
  have HB1 := Lib.hid (Box3.new W1 (.int .i64 1) (.slice am 2 cm) (.slice ao 64 co) 25)
  have k : Keep (fun _ => False) W1 (W1.alloc (.cells #[.int .i64 1, .slice am 2 cm, .slice ao 64 co] 25)) := (Keep.refl _ W1).alloc _
  have KV := Lib.hid (K2.out.trans k)
  replace HR1 := Lib.hid (HR1.out.kept k)
  clear k K2
  generalize W1.alloc (.cells #[.int .i64 1, .slice am 2 cm, .slice ao 64 co] 25) = V1 at *
  generalize W1.heap.size = z1 at *
  have HMS : Hid (Mbs V1 (.slice am 2 cm) sl1) := Lib.hid (by
    obtain ⟨-, vm, vo, e, hm, -⟩ := HR1.out
    cases e
    exact hm)
  with_reducible refine (sane_change _ HR1.out HMS.out (HT.out.kept KV.out)).mono ?_
  clear HMS
  rintro e W3 ⟨am3, cm3, ao3, co3, rfl, hr, k⟩
  rw [show sl1.length = 2 from rfl] at hr ⊢
  have ka : Keep (fun _ => False) W3 (W3.alloc (.cells #[.int .i64 2, .slice am3 2 cm3, .slice ao3 64 co3] 25)) := (Keep.refl _ W3).alloc _
  replace KV := Lib.hid (KV.out.trans (k.trans ka))
  replace HB1 := Lib.hid (HB1.out.kept (k.trans ka))
  replace HR1 := Lib.hid (HR1.out.kept (k.trans ka))
  have HR3 := Lib.hid (hr.kept ka)
  have HB3 := Lib.hid (Box3.new W3 (.int .i64 2) (.slice am3 2 cm3) (.slice ao3 64 co3) 25)
  clear k ka hr
  go_upto_region 3 with (fail)
  generalize W3.alloc (.cells #[.int .i64 2, .slice am3 2 cm3, .slice ao3 64 co3] 25) = V3 at *
  generalize W3.heap.size = z3 at *
  obtain ⟨x0, x1, x2, -⟩ := HB1.out
  go_wp2_with fail
  clear x0 x1 x2
  with_reducible refine (sane_leave1 HR1.out (HT.out.kept KV.out)).mono ?_
  rintro e W5 ⟨am5, cm5, ao5, co5, rfl, hr, k⟩
  rw [show sl3.length = 1 from rfl] at hr ⊢
  have ka : Keep (fun _ => False) W5 (W5.alloc (.cells #[.int .i64 2, .slice am5 1 cm5, .slice ao5 64 co5] 25)) := (Keep.refl _ W5).alloc _
  replace KV := Lib.hid (KV.out.trans (k.trans ka))
  replace HB1 := Lib.hid (HB1.out.kept (k.trans ka))
  replace HR1 := Lib.hid (HR1.out.kept (k.trans ka))
  replace HB3 := Lib.hid (HB3.out.kept (k.trans ka))
  replace HR3 := Lib.hid (HR3.out.kept (k.trans ka))
  have HR5 := Lib.hid (hr.kept ka)
  have HB5 := Lib.hid (Box3.new W5 (.int .i64 2) (.slice am5 1 cm5) (.slice ao5 64 co5) 25)
  clear k ka hr
  go_upto_region 4 with (fail)
  generalize W5.alloc (.cells #[.int .i64 2, .slice am5 1 cm5, .slice ao5 64 co5] 25) = V5 at *
  generalize W5.heap.size = z5 at *
  obtain ⟨x0, x1, x2, -⟩ := HB5.out
  go_wp2_with fail
  clear x0 x1 x2
  with_reducible refine (sane_leave0 HR5.out (HT.out.kept KV.out)).mono ?_
  rintro e W7 ⟨am7, cm7, ao7, co7, rfl, k⟩
  have ka : Keep (fun _ => False) W7 (W7.alloc (.cells #[.int .i64 0, .slice am7 0 cm7, .slice ao7 0 co7] 25)) := (Keep.refl _ W7).alloc _
  replace KV := Lib.hid (KV.out.trans (k.trans ka))
  replace HB1 := Lib.hid (HB1.out.kept (k.trans ka))
  replace HR1 := Lib.hid (HR1.out.kept (k.trans ka))
  replace HB3 := Lib.hid (HB3.out.kept (k.trans ka))
  replace HR3 := Lib.hid (HR3.out.kept (k.trans ka))
  replace HB5 := Lib.hid (HB5.out.kept (k.trans ka))
  replace HR5 := Lib.hid (HR5.out.kept (k.trans ka))
  have HB7 := Lib.hid (Box3.new W7 (.int .i64 0) (.slice am7 0 cm7) (.slice ao7 0 co7) 25)
  clear k ka
  go_upto_region 5 with (fail)
  generalize W7.alloc (.cells #[.int .i64 0, .slice am7 0 cm7, .slice ao7 0 co7] 25) = V7 at *
  generalize W7.heap.size = z7 at *
  obtain ⟨x0, x1, x2, -⟩ := HB1.out
  go_wp2_with fail
  clear x0 x1 x2
  with_reducible refine (sane_join1 HR1.out (HT.out.kept KV.out)).mono ?_
  rintro e W9 ⟨am9, cm9, ao9, co9, rfl, k⟩
  have ka : Keep (fun _ => False) W9 (W9.alloc (.cells #[.int .i64 0, .slice am9 0 cm9, .slice ao9 0 co9] 25)) := (Keep.refl _ W9).alloc _
  replace KV := Lib.hid (KV.out.trans (k.trans ka))
  replace HB1 := Lib.hid (HB1.out.kept (k.trans ka))
  replace HR1 := Lib.hid (HR1.out.kept (k.trans ka))
  replace HB3 := Lib.hid (HB3.out.kept (k.trans ka))
  replace HR3 := Lib.hid (HR3.out.kept (k.trans ka))
  replace HB5 := Lib.hid (HB5.out.kept (k.trans ka))
  replace HR5 := Lib.hid (HR5.out.kept (k.trans ka))
  replace HB7 := Lib.hid (HB7.out.kept (k.trans ka))
  have HB9 := Lib.hid (Box3.new W9 (.int .i64 0) (.slice am9 0 cm9) (.slice ao9 0 co9) 25)
  clear k ka
  go_upto_region 6 with (fail)
  generalize W9.alloc (.cells #[.int .i64 0, .slice am9 0 cm9, .slice ao9 0 co9] 25) = V9 at *
  generalize W9.heap.size = z9 at *
  obtain ⟨x0, x1, x2, -⟩ := HB1.out
  go_wp2_with fail
  clear x0 x1 x2
  with_reducible refine (sane_join2 HR1.out (HT.out.kept KV.out)).mono ?_
  rintro e W11 ⟨am11, cm11, ao11, co11, rfl, hr, k⟩
  rw [show sl6.length = 3 from rfl] at hr ⊢
  have ka : Keep (fun _ => False) W11 (W11.alloc (.cells #[.int .i64 2, .slice am11 3 cm11, .slice ao11 64 co11] 25)) := (Keep.refl _ W11).alloc _
  replace KV := Lib.hid (KV.out.trans (k.trans ka))
  replace HB1 := Lib.hid (HB1.out.kept (k.trans ka))
  replace HR1 := Lib.hid (HR1.out.kept (k.trans ka))
  replace HB3 := Lib.hid (HB3.out.kept (k.trans ka))
  replace HR3 := Lib.hid (HR3.out.kept (k.trans ka))
  replace HB5 := Lib.hid (HB5.out.kept (k.trans ka))
  replace HR5 := Lib.hid (HR5.out.kept (k.trans ka))
  replace HB7 := Lib.hid (HB7.out.kept (k.trans ka))
  replace HB9 := Lib.hid (HB9.out.kept (k.trans ka))
  have HR11 := Lib.hid (hr.kept ka)
  have HB11 := Lib.hid (Box3.new W11 (.int .i64 2) (.slice am11 3 cm11) (.slice ao11 64 co11) 25)
  clear k ka hr
  go_upto_region 7 with (fail)
  generalize W11.alloc (.cells #[.int .i64 2, .slice am11 3 cm11, .slice ao11 64 co11] 25) = V11 at *
  generalize W11.heap.size = z11 at *
  obtain ⟨x0, x1, x2, -⟩ := HB1.out
  go_wp2_with fail
  clear x0 x1 x2
  with_reducible refine (sane_replace HR1.out (HT.out.kept KV.out)).mono ?_
  rintro e W13 ⟨am13, cm13, ao13, co13, rfl, hr, k⟩
  rw [show sl7.length = 2 from rfl] at hr ⊢
  have ka : Keep (fun _ => False) W13 (W13.alloc (.cells #[.int .i64 2, .slice am13 2 cm13, .slice ao13 64 co13] 25)) := (Keep.refl _ W13).alloc _
  replace KV := Lib.hid (KV.out.trans (k.trans ka))
  replace HB1 := Lib.hid (HB1.out.kept (k.trans ka))
  replace HR1 := Lib.hid (HR1.out.kept (k.trans ka))
  replace HB3 := Lib.hid (HB3.out.kept (k.trans ka))
  replace HR3 := Lib.hid (HR3.out.kept (k.trans ka))
  replace HB5 := Lib.hid (HB5.out.kept (k.trans ka))
  replace HR5 := Lib.hid (HR5.out.kept (k.trans ka))
  replace HB7 := Lib.hid (HB7.out.kept (k.trans ka))
  replace HB9 := Lib.hid (HB9.out.kept (k.trans ka))
  replace HB11 := Lib.hid (HB11.out.kept (k.trans ka))
  replace HR11 := Lib.hid (HR11.out.kept (k.trans ka))
  have HR13 := Lib.hid (hr.kept ka)
  have HB13 := Lib.hid (Box3.new W13 (.int .i64 2) (.slice am13 2 cm13) (.slice ao13 64 co13) 25)
  clear k ka hr
  go_upto_region 8 with (fail)
  generalize W13.alloc (.cells #[.int .i64 2, .slice am13 2 cm13, .slice ao13 64 co13] 25) = V13 at *
  generalize W13.heap.size = z13 at *
  obtain ⟨x0, x1, x2, -⟩ := HB13.out
  obtain ⟨a0, a1, a2, -⟩ := HB1.out
  go_wp2_with fail
  clear x0 x1 x2 a0 a1 a2
  have hl1 : so1.length = 64 := so1_ok.2.2.2.1
  with_reducible refine (moves_any _ _ 1 2 sl1 sl7 so1 so7 V13 HR1.out HR13.out hl1 so7_len).mono ?_
  rintro e W15 ⟨a15, c15, rfl, hmv, k⟩
  obtain ⟨n15, hn15⟩ : ∃ n, (movesK so1 so7 64).length = n := ⟨_, rfl⟩
  have HMV : Hid (Mvs W15 (.slice a15 n15 c15) (movesK so1 so7 64)) := Lib.hid (by
    rw [← hn15]
    exact mvs_owns hmv (by have := movesK_len so1 so7 64; omega) (movesK_bd (okRing_nodes so1_ok) so7_bd))
  have HN15 : Hid ((n15 : Int) = cnt so1 0) := Lib.hid (by rw [← hn15]; exact so7_moves)
  have hlt15 : n15 ≤ 64 := by rw [← hn15]; exact movesK_len so1 so7 64
  rw [hn15]
  replace KV := Lib.hid (KV.out.trans k)
  replace HB1 := Lib.hid (HB1.out.kept k)
  replace HR1 := Lib.hid (HR1.out.kept k)
  replace HB3 := Lib.hid (HB3.out.kept k)
  replace HR3 := Lib.hid (HR3.out.kept k)
  replace HB5 := Lib.hid (HB5.out.kept k)
  replace HR5 := Lib.hid (HR5.out.kept k)
  replace HB11 := Lib.hid (HB11.out.kept k)
  replace HR11 := Lib.hid (HR11.out.kept k)
  replace HB13 := Lib.hid (HB13.out.kept k)
  replace HR13 := Lib.hid (HR13.out.kept k)
  clear hmv k hn15
  go_upto_region 11 with (fail)
  clear HB7 HB9
  have r10 : ∀ p : KA (fun _ => False) W15, p.val.cell? ⟨z1, 0, none⟩ = some (.int .i64 1) := fun p => (HB1.out.kept p.k).1
  have r11 : ∀ p : KA (fun _ => False) W15, p.val.cell? ⟨z1, 1, none⟩ = some (.slice am 2 cm) := fun p => (HB1.out.kept p.k).2.1
  have r12 : ∀ p : KA (fun _ => False) W15, p.val.cell? ⟨z1, 2, none⟩ = some (.slice ao 64 co) := fun p => (HB1.out.kept p.k).2.2.1
  have r130 : ∀ p : KA (fun _ => False) W15, p.val.cell? ⟨z13, 0, none⟩ = some (.int .i64 2) := fun p => (HB13.out.kept p.k).1
  have r131 : ∀ p : KA (fun _ => False) W15, p.val.cell? ⟨z13, 1, none⟩ = some (.slice am13 2 cm13) := fun p => (HB13.out.kept p.k).2.1
  have r132 : ∀ p : KA (fun _ => False) W15, p.val.cell? ⟨z13, 2, none⟩ = some (.slice ao13 64 co13) := fun p => (HB13.out.kept p.k).2.2.1
  refine wp_region_walk [(false, 0), (false, 1), (false, 2), (false, 3), (true, 4), (false, 5), (false, 6), (false, 7), (false, 8), (false, 9), (false, 10), (false, 11), (false, 12), (false, 13), (false, 14), (false, 15), (false, 16), (false, 17), (false, 18), (false, 19), (false, 20), (false, 21), (false, 22), (false, 23), (false, 24), (false, 25), (false, 26), (false, 27), (false, 28), (false, 29), (false, 30), (false, 31), (false, 32), (false, 33), (true, 34), (true, 35), (false, 36), (false, 37), (false, 38), (false, 39), (false, 40), (true, 41), (true, 42), (true, 44), (true, 45), (false, 43), (false, 46), (false, 47), (false, 48), (true, 49), (false, 50), (false, 51), (false, 52), (false, 53), (false, 54), (false, 55)] (inKA (fun _ => False) W15) (by kernel_rfl) (by kernel_rfl) ?_
  have J0 : Hid (Keep (fun _ => False) W15 W15.drew) := Lib.hid (Keep.refl _ W15).drew
  generalize W15.drew = X0 at *
  obtain ⟨x0, x1, x2, -⟩ := HB3.out.kept J0.out
  iterate 4 (refine walkW_do rfl (inKA.of J0.out) (fun K hK => ?_); go_simp; refine hK _ _ ?_; clear hK K)
  iterate 1 (refine walkW_read rfl (fun K hK => ?_); go_simp; refine hK _ ?_; clear hK K)
  iterate 1 (refine walkW_do rfl (inKA.of J0.out) (fun K hK => ?_); go_simp; refine hK _ _ ?_; clear hK K)
  clear x0 x1 x2
  have hl1 : so1.length = 64 := so1_ok.2.2.2.1
  have HM6 : Hid (Calls Tryz.prog 19 _ X0 (MvPost [] X0)) := Lib.hid (by have h := moves_any _ _ 1 2 sl1 sl1 so1 so1 X0 (HR1.out.kept J0.out) (HR3.out.kept J0.out) hl1 hl1; rw [movesK_self] at h; exact h)
  refine walkW_do rfl (inKA.of J0.out) (fun K hK => ?_)
  go_simp
  refine HM6.out.mono ?_
  rintro e X1 ⟨q6, d6, rfl, -, k6⟩
  refine hK _ _ ?_; clear hK K
  have J1 := Lib.hid (J0.out.trans k6)
  simp only [List.length_nil]
  iterate 4 (refine walkW_do rfl (inKA.of J1.out) (fun K hK => ?_); go_simp; refine hK _ _ ?_; clear hK K)
  obtain ⟨x0, x1, x2, -⟩ := HB5.out.kept J1.out
  iterate 1 (refine walkW_do rfl (inKA.of J1.out) (fun K hK => ?_); go_simp; refine hK _ _ ?_; clear hK K)
  clear x0 x1 x2
  have HL5 := Lib.hid (load_any _ 2 sl3 so3 X1 (HR5.out.kept J1.out) 0)
  rw [so3_load] at HL5
  refine walkW_do rfl (inKA.of J1.out) (fun K hK => ?_)
  go_simp
  refine HL5.out.mono ?_
  rintro e X2 ⟨rfl, k7⟩
  refine hK _ _ ?_; clear hK K
  have J2 := Lib.hid (J1.out.trans k7)
  iterate 3 (refine walkW_do rfl (inKA.of J2.out) (fun K hK => ?_); go_simp; refine hK _ _ ?_; clear hK K)
  obtain ⟨x0, x1, x2, -⟩ := HB11.out.kept J2.out
  iterate 1 (refine walkW_do rfl (inKA.of J2.out) (fun K hK => ?_); go_simp; refine hK _ _ ?_; clear hK K)
  clear x0 x1 x2
  have HL6 := Lib.hid (load_any _ 2 sl6 so6 X2 (HR11.out.kept J2.out) 0)
  obtain ⟨hc0, hc2⟩ := so6_load
  obtain ⟨e0, he0⟩ : ∃ c, cnt so6 0 = c := ⟨_, rfl⟩
  obtain ⟨e2, he2⟩ : ∃ c, cnt so6 2 = c := ⟨_, rfl⟩
  have HE2 := Lib.hid he2
  rw [he0] at hc0 HL6
  rw [he2] at hc2
  clear he0 he2
  refine walkW_do rfl (inKA.of J2.out) (fun K hK => ?_)
  go_simp
  refine HL6.out.mono ?_
  rintro e X3 ⟨rfl, k8⟩
  refine hK _ _ ?_; clear hK K
  have J3 := Lib.hid (J2.out.trans k8)
  iterate 3 (refine walkW_do rfl (inKA.of J3.out) (fun K hK => ?_); go_simp; refine hK _ _ ?_; clear hK K)
  obtain ⟨x0, x1, x2, -⟩ := HB11.out.kept J3.out
  iterate 1 (refine walkW_do rfl (inKA.of J3.out) (fun K hK => ?_); go_simp; refine hK _ _ ?_; clear hK K)
  clear x0 x1 x2
  have HL7 := Lib.hid (load_any _ 2 sl6 so6 X3 (HR11.out.kept J3.out) 2)
  rw [HE2.out] at HL7
  refine walkW_do rfl (inKA.of J3.out) (fun K hK => ?_)
  go_simp
  refine HL7.out.mono ?_
  rintro e X4 ⟨rfl, k9⟩
  refine hK _ _ ?_; clear hK K
  have J4 := Lib.hid (J3.out.trans k9)
  iterate 3 (refine walkW_do rfl (inKA.of J4.out) (fun K hK => ?_); go_simp; refine hK _ _ ?_; clear hK K)
  have HC7 : Hid (∃ b7 o7, am13 = some ⟨b7, o7, none⟩ ∧ 2 ≤ cm13 ∧ X4.cell? ⟨b7, o7 + 3, none⟩ = some (.int .i64 7)) := Lib.hid (by
    obtain ⟨-, vm, vo, e, hm, -⟩ := HR13.out.kept J4.out
    cases e
    obtain ⟨-, -, a, c, b, off, hv, hc, ha, hcell⟩ := hm
    cases hv
    exact ⟨b, off, ha (by decide), hc, (hcell 1 ⟨7, 0, 1⟩ rfl).1⟩)
  obtain ⟨b7, o7, rfl, hcm, c7⟩ := HC7.out
  obtain ⟨x0, x1, x2, -⟩ := HB13.out.kept J4.out
  iterate 8 (refine walkW_do rfl (inKA.of J4.out) (fun K hK => ?_); go_simp; refine hK _ _ ?_; clear hK K)
  clear x0 x1 x2
  clear c7 HC7
  iterate 2 (refine walkW_read rfl (fun K hK => ?_); go_simp; refine hK _ ?_; clear hK K)
  obtain ⟨x0, x1, x2, -⟩ := HB1.out.kept J4.out
  iterate 1 (refine walkW_do rfl (inKA.of J4.out) (fun K hK => ?_); go_simp; refine hK _ _ ?_; clear hK K)
  clear x0 x1 x2
  have HL8 := Lib.hid (load_any _ 1 sl1 so1 X4 (HR1.out.kept J4.out) 0)
  rw [← HN15.out] at HL8
  refine walkW_do rfl (inKA.of J4.out) (fun K hK => ?_)
  go_simp
  refine HL8.out.mono ?_
  rintro e X5 ⟨rfl, k10⟩
  refine hK _ _ ?_; clear hK K
  have J5 := Lib.hid (J4.out.trans k10)
  iterate 3 (refine walkW_do rfl (inKA.of J5.out) (fun K hK => ?_); go_simp; refine hK _ _ ?_; clear hK K)
  iterate 4 (refine walkW_read rfl (fun K hK => ?_); go_simp; refine hK _ ?_; clear hK K)
  have HAP : Hid (Calls Tryz.prog 16 _ X5 (CloneI so7 X5)) := Lib.hid (by have h := apply_any _ _ 1 sl1 so1 (movesK so1 so7 64) X5 (HR1.out.kept J5.out) hl1 (HMV.out.kept J5.out) moves_slot; rw [sane_apply] at h; exact h)
  refine walkW_do rfl (inKA.of J5.out) (fun K hK => ?_)
  go_simp
  refine HAP.out.mono ?_
  rintro e X6 ⟨q7, d7, rfl, hown, k11⟩
  refine hK _ _ ?_; clear hK K
  have J6 := Lib.hid (J5.out.trans k11)
  have h64 := so7_len
  have HI7 : Hid (Its X6 (.slice q7 so7.length d7) so7) := Lib.hid (its_owns hown (by rw [h64]; decide) (fun x hx => by have := so7_bd x hx; unfold I64; omega))
  rw [h64] at HI7 ⊢
  have HI8 : Hid (Its X6 (.slice ao13 64 co13) so7) := Lib.hid (by obtain ⟨-, vm, vo, e, -, hi⟩ := HR13.out.kept J6.out; cases e; exact hi)
  have HSI := Lib.hid (sameInts_any _ _ so7 so7 X6 HI7.out HI8.out)
  rw [decide_eq_true (rfl : so7 = so7)] at HSI
  clear hown
  refine walkW_do rfl (inKA.of J6.out) (fun K hK => ?_)
  go_simp
  refine HSI.out.mono ?_
  rintro e X7 ⟨rfl, k12⟩
  refine hK _ _ ?_; clear hK K
  have J7 := Lib.hid (J6.out.trans k12)
  iterate 2 (refine walkW_do rfl (inKA.of J7.out) (fun K hK => ?_); go_simp; refine hK _ _ ?_; clear hK K)
  iterate 1 (refine walkW_read rfl (fun K hK => ?_); go_simp; refine hK _ ?_; clear hK K)
  iterate 1 (refine walkW_do rfl (inKA.of J7.out) (fun K hK => ?_); go_simp; refine hK _ _ ?_; clear hK K)
  have HMN : Hid (Calls Tryz.prog 19 _ X7 (MvPost [] X7)) := Lib.hid (moves_none _ _ 1 0 sl1 [] so1 [] X7 (HR1.out.kept J7.out) (nil_rng X7) hl1 (by decide))
  refine walkW_do rfl (inKA.of J7.out) (fun K hK => ?_)
  go_simp
  refine HMN.out.mono ?_
  rintro e X8 ⟨q8, d8, rfl, -, k13⟩
  refine hK _ _ ?_; clear hK K
  have J8 := Lib.hid (J7.out.trans k13)
  simp only [List.length_nil]
  iterate 4 (refine walkW_do rfl (inKA.of J8.out) (fun K hK => ?_); go_simp; refine hK _ _ ?_; clear hK K)
  refine ⟨inKA.of J8.out, ?_⟩
  go_wp2_with fail
  go_ret
  exact ⟨by simp, KV.out.trans J8.out⟩
end Go.Proofs.YtiacdkggbnoigaaGreatDoor

/-
  New and Change on lists that are valid, for the laws of Reshard.
-/
namespace Go.Proofs.YtiacdkggbnoigaaGreatDoor
open Go.RowKit Go.Shelf

theorem good_new {W : World} (vl : Value) (l : List Mb) (h : Mbs W vl l) (hv : VL l) (hT : Tab W) : Calls Tryz.prog 6 #[.int .i64 1, vl] W (GoodPost 1 l (ownersL PN QS l) W) :=
  (new_ok 1 vl l W h hv hT (by decide)).mono (fun _ _ h => h.use hv (by unfold I64; decide))
theorem good_change {W : World} (v vl : Value) (ep : Int) (l l' : List Mb) (ow : List Int) (h : Rng W v ep l ow) (ho : okRing ep l ow) (he : ep < 1000000) (hl : Mbs W vl l') (hv : VL l') (hT : Tab W) : Calls Tryz.prog 8 #[v, vl] W (GoodPost (ep + 1) l' (changeL PN QS l' ow) W) :=
  (changeR_ok v vl ep l l' ow W h ((validRB_iff _ _ _).2 ho) he hl hv hT).mono (fun _ _ h => by
    have h2 := ok_change PN QS ho hv he
    exact h.use hv (by have := ho.1; unfold I64; omega) h2.2.2.2.1 h2.obd)
/-- A valid ring that came out of a call, in blocks of its own. -/
def FreshPost (ep : Int) (l : List Mb) (ow : List Int) (w : World) (e : Ending) (w' : World) : Prop := ∃ am cm ao co, e = .returned (.tuple #[.agg #[.int .i64 ep, .slice am l.length cm, .slice ao 64 co], .int .i64 0]) ∧ Rng w' (.agg #[.int .i64 ep, .slice am l.length cm, .slice ao 64 co]) ep l ow ∧ ((∀ b, (Value.slice am l.length cm).ownBlock = some b → w.heap.size ≤ b) ∧ ∀ b, (Value.slice ao 64 co).ownBlock = some b → w.heap.size ≤ b) ∧ Keep (fun _ => False) w w'
theorem RingPost.fresh {ep : Int} {l : List Mb} {ow : List Int} {w : World} {e : Ending} {w' : World} (h : RingPost ep l ow w e w') (hv : VL l) (hep : I64 ep) (ho : ow.length = 64) (hob : ∀ x ∈ ow, I64 x) : FreshPost ep l ow w e w' := by
  obtain ⟨am, cm, ao, co, rfl, h2, h3, h4⟩ := h
  have h5 := its_owns h3 (by omega) hob
  rw [ho] at h3 h5 ⊢
  exact ⟨am, cm, ao, co, rfl, ⟨hep, _, _, rfl, mbs_owns h2 (by have := hv.len; omega) hv.bd, h5⟩, ⟨fun b hb => (h2.lt b hb).1, fun b hb => (h3.lt b hb).1⟩, h4⟩
theorem fresh_change {W : World} (v vl : Value) (ep : Int) (l l' : List Mb) (ow : List Int) (h : Rng W v ep l ow) (ho : okRing ep l ow) (he : ep < 1000000) (hl : Mbs W vl l') (hv : VL l') (hT : Tab W) : Calls Tryz.prog 8 #[v, vl] W (FreshPost (ep + 1) l' (changeL PN QS l' ow) W) :=
  (changeR_ok v vl ep l l' ow W h ((validRB_iff _ _ _).2 ho) he hl hv hT).mono (fun _ _ h => by
    have h2 := ok_change PN QS ho hv he
    exact h.fresh hv (by have := ho.1; unfold I64; omega) h2.2.2.2.1 h2.obd)
theorem Rng.keep {W W' : World} {A : Nat → Prop} {ep : Int} {a b : Value} {l : List Mb} {ow : List Int} (h : Rng W (.agg #[.int .i64 ep, a, b]) ep l ow) (k : Keep A W W') (ha : ∀ j, a.ownBlock = some j → ¬ A j) (hb : ∀ j, b.ownBlock = some j → ¬ A j) : Rng W' (.agg #[.int .i64 ep, a, b]) ep l ow := by
  obtain ⟨vm, vo, e, h1, h2⟩ := h.at_
  cases e
  exact ⟨h.bd, _, _, rfl, h1.keep k ha, h2.keep k hb⟩
/-- Members, then New. -/
theorem members_mbs {W : World} (v : Value) (xs : List Int) (h : Its W v xs) : Calls Tryz.prog 7 #[v] W fun e w' => ∃ a c, e = .returned (.slice a (mem13 xs).length c) ∧ Mbs w' (.slice a (mem13 xs).length c) (mem13 xs) ∧ Keep (fun _ => False) W w' :=
  (members13_any v xs W h).mono (fun _ _ h => by
    obtain ⟨v', rfl, h1, h2⟩ := h
    obtain ⟨a, c, b, off, rfl, hr⟩ := h1.at_
    exact ⟨a, c, rfl, h1, h2⟩)
end Go.Proofs.YtiacdkggbnoigaaGreatDoor

/-
  Change, Join, Leave, Replace on rings of any kind: what both sides answer.
-/
namespace Go.Proofs.YtiacdkggbnoigaaGreatDoor
open Go.RowKit Go.Shelf

/-- A ring in slices of its own and an error number. -/
def RawV (B : Nat) (E : Int) (L : List Mb) (O : List Int) (err : Int) (nl no : Nat) (v : Value) (W : World) : Prop := ∃ a c b d, v = .tuple #[.agg #[.int .i64 E, .slice a nl c, .slice b no d], .int .i64 err] ∧ W.ownsRow B 44 3 (.slice a nl c) nl (flatB L) ∧ W.ownsRow B 3 1 (.slice b no d) no (O.map (fun x => Value.int .i64 x))
def RawA (B : Nat) (E : Int) (L : List Mb) (O : List Int) (nl no : Nat) (v : Value) (W : World) : Prop := ∃ a c b d, v = .agg #[.int .i64 E, .slice a nl c, .slice b no d] ∧ W.ownsRow B 44 3 (.slice a nl c) nl (flatB L) ∧ W.ownsRow B 3 1 (.slice b no d) no (O.map (fun x => Value.int .i64 x))
def RawPost (E : Int) (L : List Mb) (O : List Int) (err : Int) (nl no : Nat) (w : World) (e : Ending) (w' : World) : Prop := ∃ v, e = .returned v ∧ RawV w.heap.size E L O err nl no v w' ∧ Keep (fun _ => False) w w'
structure RawOk (E : Int) (L : List Mb) (O : List Int) (err : Int) (nl no : Nat) : Prop where
  e : I64 E
  l : L.length = nl
  o : O.length = no
  lb : nl ≤ 1000
  ob : no ≤ 1000
  mb : ∀ m ∈ L, I64 m.node ∧ I64 m.region ∧ I64 m.weight
  ib : ∀ x ∈ O, I64 x
theorem RawV.lo {B B' : Nat} {E : Int} {L : List Mb} {O : List Int} {err : Int} {nl no : Nat} {v : Value} {W : World} (h : RawV B E L O err nl no v W) (hb : B' ≤ B) : RawV B' E L O err nl no v W := by
  obtain ⟨a, c, b, d, q1, q2, q3⟩ := h
  exact ⟨a, c, b, d, q1, ownsRow_lo q2 hb, ownsRow_lo q3 hb⟩
theorem raw_rng {B : Nat} {E : Int} {L : List Mb} {O : List Int} {err : Int} {nl no : Nat} {a b : Option Addr} {c d : Nat} {W : World} (h : RawOk E L O err nl no) (hm : W.ownsRow B 44 3 (.slice a nl c) nl (flatB L)) (ho : W.ownsRow B 3 1 (.slice b no d) no (O.map (fun x => Value.int .i64 x))) : Rng W (.agg #[.int .i64 E, .slice a nl c, .slice b no d]) E L O := by
  obtain ⟨h1, rfl, rfl, h4, h5, h6, h7⟩ := h
  exact ⟨h1, _, _, rfl, mbs_owns hm (by omega) h6, its_owns ho (by omega) h7⟩
theorem RingRes.raw {ok : Bool} {ep : Int} {l : List Mb} {ow : List Int} (hok : ok = true → okRing ep l ow) : ∃ E L O err nl no, RawOk E L O err nl no ∧ ∀ w e w', RingRes ok ep l ow w e w' → RawPost E L O err nl no w e w' := by
  cases ok with
  | true =>
    have h := hok rfl
    have h1 := h.1
    have h2 := h.2.1
    have hll : l.length ≤ 24 := h.2.2.1.len
    have hol : ow.length = 64 := h.2.2.2.1
    refine ⟨ep, l, ow, 0, l.length, ow.length, ⟨by unfold I64; omega, rfl, rfl, by omega, by omega, h.2.2.1.bd, h.obd⟩, fun w e w' hr => ?_⟩
    obtain ⟨ep', l', ow', err, am, nm, cm, ao, no, co, q1, -, q3, q4, rfl, r1, r2, k⟩ := hr
    obtain ⟨rfl, rfl, rfl, rfl⟩ := q1 rfl
    subst q3 q4
    exact ⟨_, rfl, ⟨am, cm, ao, co, rfl, r1, r2⟩, k⟩
  | false =>
    refine ⟨0, [], [], 120, 0, 0, ⟨by unfold I64; decide, rfl, rfl, by omega, by omega, by simp, by simp⟩, fun w e w' hr => ?_⟩
    obtain ⟨ep', l', ow', err, am, nm, cm, ao, no, co, -, q2, q3, q4, rfl, r1, r2, k⟩ := hr
    obtain ⟨rfl, rfl, rfl, rfl⟩ := q2 rfl
    subst q3 q4
    exact ⟨_, rfl, ⟨am, cm, ao, co, rfl, r1, r2⟩, k⟩
theorem chOk_ok {ep : Int} {lr l : List Mb} {ow : List Int} (h : chOk ep lr l ow = true) : okRing (ep + 1) l (changeL PN QS l ow) := by
  unfold chOk at h
  simp only [Bool.and_eq_true, decide_eq_true_eq] at h
  exact ok_change PN QS ((validRB_iff ep lr ow).1 h.1) ((validL_iff l).1 h.2.1) h.2.2
theorem two_change (ep : Int) (lr l : List Mb) (ow : List Int) : ∃ E L O err nl no, RawOk E L O err nl no ∧
    ∀ v vl W, Rng W v ep lr ow → Mbs W vl l → Tab W → Calls Tryz.prog 8 #[v, vl] W (RawPost E L O err nl no W) ∧ Calls Tryz.prog 9 #[v, vl] W (RawPost E L O err nl no W) := by
  obtain ⟨E, L, O, err, nl, no, h1, h2⟩ := RingRes.raw (ok := chOk ep lr l ow) (ep := ep + 1) (l := l) (ow := changeL PN QS l ow) chOk_ok
  exact ⟨E, L, O, err, nl, no, h1, fun v vl W h hl hT => ⟨(changeU v vl ep lr l ow W h hl hT).mono (fun e w' => h2 W e w'), (refChangeU v vl ep lr l ow W h hl).mono (fun e w' => h2 W e w')⟩⟩
theorem two_join (ep : Int) (lr : List Mb) (ow : List Int) (m : Mb) (hl : lr.length ≤ 30) (hm : I64 m.node ∧ I64 m.region ∧ I64 m.weight) : ∃ E L O err nl no, RawOk E L O err nl no ∧
    ∀ v W, Rng W v ep lr ow → Tab W → Calls Tryz.prog 21 #[v, mbV m] W (RawPost E L O err nl no W) ∧ Calls Tryz.prog 22 #[v, mbV m] W (RawPost E L O err nl no W) := by
  obtain ⟨E, L, O, err, nl, no, h1, h2⟩ := RingRes.raw (ok := joinOk ep lr ow m) (ep := ep + 1) (l := moreM lr m) (ow := changeL PN QS (moreM lr m) ow) (fun h => by
    unfold joinOk at h
    rw [Bool.and_eq_true] at h
    exact chOk_ok h.2)
  exact ⟨E, L, O, err, nl, no, h1, fun v W h hT => ⟨(join_any v ep lr ow m W h hm hl hT).mono (fun e w' => h2 W e w'), (refJoin_any v ep lr ow m W h hm (by omega)).mono (fun e w' => h2 W e w')⟩⟩
theorem two_leave (ep : Int) (lr : List Mb) (ow : List Int) (n : Int) (hl : lr.length ≤ 30) : ∃ E L O err nl no, RawOk E L O err nl no ∧
    ∀ v W, Rng W v ep lr ow → Tab W → Calls Tryz.prog 12 #[v, .int .i64 n] W (RawPost E L O err nl no W) ∧ Calls Tryz.prog 13 #[v, .int .i64 n] W (RawPost E L O err nl no W) := by
  obtain ⟨E, L, O, err, nl, no, h1, h2⟩ := RingRes.raw (ok := leaveOk ep lr ow n) (ep := ep + 1) (l := lr.filter (notN n)) (ow := changeL PN QS (lr.filter (notN n)) ow) (fun h => by
    unfold leaveOk at h
    rw [Bool.and_eq_true] at h
    exact chOk_ok h.2)
  exact ⟨E, L, O, err, nl, no, h1, fun v W h hT => ⟨(leave_any v ep lr ow n W h (by omega) hT).mono (fun e w' => h2 W e w'), (refLeave_any v ep lr ow n W h (by omega)).mono (fun e w' => h2 W e w')⟩⟩
theorem two_replace (ep : Int) (lr : List Mb) (ow : List Int) (n s : Int) (hl : lr.length ≤ 30) : ∃ E L O err nl no, RawOk E L O err nl no ∧
    ∀ v W, Rng W v ep lr ow → Tab W → Calls Tryz.prog 10 #[v, .int .i64 n, .int .i64 s] W (RawPost E L O err nl no W) ∧ Calls Tryz.prog 11 #[v, .int .i64 n, .int .i64 s] W (RawPost E L O err nl no W) := by
  obtain ⟨E, L, O, err, nl, no, h1, h2⟩ := RingRes.raw (ok := repOk ep lr ow n s) (ep := ep + 1) (l := repM lr n s) (ow := ow.map (repF n s)) (fun h => (ok_replace h).1)
  exact ⟨E, L, O, err, nl, no, h1, fun v W h hT => ⟨(replaceU v ep lr ow n s W h hl hT).mono (fun e w' => h2 W e w'), (refReplaceU v ep lr ow n s W h).mono (fun e w' => h2 W e w')⟩⟩
theorem same_true {va vb : Value} {ep : Int} {l : List Mb} {ow : List Int} {w : World} (ha : Rng w va ep l ow) (hb : Rng w vb ep l ow) : Calls Tryz.prog 14 #[va, vb] w fun e w' => e = .returned (.bool true) ∧ Keep (fun _ => False) w w' :=
  (refSame_any va vb ep ep l l ow ow w ha hb).mono (fun e w' h => ⟨by rw [h.1]; simp, h.2⟩)
theorem ints_true {va vb : Value} {xs : List Int} {w : World} (ha : Its w va xs) (hb : Its w vb xs) : Calls Tryz.prog 15 #[va, vb] w fun e w' => e = .returned (.bool true) ∧ Keep (fun _ => False) w w' :=
  (sameInts_any va vb xs xs w ha hb).mono (fun e w' h => ⟨by rw [h.1]; simp, h.2⟩)
theorem applyS_mem {o : List Int} {m : Mv} {x : Int} (h : x ∈ applyS o m) : x ∈ o ∨ x = m.to_ := by
  unfold applyS at h
  split at h
  · exact (List.mem_or_eq_of_mem_set h)
  · exact .inl h
theorem applyL_bd : ∀ (ms : List Mv) (o : List Int), (∀ x ∈ o, I64 x) → (∀ m ∈ ms, I64 m.to_) → ∀ x ∈ applyL o ms, I64 x
  | [], o, ho, _, x, hx => ho x hx
  | m :: ms, o, ho, hm, x, hx => applyL_bd ms (applyS o m) (fun y hy => by
      rcases applyS_mem hy with h | rfl
      · exact ho y h
      · exact hm m List.mem_cons_self) (fun m' h' => hm m' (List.mem_cons_of_mem _ h')) x hx
/-- What the free operations of Join's region answer: the call, the tuple's copy, the box, the ring, the error. -/
def rawS (tc tv tb ta te : Nat) (B : Nat) (E : Int) (L : List Mb) (O : List Int) (err : Int) (nl no : Nat) (t : Nat) (v : Value) (W : World) : Prop :=
  (t = tc ∨ t = tv → RawV B E L O err nl no v W) ∧ (t = tb → ∃ z, v = ptr z ∧ B ≤ z ∧ Box3 W z (.int .i64 0) (.slice none 0 0) (.slice none 0 0) ∧ BoxT W z 25) ∧ (t = ta → RawA B E L O nl no v W) ∧ (t = te → v = .int .i64 err)
theorem rawS_keep {tc tv tb ta te : Nat} {B : Nat} {E : Int} {L : List Mb} {O : List Int} {err : Int} {nl no : Nat} (t : Nat) (v : Value) (w w' : World) (h : rawS tc tv tb ta te B E L O err nl no t v w) (k : Keep (fun _ => False) w w') : rawS tc tv tb ta te B E L O err nl no t v w' := by
  obtain ⟨h2, h3, h4, h5⟩ := h
  refine ⟨fun e => ?_, fun e => ?_, fun e => ?_, h5⟩
  · obtain ⟨a, c, b, d, q1, q2, q3⟩ := h2 e
    exact ⟨a, c, b, d, q1, ownsRow_keep q2 k (fun _ _ h => h), ownsRow_keep q3 k (fun _ _ h => h)⟩
  · obtain ⟨z, q1, q2, q3, q4⟩ := h3 e
    exact ⟨z, q1, q2, q3.kept k, q4.kept k⟩
  · obtain ⟨a, c, b, d, q1, q2, q3⟩ := h4 e
    exact ⟨a, c, b, d, q1, ownsRow_keep q2 k (fun _ _ h => h), ownsRow_keep q3 k (fun _ _ h => h)⟩
end Go.Proofs.YtiacdkggbnoigaaGreatDoor
