/-
  The order of rows; the sort of rows.
-/
import Derived.Test.YtmndjicaofciiaaGreatDoorH9
import Derived.Test.YtmndjicaofciiaaGreatDoorS1
import Derived.Maps.AppendAt
import Derived.OwnWalk
import Derived.RangeFuncBox
namespace Go.Proofs.YtmndjicaofciiaaGreatDoor
open Go.RowKit Go.Shelf
open Go.Sort (grow)

theorem grow_of_keep {W w' : World} (k : Keep (fun _ => False) W w') (hd : W.drawn ≤ w'.drawn) : ∃ q os', w' = grow (W.drewN q) os' := by
  refine ⟨w'.drawn - W.drawn, w'.heap.extract W.heap.size w'.heap.size, ?_⟩
  have hh : w'.heap = W.heap ++ w'.heap.extract W.heap.size w'.heap.size := by
    apply Array.ext_getElem?
    intro i
    by_cases hi : i < W.heap.size
    · rw [k.block i hi (fun h => h), Array.getElem?_append_left hi]
    · rw [Array.getElem?_append_right (by omega), Array.getElem?_extract]
      by_cases h2 : i < w'.heap.size
      · rw [if_pos (by omega)]
        congr 1
        omega
      · rw [if_neg (by omega), Array.getElem?_eq_none (by omega)]
  have h1 := k.os
  have h2 := k.tape
  have h3 := k.output
  unfold grow World.drewN
  cases w'
  cases W
  simp only at *
  subst h1 h2 h3
  congr 1
  omega
theorem cmpI_bd (a b : Int) : I64 (cmpI a b) := by unfold cmpI I64; split <;> (try split) <;> omega
theorem value_kept (r : R5) (c : Int) (w : World) : Calls Tryz.prog 10 #[rowV r, .int .i64 c] w fun e w' => e = .returned (.int .i64 (r.val c)) ∧ Keep (fun _ => False) w w' ∧ w.drawn ≤ w'.drawn :=
  (value_any r c w).mono fun e w' ⟨he, hw⟩ => ⟨he, by rw [hw]; exact keep_cells _ _ _, by rw [hw]; exact Nat.le_refl _⟩
def cmpRow (c : Int) (x y : R5) : Int := orL [cmpI (x.val c) (y.val c), cmpI x.ky y.ky]
theorem its_two (W : World) (x y : Int) (t : TypeId) (hx : I64 x) (hy : I64 y) : Its (W.alloc (.cells #[.int .i64 x, .int .i64 y] t)) (.slice (some ⟨W.heap.size, 0, none⟩) 2 2) [x, y] := by
  have hb := BoxL.new W [.int .i64 x, .int .i64 y] t
  refine ⟨by simp, ?_, some ⟨W.heap.size, 0, none⟩, 2, W.heap.size, 0, rfl, by simp, fun _ => rfl, fun j u hj => ?_⟩
  · intro u hu
    simp only [List.mem_cons, List.not_mem_nil, or_false] at hu
    rcases hu with rfl | rfl <;> assumption
  · rcases j with _ | _ | j
    · simp at hj; subst hj; exact hb.cell 0 _ rfl
    · simp at hj; subst hj; exact hb.cell 1 _ rfl
    · simp at hj
set_option maxRecDepth 100000 in
set_option maxHeartbeats 4000000 in
theorem cmpRow_any (c : Int) (zb : Nat) (x y : R5) (W : World) (hc : W.cell? ⟨zb, 0, none⟩ = some (.int .i64 c)) : Calls Tryz.prog 31 #[rowV x, rowV y, ptr zb] W fun e w' => e = .returned (.int .i64 (cmpRow c x y)) ∧ ∃ q os', w' = grow (W.drewN q) os' := by
  have k1 := keep_cells W (rowC x).toArray 37
  have k2 := keep_cells (W.alloc (.cells (rowC x).toArray 37)) (rowC y).toArray 37
  have b1 := (BoxL.new W (rowC x) 37).kept k2
  have b2 := BoxL.new (W.alloc (.cells (rowC x).toArray 37)) (rowC y) 37
  have h3 := (k1.trans k2).cell hc (fun h => h)
  rw [World.size_alloc] at b2
  have HX := Lib.hid b1
  have HY := Lib.hid b2
  have H3 := Lib.hid h3
  have HK := Lib.hid (k1.trans k2)
  have HD : Hid (W.drawn ≤ ((W.alloc (.cells (rowC x).toArray 37)).alloc (.cells (rowC y).toArray 37)).drawn) := Lib.hid (Nat.le_refl _)
  have HC : Hid (cmpRow c x y = orL [cmpI (x.val c) (y.val c), cmpI x.ky y.ky]) := Lib.hid rfl
  have HV1 := Lib.hid (value_kept x c)
  have HV2 := Lib.hid (value_kept y c)
  generalize x.val c = vx at *
  generalize y.val c = vy at *
  obtain ⟨x0, x1, x2, x3, x4⟩ := x
  obtain ⟨y0, y1, y2, y3, y4⟩ := y
  clear k1 k2 b1 b2 h3 hc
  go_enter Tryz.func31, Tryz.ntmps31
  go_wp2_with fail
  have e1 : (W.alloc (.cells #[.int .i64 x0, .int .i64 x1, .int .i64 x2, .int .i64 x3, .int .i64 x4] 37)).alloc (.cells #[.int .i64 y0, .int .i64 y1, .int .i64 y2, .int .i64 y3, .int .i64 y4] 37) = (W.alloc (.cells (rowC ⟨x0, x1, x2, x3, x4⟩).toArray 37)).alloc (.cells (rowC ⟨y0, y1, y2, y3, y4⟩).toArray 37) := rfl
  rw [e1]
  clear e1
  generalize (W.alloc (.cells (rowC ⟨x0, x1, x2, x3, x4⟩).toArray 37)).alloc (.cells (rowC ⟨y0, y1, y2, y3, y4⟩).toArray 37) = W1 at *
  generalize W.heap.size = z at *
  have a0 : ∀ p : KA (fun _ => False) W1, p.val.cell? ⟨z, 0, none⟩ = some (.int .i64 x0) := fun p => (HX.out.kept p.k).row.1
  have a1 : ∀ p : KA (fun _ => False) W1, p.val.cell? ⟨z, 1, none⟩ = some (.int .i64 x1) := fun p => (HX.out.kept p.k).row.2.1
  have a2 : ∀ p : KA (fun _ => False) W1, p.val.cell? ⟨z, 2, none⟩ = some (.int .i64 x2) := fun p => (HX.out.kept p.k).row.2.2.1
  have a3 : ∀ p : KA (fun _ => False) W1, p.val.cell? ⟨z, 3, none⟩ = some (.int .i64 x3) := fun p => (HX.out.kept p.k).row.2.2.2.1
  have a4 : ∀ p : KA (fun _ => False) W1, p.val.cell? ⟨z, 4, none⟩ = some (.int .i64 x4) := fun p => (HX.out.kept p.k).row.2.2.2.2
  have b0 : ∀ p : KA (fun _ => False) W1, p.val.cell? ⟨z + 1, 0, none⟩ = some (.int .i64 y0) := fun p => (HY.out.kept p.k).row.1
  have b1 : ∀ p : KA (fun _ => False) W1, p.val.cell? ⟨z + 1, 1, none⟩ = some (.int .i64 y1) := fun p => (HY.out.kept p.k).row.2.1
  have b2 : ∀ p : KA (fun _ => False) W1, p.val.cell? ⟨z + 1, 2, none⟩ = some (.int .i64 y2) := fun p => (HY.out.kept p.k).row.2.2.1
  have b3 : ∀ p : KA (fun _ => False) W1, p.val.cell? ⟨z + 1, 3, none⟩ = some (.int .i64 y3) := fun p => (HY.out.kept p.k).row.2.2.2.1
  have b4 : ∀ p : KA (fun _ => False) W1, p.val.cell? ⟨z + 1, 4, none⟩ = some (.int .i64 y4) := fun p => (HY.out.kept p.k).row.2.2.2.2
  have c0 : ∀ p : KA (fun _ => False) W1, p.val.cell? ⟨zb, 0, none⟩ = some (.int .i64 c) := fun p => p.k.cell H3.out (fun h => h)
  refine wp_region_walk [(true, 0), (true, 1), (true, 3), (true, 4), (true, 7), (true, 8), (true, 9), (true, 10), (false, 2), (false, 5), (false, 6), (false, 11), (false, 12), (false, 13), (false, 14)] (inKA (fun _ => False) W1) (by kernel_rfl) (by kernel_rfl) ?_
  iterate 8 (refine walkW_read rfl (fun K hK => ?_); go_simp; refine hK _ ?_; clear hK K)
  clear a0 a1 a2 a3 a4 b0 b1 b2 b3 b4 c0
  have HK1 : Hid (Keep (fun _ => False) W1 W1.drew) := Lib.hid (Keep.refl _ W1).drew
  refine walkW_do rfl (inKA.of HK1.out) (fun K hK => ?_)
  go_simp
  refine (HV1.out _).mono ?_
  rintro e W2 ⟨rfl, k, kd⟩
  have HK2 := Lib.hid (HK1.out.trans k)
  have HD2 : Hid (W.drawn ≤ W2.drawn) := Lib.hid (Nat.le_trans (Nat.le_succ_of_le HD.out) kd)
  clear k kd
  refine hK _ _ ?_; clear hK K
  refine walkW_do rfl (inKA.of HK2.out) (fun K hK => ?_)
  go_simp
  refine (HV2.out _).mono ?_
  rintro e W2' ⟨rfl, k, kd⟩
  have HK3 := Lib.hid (HK2.out.trans k)
  have HD3 : Hid (W.drawn ≤ W2'.drawn) := Lib.hid (Nat.le_trans HD2.out kd)
  clear k kd
  refine hK _ _ ?_; clear hK K
  refine walkW_do rfl (inKA.of HK3.out) (fun K hK => ?_)
  go_simp
  refine (cmp_int vx vy _).mono ?_
  rintro e w' ⟨rfl, rfl⟩
  refine hK _ _ ?_; clear hK K
  refine walkW_do rfl (inKA.of HK3.out) (fun K hK => ?_)
  go_simp
  refine (cmp_int x1 y1 _).mono ?_
  rintro e w' ⟨rfl, rfl⟩
  refine hK _ _ ?_; clear hK K
  have q0 := cmpI_bd vx vy
  have q1 := cmpI_bd x1 y1
  generalize cmpI vx vy = m0 at *
  generalize cmpI x1 y1 = m1 at *
  have HI := Lib.hid (its_two W2' m0 m1 3 q0 q1)
  have HK4 := Lib.hid (HK3.out.alloc (.cells #[.int .i64 m0, .int .i64 m1] 3))
  have HD4 : Hid (W.drawn ≤ (W2'.alloc (.cells #[.int .i64 m0, .int .i64 m1] 3)).drawn) := Lib.hid HD3.out
  clear q0 q1
  refine walkW_do rfl (inKA.of HK3.out) (fun K hK => ?_)
  go_simp
  refine hK _ _ ?_; clear hK K
  generalize W2'.alloc (.cells #[.int .i64 m0, .int .i64 m1] 3) = W3 at *
  refine walkW_do rfl (inKA.of HK4.out) (fun K hK => ?_)
  go_simp
  refine (cmp_or _ [m0, m1] _ HI.out).mono ?_
  rintro e w' ⟨rfl, rfl⟩
  refine hK _ _ ?_; clear hK K
  refine walkW_do rfl (inKA.of HK4.out) (fun K hK => ?_)
  go_simp
  refine hK _ _ ?_; clear hK K
  refine ⟨inKA.of HK4.out, ?_⟩
  go_wp2_with fail
  go_ret
  exact ⟨by rw [HC.out]; rfl, grow_of_keep (HK.out.trans HK4.out) HD4.out⟩
theorem cmpRow_neg (c : Int) (x y : R5) : cmpRow c x y < 0 ↔ x.val c < y.val c ∨ (x.val c = y.val c ∧ x.ky < y.ky) := by
  unfold cmpRow
  have h : ∀ a b : Int, (a < b ∧ cmpI a b = -1) ∨ (a = b ∧ cmpI a b = 0) ∨ (b < a ∧ cmpI a b = 1) := fun a b => by
    unfold cmpI
    rcases Int.lt_trichotomy a b with h | h | h
    · exact .inl ⟨h, by rw [if_pos h]⟩
    · exact .inr (.inl ⟨h, by rw [if_neg (by omega), if_neg (by omega)]⟩)
    · exact .inr (.inr ⟨h, by rw [if_neg (by omega), if_pos h]⟩)
  simp only [orL]
  rcases h (x.val c) (y.val c) with ⟨h1, e1⟩ | ⟨h1, e1⟩ | ⟨h1, e1⟩
  · rw [e1, if_neg (by omega)]; omega
  · rw [e1, if_pos rfl]
    rcases h x.ky y.ky with ⟨h2, e2⟩ | ⟨h2, e2⟩ | ⟨h2, e2⟩
    · rw [e2, if_neg (by omega)]; omega
    · rw [e2, if_pos rfl]; omega
    · rw [e2, if_neg (by omega)]; omega
  · rw [e1, if_neg (by omega)]; omega
theorem cmpRow_lt (c : Int) (x y : R5) : Go.Proofs.ltOf (cmpRow c) x y = decide (x.val c < y.val c ∨ (x.val c = y.val c ∧ x.ky < y.ky)) := by
  unfold Go.Proofs.ltOf
  exact decide_eq_decide.2 (cmpRow_neg c x y)
theorem swoR (c : Int) : Go.Sort.SWO (Go.Proofs.ltOf (cmpRow c)) where
  irrefl x := by rw [cmpRow_lt]; exact decide_eq_false (by omega)
  trans x y z h1 h2 := by rw [cmpRow_lt, decide_eq_true_eq] at *; omega
  ntrans x y z h1 h2 := by rw [cmpRow_lt, decide_eq_false_iff_not] at *; omega
instance : Inhabited R5 := ⟨⟨0, 0, 0, 0, 0⟩⟩
theorem keep_sortR (w : World) (blk off m : Nat) (d : Array R5) (os : Array Obj) : Keep (fun j => j = blk) w (Go.Proofs.sortWorldK rowC 5 w blk off m d os) := by
  unfold Go.Proofs.sortWorldK
  refine ⟨rfl, rfl, rfl, ?_, fun k hk hn => ?_⟩
  · rw [Go.Sort.size_grow, Go.Sort.size_putRowK]
    exact Nat.le_add_right _ _
  · unfold grow
    show ((Go.Sort.putRowK rowC 5 (Go.Sort.ahead w m) blk off d).heap ++ os)[k]? = _
    rw [Array.getElem?_append_left (by rw [Go.Sort.size_putRowK]; exact hk)]
    unfold Go.Sort.putRowK Go.Sort.putRow Go.Sort.mapBlock
    show ((Go.Sort.ahead w m).heap.modify blk _)[k]? = _
    rw [Array.getElem?_modify, if_neg (fun e => hn e.symm)]
    rfl
theorem cmpLaysR (c : Int) (zb : Nat) (blk off size : Nat) (w : World) (hc : w.cell? ⟨zb, 0, none⟩ = some (.int .i64 c)) (hne : zb ≠ blk) : Go.Proofs.CmpLays Tryz.prog 31 #[ptr zb] rowC 5 (cmpRow c) blk off size w :=
  fun m os dk _ x y => cmpRow_any c zb x y _ ((keep_sortR w blk off m dk os).cell hc hne)
open Go.Sort in
set_option maxRecDepth 100000 in
set_option maxHeartbeats 2000000 in
theorem sortRows (c : Int) (zb blk off cap : Nat) (d : Array R5) (w : World) (hc : w.cell? ⟨zb, 0, none⟩ = some (.int .i64 c)) (hne : zb ≠ blk) (hH : Go.Sort.HoldsK rowC 5 w blk off d) (hblk : blk < w.heap.size) (hsz : d.size < 1000000) :
    Calls Tryz.prog 30 #[.slice (some ⟨blk, off, none⟩) d.size cap, .func (.func 31) #[] #[ptr zb]] w fun e w' =>
      e = .returned (.tuple #[]) ∧ ∃ d' n os, PermIn 0 d.size d d' ∧ SortedIn (Go.Proofs.ltOf (cmpRow c)) 0 d.size d' ∧ w' = Go.Proofs.sortWorldK rowC 5 w blk off n d' os := by
  have eg : ∀ args w, (callFunc 31 args).run Tryz.prog w = .ok (.enter 31 args) w := enters_of Tryz.func31 (by kernel_rfl) rfl
  have hlim : Lib.bitLen d.size < 4611686018427387904 := Nat.lt_of_le_of_lt (Lib.bitLen_le d.size 62 (by omega) (by omega)) (by omega)
  have hp := Go.Proofs.AnyQ.pdqsortCmpFunc_all (P := Tryz.prog) Tryz.pdqRow 5 Tryz.isAgg37 Tryz.sizeOf37 rowC (cmpRow c) 31 #[ptr zb] (swoR c) blk off cap d w eg (cmpLaysR c zb blk off d.size w hc hne) ⟨fun _ => rfl, fun x v hv => by simp at hv; rcases hv with rfl | rfl | rfl | rfl | rfl <;> rfl, hH, hblk⟩ (d.size + 1) 0 d.size (Lib.bitLen d.size) d w (by omega) rfl (Go.Proofs.SWK.start hH) (Nat.zero_le _) (Nat.le_refl _) (by omega) hlim (Or.inl rfl)
  have hl : Calls Tryz.prog 49 #[.int .u64 (d.size : Int)] w fun e w' => e = .returned (.int .i64 (Lib.bitLen d.size : Nat)) ∧ w' = w := by
    have h := Go.Proofs.Any.bits_Len (Go.Proofs.SlLaysF0.n15.bits Tryz.bitsLen) (d.size : Int) w (by omega) (by omega)
    rwa [Int.toNat_natCast] at h
  change Calls Tryz.prog 48 _ _ _ at hp
  have hsorts := Go.Sort.pdq_sorts (Go.Proofs.ltOf (cmpRow c)) (swoR c) d 0 d.size (Lib.bitLen d.size) true true (Nat.zero_le _) (Nat.le_refl _) (Or.inl rfl)
  generalize Go.Sort.pdq (Go.Proofs.ltOf (cmpRow c)) d 0 d.size (Lib.bitLen d.size) true true = r at *
  generalize Lib.bitLen d.size = bl at *
  obtain ⟨n, hn⟩ : ∃ n, d.size = n := ⟨_, rfl⟩
  rw [hn] at hp hl hsorts hsz ⊢
  rw [show ((0 : Nat) : Int) = 0 from rfl] at hp
  have wr : IntKind.u64.wrap (n : Int) = n := by simp [IntKind.wrap, IntKind.bits, IntKind.signed]; omega
  have HP := Lib.hid hp
  have HL := Lib.hid hl
  have HS := Lib.hid hsorts
  clear hp hl hsorts hH eg hn hc
  go_enter Tryz.func30, Tryz.ntmps30
  go_wp2_with fail
  with_reducible refine HL.out.mono ?_
  rintro e w' ⟨rfl, rfl⟩
  go_wp2_with fail
  with_reducible refine HP.out.mono ?_
  rintro e w' ⟨rfl, m, os, rfl⟩
  go_wp2_with fail
  go_end0
  exact ⟨rfl, r, m, os, HS.out.1, HS.out.2, rfl⟩
end Go.Proofs.YtmndjicaofciiaaGreatDoor
