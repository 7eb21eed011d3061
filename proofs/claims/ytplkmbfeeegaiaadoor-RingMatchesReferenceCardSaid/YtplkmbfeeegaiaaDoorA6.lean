/-
  The order of points; the sort of a circle.
-/
import Derived.Test.YtplkmbfeeegaiaaDoorA5
import Derived.Test.YtplkmbfeeegaiaaDoorS1
namespace Go.Proofs.YtplkmbfeeegaiaaDoor
open Go.RowKit Go.Shelf
open Go.Sort (grow)

theorem grow_of_keep {W w' : World} (k : Keep (fun _ => False) W w') (hd : W.drawn ≤ w'.drawn) : ∃ q os', w' = grow (W.drewN q) os' := by
  refine ⟨w'.drawn - W.drawn, w'.heap.extract W.heap.size w'.heap.size, ?_⟩
  have hh : w'.heap = W.heap ++ w'.heap.extract W.heap.size w'.heap.size := by
    apply Array.ext_getElem?
    intro i
    by_cases hi : i < W.heap.size
    · rw [k.block i hi (fun h => h), Array.getElem?_append_left hi]
    · rw [Array.getElem?_append_right (by omega), Array.getElem?_extract]
      by_cases h2 : i < w'.heap.size
      · rw [if_pos (by omega)]
        congr 1
        omega
      · rw [if_neg (by omega), Array.getElem?_eq_none (by omega)]
  have h1 := k.os
  have h2 := k.tape
  have h3 := k.output
  unfold grow World.drewN
  cases w'
  cases W
  simp only at *
  subst h1 h2 h3
  congr 1
  omega

/-- A point as a value. -/
abbrev mkV (x : Mk) : Value := .agg #[.int .i64 x.point, .int .i64 x.node, .int .i64 x.i]
def encMk (x : Mk) : List Value := [.int .i64 x.point, .int .i64 x.node, .int .i64 x.i]
def cmpM (x y : Mk) : Int := orL [cmpI x.point y.point, cmpI x.node y.node, cmpI x.i y.i]
theorem cmpI_bd (a b : Int) : I64 (cmpI a b) := by unfold cmpI I64; split <;> (try split) <;> omega

set_option maxRecDepth 100000 in
set_option maxHeartbeats 2000000 in
theorem before_any (x y : Mk) (W : World) : Calls Tryd.prog 71 #[mkV x, mkV y] W fun e w' => e = .returned (.int .i64 (cmpM x y)) ∧ ∃ q os', w' = grow (W.drewN q) os' := by
  obtain ⟨x0, x1, x2⟩ := x
  obtain ⟨y0, y1, y2⟩ := y
  have t1 := three_cell W (.int .i64 x0) (.int .i64 x1) (.int .i64 x2) 96
  have t2 := three_cell (W.alloc (.cells #[.int .i64 x0, .int .i64 x1, .int .i64 x2] 96)) (.int .i64 y0) (.int .i64 y1) (.int .i64 y2) 96
  have k1 : Keep (fun _ => False) W (W.alloc (.cells #[.int .i64 x0, .int .i64 x1, .int .i64 x2] 96)) := (Keep.refl _ W).alloc _
  have k2 : Keep (fun _ => False) (W.alloc (.cells #[.int .i64 x0, .int .i64 x1, .int .i64 x2] 96)) ((W.alloc (.cells #[.int .i64 x0, .int .i64 x1, .int .i64 x2] 96)).alloc (.cells #[.int .i64 y0, .int .i64 y1, .int .i64 y2] 96)) := (Keep.refl _ _).alloc _
  have HX := Lib.hid (And.intro (k2.cell t1.1 (fun h => h)) (And.intro (k2.cell t1.2.1 (fun h => h)) (k2.cell t1.2.2.1 (fun h => h))))
  have HY := Lib.hid t2
  have HK := Lib.hid (k1.trans k2)
  have HD : Hid (W.drawn ≤ ((W.alloc (.cells #[.int .i64 x0, .int .i64 x1, .int .i64 x2] 96)).alloc (.cells #[.int .i64 y0, .int .i64 y1, .int .i64 y2] 96)).drawn) := Lib.hid (Nat.le_refl _)
  rw [World.size_alloc] at HY
  have HC : Hid (cmpM ⟨x0, x1, x2⟩ ⟨y0, y1, y2⟩ = orL [cmpI x0 y0, cmpI x1 y1, cmpI x2 y2]) := Lib.hid rfl
  clear t1 t2 k1 k2
  go_enter Tryd.func71, Tryd.ntmps71
  go_wp2_with fail
  generalize (W.alloc (.cells #[.int .i64 x0, .int .i64 x1, .int .i64 x2] 96)).alloc (.cells #[.int .i64 y0, .int .i64 y1, .int .i64 y2] 96) = W1 at *
  generalize W.heap.size = z at *
  have a0 : ∀ p : KA (fun _ => False) W1, p.val.cell? ⟨z, 0, none⟩ = some (.int .i64 x0) := fun p => p.k.cell HX.out.1 (fun h => h)
  have a1 : ∀ p : KA (fun _ => False) W1, p.val.cell? ⟨z, 1, none⟩ = some (.int .i64 x1) := fun p => p.k.cell HX.out.2.1 (fun h => h)
  have a2 : ∀ p : KA (fun _ => False) W1, p.val.cell? ⟨z, 2, none⟩ = some (.int .i64 x2) := fun p => p.k.cell HX.out.2.2 (fun h => h)
  have b0 : ∀ p : KA (fun _ => False) W1, p.val.cell? ⟨z + 1, 0, none⟩ = some (.int .i64 y0) := fun p => p.k.cell HY.out.1 (fun h => h)
  have b1 : ∀ p : KA (fun _ => False) W1, p.val.cell? ⟨z + 1, 1, none⟩ = some (.int .i64 y1) := fun p => p.k.cell HY.out.2.1 (fun h => h)
  have b2 : ∀ p : KA (fun _ => False) W1, p.val.cell? ⟨z + 1, 2, none⟩ = some (.int .i64 y2) := fun p => p.k.cell HY.out.2.2.1 (fun h => h)
  refine wp_region_walk [(true, 0), (true, 1), (true, 2), (true, 3), (true, 5), (true, 6), (true, 7), (true, 8), (true, 10), (true, 11), (true, 12), (true, 13), (false, 4), (false, 9), (false, 14), (false, 15), (false, 16), (false, 17)] (inKA (fun _ => False) W1) (by kernel_rfl) (by kernel_rfl) ?_
  iterate 12 (refine walkW_read rfl (fun K hK => ?_); go_simp; refine hK _ ?_; clear hK K)
  clear a0 a1 a2 b0 b1 b2
  have HK1 : Hid (Keep (fun _ => False) W1 W1.drew) := Lib.hid (Keep.refl _ W1).drew
  refine walkW_do rfl (inKA.of HK1.out) (fun K hK => ?_)
  go_simp
  refine (cmp_int x0 y0 _).mono ?_
  rintro e w' ⟨rfl, rfl⟩
  refine hK _ _ ?_; clear hK K
  refine walkW_do rfl (inKA.of HK1.out) (fun K hK => ?_)
  go_simp
  refine (cmp_int x1 y1 _).mono ?_
  rintro e w' ⟨rfl, rfl⟩
  refine hK _ _ ?_; clear hK K
  refine walkW_do rfl (inKA.of HK1.out) (fun K hK => ?_)
  go_simp
  refine (cmp_int x2 y2 _).mono ?_
  rintro e w' ⟨rfl, rfl⟩
  refine hK _ _ ?_; clear hK K
  have q0 := cmpI_bd x0 y0
  have q1 := cmpI_bd x1 y1
  have q2 := cmpI_bd x2 y2
  generalize cmpI x0 y0 = m0 at *
  generalize cmpI x1 y1 = m1 at *
  generalize cmpI x2 y2 = m2 at *
  refine walkW_do rfl (inKA.of HK1.out) (fun K hK => ?_)
  go_simp
  refine hK _ _ ?_; clear hK K
  have HI : Hid (Its (W1.alloc (.cells #[.int .i64 m0, .int .i64 m1, .int .i64 m2] 3)).drew (.slice (some ⟨W1.heap.size, 0, none⟩) 3 3) [m0, m1, m2]) := Lib.hid (by
    have t := three_cell W1 (.int .i64 m0) (.int .i64 m1) (.int .i64 m2) 3
    refine ⟨by simp, ?_, some ⟨W1.heap.size, 0, none⟩, 3, W1.heap.size, 0, rfl, by simp, fun _ => rfl, fun j x hj => ?_⟩
    · intro x hx
      simp only [List.mem_cons, List.not_mem_nil, or_false] at hx
      rcases hx with rfl | rfl | rfl <;> assumption
    · rcases j with _ | _ | _ | j
      · simp at hj; subst hj; exact t.1
      · simp at hj; subst hj; exact t.2.1
      · simp at hj; subst hj; exact t.2.2.1
      · simp at hj)
  have HK2 : Hid (Keep (fun _ => False) W1 (W1.alloc (.cells #[.int .i64 m0, .int .i64 m1, .int .i64 m2] 3)).drew) := Lib.hid ((Keep.refl _ W1).alloc _).drew
  have HD2 : Hid (W.drawn ≤ (W1.alloc (.cells #[.int .i64 m0, .int .i64 m1, .int .i64 m2] 3)).drew.drawn) := Lib.hid (Nat.le_succ_of_le HD.out)
  generalize (W1.alloc (.cells #[.int .i64 m0, .int .i64 m1, .int .i64 m2] 3)).drew = W2 at *
  refine walkW_do rfl (inKA.of HK2.out) (fun K hK => ?_)
  go_simp
  refine (cmp_or _ [m0, m1, m2] _ HI.out).mono ?_
  rintro e w' ⟨rfl, rfl⟩
  refine hK _ _ ?_; clear hK K
  refine walkW_do rfl (inKA.of HK2.out) (fun K hK => ?_)
  go_simp
  refine hK _ _ ?_; clear hK K
  refine ⟨inKA.of HK2.out, ?_⟩
  go_wp2_with fail
  go_ret
  exact ⟨by rw [HC.out]; rfl, grow_of_keep (HK.out.trans HK2.out) HD2.out⟩

theorem cmpM_neg (x y : Mk) : cmpM x y < 0 ↔ ltMk x y := by
  unfold cmpM ltMk
  have c : ∀ a b : Int, (a < b ∧ cmpI a b = -1) ∨ (a = b ∧ cmpI a b = 0) ∨ (b < a ∧ cmpI a b = 1) := fun a b => by
    unfold cmpI
    rcases Int.lt_trichotomy a b with h | h | h
    · exact .inl ⟨h, by rw [if_pos h]⟩
    · exact .inr (.inl ⟨h, by rw [if_neg (by omega), if_neg (by omega)]⟩)
    · exact .inr (.inr ⟨h, by rw [if_neg (by omega), if_pos h]⟩)
  simp only [orL]
  rcases c x.point y.point with ⟨h1, e1⟩ | ⟨h1, e1⟩ | ⟨h1, e1⟩
  · rw [e1, if_neg (by omega)]; omega
  · rw [e1, if_pos rfl]
    rcases c x.node y.node with ⟨h2, e2⟩ | ⟨h2, e2⟩ | ⟨h2, e2⟩
    · rw [e2, if_neg (by omega)]; omega
    · rw [e2, if_pos rfl]
      rcases c x.i y.i with ⟨h3, e3⟩ | ⟨h3, e3⟩ | ⟨h3, e3⟩
      · rw [e3, if_neg (by omega)]; omega
      · rw [e3, if_pos rfl]; omega
      · rw [e3, if_neg (by omega)]; omega
    · rw [e2, if_neg (by omega)]; omega
  · rw [e1, if_neg (by omega)]; omega
theorem cmpM_lt (x y : Mk) : Go.Proofs.ltOf cmpM x y = decide (ltMk x y) := by
  unfold Go.Proofs.ltOf
  exact decide_eq_decide.2 (cmpM_neg x y)
theorem swoM : Go.Sort.SWO (Go.Proofs.ltOf cmpM) where
  irrefl x := by rw [cmpM_lt]; exact decide_eq_false (ltMk_irrefl x)
  trans x y z h1 h2 := by rw [cmpM_lt, decide_eq_true_eq] at *; exact ltMk_trans h1 h2
  ntrans x y z h1 h2 := by rw [cmpM_lt, decide_eq_false_iff_not] at *; unfold ltMk at *; omega
instance : Inhabited Mk := ⟨⟨0, 0, 0⟩⟩

theorem cmpLaysM (blk off size : Nat) (w : World) : Go.Proofs.CmpLays Tryd.prog 71 #[] encMk 3 cmpM blk off size w := fun _ _ _ _ x y => before_any x y _

open Go.Sort in
set_option maxRecDepth 100000 in
set_option maxHeartbeats 2000000 in
theorem sortMarks (blk off cap : Nat) (d : Array Mk) (w : World) (hH : Go.Sort.HoldsK encMk 3 w blk off d) (hblk : blk < w.heap.size) (hsz : d.size < 1000000) :
    Calls Tryd.prog 70 #[.slice (some ⟨blk, off, none⟩) d.size cap, .func (.func 71) #[] #[]] w fun e w' =>
      e = .returned (.tuple #[]) ∧ ∃ d' n os, PermIn 0 d.size d d' ∧ SortedIn (Go.Proofs.ltOf cmpM) 0 d.size d' ∧ w' = Go.Proofs.sortWorldK encMk 3 w blk off n d' os := by
  have eg : ∀ args w, (callFunc 71 args).run Tryd.prog w = .ok (.enter 71 args) w := enters_of Tryd.func71 (by kernel_rfl) rfl
  have hlim : Lib.bitLen d.size < 4611686018427387904 := Nat.lt_of_le_of_lt (Lib.bitLen_le d.size 62 (by omega) (by omega)) (by omega)
  have hp := Go.Proofs.AnyQ.pdqsortCmpFunc_all (P := Tryd.prog) Tryd.pdqMark 3 Tryd.isAgg96 Tryd.sizeOf96 encMk cmpM 71 #[] swoM blk off cap d w eg (cmpLaysM blk off d.size w) ⟨fun _ => rfl, fun x v hv => by simp [encMk] at hv; rcases hv with rfl | rfl | rfl <;> rfl, hH, hblk⟩ (d.size + 1) 0 d.size (Lib.bitLen d.size) d w (by omega) rfl (Go.Proofs.SWK.start hH) (Nat.zero_le _) (Nat.le_refl _) (by omega) hlim (Or.inl rfl)
  have hl : Calls Tryd.prog 88 #[.int .u64 (d.size : Int)] w fun e w' => e = .returned (.int .i64 (Lib.bitLen d.size : Nat)) ∧ w' = w := by
    have h := Go.Proofs.Any.bits_Len (Go.Proofs.SlLaysF0.n15.bits Tryd.bitsLen) (d.size : Int) w (by omega) (by omega)
    rwa [Int.toNat_natCast] at h
  change Calls Tryd.prog 87 _ _ _ at hp
  have hsorts := Go.Sort.pdq_sorts (Go.Proofs.ltOf cmpM) swoM d 0 d.size (Lib.bitLen d.size) true true (Nat.zero_le _) (Nat.le_refl _) (Or.inl rfl)
  generalize Go.Sort.pdq (Go.Proofs.ltOf cmpM) d 0 d.size (Lib.bitLen d.size) true true = r at *
  generalize Lib.bitLen d.size = bl at *
  obtain ⟨n, hn⟩ : ∃ n, d.size = n := ⟨_, rfl⟩
  rw [hn] at hp hl hsorts hsz ⊢
  rw [show ((0 : Nat) : Int) = 0 from rfl] at hp
  have wr : IntKind.u64.wrap (n : Int) = n := by simp [IntKind.wrap, IntKind.bits, IntKind.signed]; omega
  have HP := Lib.hid hp
  have HL := Lib.hid hl
  have HS := Lib.hid hsorts
  clear hp hl hsorts hH eg hn
  go_enter Tryd.func70, Tryd.ntmps70
  go_wp2_with fail
  with_reducible refine HL.out.mono ?_
  rintro e w' ⟨rfl, rfl⟩
  go_wp2_with fail
  with_reducible refine HP.out.mono ?_
  rintro e w' ⟨rfl, m, os, rfl⟩
  go_wp2_with fail
  go_end0
  exact ⟨rfl, r, m, os, HS.out.1, HS.out.2, rfl⟩
end Go.Proofs.YtplkmbfeeegaiaaDoor
