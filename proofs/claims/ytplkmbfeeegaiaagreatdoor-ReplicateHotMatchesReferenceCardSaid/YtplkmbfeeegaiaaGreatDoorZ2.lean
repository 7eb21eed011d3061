/-
  Several texts in one, each under its own heading below (merged by a program of ours): the contracts of the functions that the law reaches, part 2 of 6.
-/
import Derived.Test.YtplkmbfeeegaiaaGreatDoorZ1
import Derived.Shelf.SlGeneric
import Derived.Shelf.SlSortCmp.WholeK
import Derived.Ground.SlsfProg
import Derived.Test.YtplkmbfeeegaiaaGreatDoorProg
import Derived.Maps.AppendAt
import Derived.OwnWalk
import Derived.RangeFuncBox
import Derived.RangeFuncNested
import Derived.RangeFuncBound
import Derived.RangeFuncCalls
import Derived.RangeFuncLeaves
import Derived.Shelf.Abstract
import Derived.Shelf.RegionOpen
import Derived.WalkKit
import Derived.OwnWalkIn
import Derived.TacticsInMore
import Derived.LoopNIn
import Derived.LoopIn
import Derived.Sort.LoopGhostIn
import Derived.Laws.CopyOwn

/-
  The order of points; the sort of a circle.
-/
namespace Go.Proofs.YtplkmbfeeegaiaaGreatDoor
open Go.RowKit Go.Shelf
open Go.Sort (grow)

theorem grow_of_keep {W w' : World} (k : Keep (fun _ => False) W w') (hd : W.drawn ≤ w'.drawn) : ∃ q os', w' = grow (W.drewN q) os' := by
  refine ⟨w'.drawn - W.drawn, w'.heap.extract W.heap.size w'.heap.size, ?_⟩
  have hh : w'.heap = W.heap ++ w'.heap.extract W.heap.size w'.heap.size := by
    apply Array.ext_getElem?
    intro i
    by_cases hi : i < W.heap.size
    · rw [k.block i hi (fun h => h), Array.getElem?_append_left hi]
    · rw [Array.getElem?_append_right (by omega), Array.getElem?_extract]
      by_cases h2 : i < w'.heap.size
      · rw [if_pos (by omega)]
        congr 1
        omega
      · rw [if_neg (by omega), Array.getElem?_eq_none (by omega)]
  have h1 := k.os
  have h2 := k.tape
  have h3 := k.output
  unfold grow World.drewN
  cases w'
  cases W
  simp only at *
  subst h1 h2 h3
  congr 1
  omega

/-- A point as a value. -/
abbrev mkV (x : Mk) : Value := .agg #[.int .i64 x.point, .int .i64 x.node, .int .i64 x.i]
def encMk (x : Mk) : List Value := [.int .i64 x.point, .int .i64 x.node, .int .i64 x.i]
def cmpM (x y : Mk) : Int := orL [cmpI x.point y.point, cmpI x.node y.node, cmpI x.i y.i]
theorem cmpI_bd (a b : Int) : I64 (cmpI a b) := by unfold cmpI I64; split <;> (try split) <;> omega

set_option maxRecDepth 100000 in
set_option maxHeartbeats 2000000 in
theorem before_any (x y : Mk) (W : World) : Calls Tryz.prog 129 #[mkV x, mkV y] W fun e w' => e = .returned (.int .i64 (cmpM x y)) ∧ ∃ q os', w' = grow (W.drewN q) os' := by
  obtain ⟨x0, x1, x2⟩ := x
  obtain ⟨y0, y1, y2⟩ := y
  have t1 := three_cell W (.int .i64 x0) (.int .i64 x1) (.int .i64 x2) 165
  have t2 := three_cell (W.alloc (.cells #[.int .i64 x0, .int .i64 x1, .int .i64 x2] 165)) (.int .i64 y0) (.int .i64 y1) (.int .i64 y2) 165
  have k1 : Keep (fun _ => False) W (W.alloc (.cells #[.int .i64 x0, .int .i64 x1, .int .i64 x2] 165)) := (Keep.refl _ W).alloc _
  have k2 : Keep (fun _ => False) (W.alloc (.cells #[.int .i64 x0, .int .i64 x1, .int .i64 x2] 165)) ((W.alloc (.cells #[.int .i64 x0, .int .i64 x1, .int .i64 x2] 165)).alloc (.cells #[.int .i64 y0, .int .i64 y1, .int .i64 y2] 165)) := (Keep.refl _ _).alloc _
  have HX := Lib.hid (And.intro (k2.cell t1.1 (fun h => h)) (And.intro (k2.cell t1.2.1 (fun h => h)) (k2.cell t1.2.2.1 (fun h => h))))
  have HY := Lib.hid t2
  have HK := Lib.hid (k1.trans k2)
  have HD : Hid (W.drawn ≤ ((W.alloc (.cells #[.int .i64 x0, .int .i64 x1, .int .i64 x2] 165)).alloc (.cells #[.int .i64 y0, .int .i64 y1, .int .i64 y2] 165)).drawn) := Lib.hid (Nat.le_refl _)
  rw [World.size_alloc] at HY
  have HC : Hid (cmpM ⟨x0, x1, x2⟩ ⟨y0, y1, y2⟩ = orL [cmpI x0 y0, cmpI x1 y1, cmpI x2 y2]) := Lib.hid rfl
  clear t1 t2 k1 k2
  go_enter Tryz.func129, Tryz.ntmps129
  go_wp2_with fail
  generalize (W.alloc (.cells #[.int .i64 x0, .int .i64 x1, .int .i64 x2] 165)).alloc (.cells #[.int .i64 y0, .int .i64 y1, .int .i64 y2] 165) = W1 at *
  generalize W.heap.size = z at *
  have a0 : ∀ p : KA (fun _ => False) W1, p.val.cell? ⟨z, 0, none⟩ = some (.int .i64 x0) := fun p => p.k.cell HX.out.1 (fun h => h)
  have a1 : ∀ p : KA (fun _ => False) W1, p.val.cell? ⟨z, 1, none⟩ = some (.int .i64 x1) := fun p => p.k.cell HX.out.2.1 (fun h => h)
  have a2 : ∀ p : KA (fun _ => False) W1, p.val.cell? ⟨z, 2, none⟩ = some (.int .i64 x2) := fun p => p.k.cell HX.out.2.2 (fun h => h)
  have b0 : ∀ p : KA (fun _ => False) W1, p.val.cell? ⟨z + 1, 0, none⟩ = some (.int .i64 y0) := fun p => p.k.cell HY.out.1 (fun h => h)
  have b1 : ∀ p : KA (fun _ => False) W1, p.val.cell? ⟨z + 1, 1, none⟩ = some (.int .i64 y1) := fun p => p.k.cell HY.out.2.1 (fun h => h)
  have b2 : ∀ p : KA (fun _ => False) W1, p.val.cell? ⟨z + 1, 2, none⟩ = some (.int .i64 y2) := fun p => p.k.cell HY.out.2.2.1 (fun h => h)
  refine wp_region_walk [(true, 0), (true, 1), (true, 2), (true, 3), (true, 5), (true, 6), (true, 7), (true, 8), (true, 10), (true, 11), (true, 12), (true, 13), (false, 4), (false, 9), (false, 14), (false, 15), (false, 16), (false, 17)] (inKA (fun _ => False) W1) (by kernel_rfl) (by kernel_rfl) ?_
  iterate 12 (refine walkW_read rfl (fun K hK => ?_); go_simp; refine hK _ ?_; clear hK K)
  clear a0 a1 a2 b0 b1 b2
  have HK1 : Hid (Keep (fun _ => False) W1 W1.drew) := Lib.hid (Keep.refl _ W1).drew
  refine walkW_do rfl (inKA.of HK1.out) (fun K hK => ?_)
  go_simp
  refine (cmp_int x0 y0 _).mono ?_
  rintro e w' ⟨rfl, rfl⟩
  refine hK _ _ ?_; clear hK K
  refine walkW_do rfl (inKA.of HK1.out) (fun K hK => ?_)
  go_simp
  refine (cmp_int x1 y1 _).mono ?_
  rintro e w' ⟨rfl, rfl⟩
  refine hK _ _ ?_; clear hK K
  refine walkW_do rfl (inKA.of HK1.out) (fun K hK => ?_)
  go_simp
  refine (cmp_int x2 y2 _).mono ?_
  rintro e w' ⟨rfl, rfl⟩
  refine hK _ _ ?_; clear hK K
  have q0 := cmpI_bd x0 y0
  have q1 := cmpI_bd x1 y1
  have q2 := cmpI_bd x2 y2
  generalize cmpI x0 y0 = m0 at *
  generalize cmpI x1 y1 = m1 at *
  generalize cmpI x2 y2 = m2 at *
  refine walkW_do rfl (inKA.of HK1.out) (fun K hK => ?_)
  go_simp
  refine hK _ _ ?_; clear hK K
  have HI : Hid (Its (W1.alloc (.cells #[.int .i64 m0, .int .i64 m1, .int .i64 m2] 3)).drew (.slice (some ⟨W1.heap.size, 0, none⟩) 3 3) [m0, m1, m2]) := Lib.hid (by
    have t := three_cell W1 (.int .i64 m0) (.int .i64 m1) (.int .i64 m2) 3
    refine ⟨by simp, ?_, some ⟨W1.heap.size, 0, none⟩, 3, W1.heap.size, 0, rfl, by simp, fun _ => rfl, fun j x hj => ?_⟩
    · intro x hx
      simp only [List.mem_cons, List.not_mem_nil, or_false] at hx
      rcases hx with rfl | rfl | rfl <;> assumption
    · rcases j with _ | _ | _ | j
      · simp at hj; subst hj; exact t.1
      · simp at hj; subst hj; exact t.2.1
      · simp at hj; subst hj; exact t.2.2.1
      · simp at hj)
  have HK2 : Hid (Keep (fun _ => False) W1 (W1.alloc (.cells #[.int .i64 m0, .int .i64 m1, .int .i64 m2] 3)).drew) := Lib.hid ((Keep.refl _ W1).alloc _).drew
  have HD2 : Hid (W.drawn ≤ (W1.alloc (.cells #[.int .i64 m0, .int .i64 m1, .int .i64 m2] 3)).drew.drawn) := Lib.hid (Nat.le_succ_of_le HD.out)
  generalize (W1.alloc (.cells #[.int .i64 m0, .int .i64 m1, .int .i64 m2] 3)).drew = W2 at *
  refine walkW_do rfl (inKA.of HK2.out) (fun K hK => ?_)
  go_simp
  refine (cmp_or _ [m0, m1, m2] _ HI.out).mono ?_
  rintro e w' ⟨rfl, rfl⟩
  refine hK _ _ ?_; clear hK K
  refine walkW_do rfl (inKA.of HK2.out) (fun K hK => ?_)
  go_simp
  refine hK _ _ ?_; clear hK K
  refine ⟨inKA.of HK2.out, ?_⟩
  go_wp2_with fail
  go_ret
  exact ⟨by rw [HC.out]; rfl, grow_of_keep (HK.out.trans HK2.out) HD2.out⟩

theorem cmpM_neg (x y : Mk) : cmpM x y < 0 ↔ ltMk x y := by
  unfold cmpM ltMk
  have c : ∀ a b : Int, (a < b ∧ cmpI a b = -1) ∨ (a = b ∧ cmpI a b = 0) ∨ (b < a ∧ cmpI a b = 1) := fun a b => by
    unfold cmpI
    rcases Int.lt_trichotomy a b with h | h | h
    · exact .inl ⟨h, by rw [if_pos h]⟩
    · exact .inr (.inl ⟨h, by rw [if_neg (by omega), if_neg (by omega)]⟩)
    · exact .inr (.inr ⟨h, by rw [if_neg (by omega), if_pos h]⟩)
  simp only [orL]
  rcases c x.point y.point with ⟨h1, e1⟩ | ⟨h1, e1⟩ | ⟨h1, e1⟩
  · rw [e1, if_neg (by omega)]; omega
  · rw [e1, if_pos rfl]
    rcases c x.node y.node with ⟨h2, e2⟩ | ⟨h2, e2⟩ | ⟨h2, e2⟩
    · rw [e2, if_neg (by omega)]; omega
    · rw [e2, if_pos rfl]
      rcases c x.i y.i with ⟨h3, e3⟩ | ⟨h3, e3⟩ | ⟨h3, e3⟩
      · rw [e3, if_neg (by omega)]; omega
      · rw [e3, if_pos rfl]; omega
      · rw [e3, if_neg (by omega)]; omega
    · rw [e2, if_neg (by omega)]; omega
  · rw [e1, if_neg (by omega)]; omega
theorem cmpM_lt (x y : Mk) : Go.Proofs.ltOf cmpM x y = decide (ltMk x y) := by
  unfold Go.Proofs.ltOf
  exact decide_eq_decide.2 (cmpM_neg x y)
theorem swoM : Go.Sort.SWO (Go.Proofs.ltOf cmpM) where
  irrefl x := by rw [cmpM_lt]; exact decide_eq_false (ltMk_irrefl x)
  trans x y z h1 h2 := by rw [cmpM_lt, decide_eq_true_eq] at *; exact ltMk_trans h1 h2
  ntrans x y z h1 h2 := by rw [cmpM_lt, decide_eq_false_iff_not] at *; unfold ltMk at *; omega
instance : Inhabited Mk := ⟨⟨0, 0, 0⟩⟩

theorem cmpLaysM (blk off size : Nat) (w : World) : Go.Proofs.CmpLays Tryz.prog 129 #[] encMk 3 cmpM blk off size w := fun _ _ _ _ x y => before_any x y _

open Go.Sort in
set_option maxRecDepth 100000 in
set_option maxHeartbeats 2000000 in
theorem sortMarks (blk off cap : Nat) (d : Array Mk) (w : World) (hH : Go.Sort.HoldsK encMk 3 w blk off d) (hblk : blk < w.heap.size) (hsz : d.size < 1000000) :
    Calls Tryz.prog 128 #[.slice (some ⟨blk, off, none⟩) d.size cap, .func (.func 129) #[] #[]] w fun e w' =>
      e = .returned (.tuple #[]) ∧ ∃ d' n os, PermIn 0 d.size d d' ∧ SortedIn (Go.Proofs.ltOf cmpM) 0 d.size d' ∧ w' = Go.Proofs.sortWorldK encMk 3 w blk off n d' os := by
  have eg : ∀ args w, (callFunc 129 args).run Tryz.prog w = .ok (.enter 129 args) w := enters_of Tryz.func129 (by kernel_rfl) rfl
  have hlim : Lib.bitLen d.size < 4611686018427387904 := Nat.lt_of_le_of_lt (Lib.bitLen_le d.size 62 (by omega) (by omega)) (by omega)
  have hp := Go.Proofs.AnyQ.pdqsortCmpFunc_all (P := Tryz.prog) Tryz.pdqMark 3 Tryz.isAgg165 Tryz.sizeOf165 encMk cmpM 129 #[] swoM blk off cap d w eg (cmpLaysM blk off d.size w) ⟨fun _ => rfl, fun x v hv => by simp [encMk] at hv; rcases hv with rfl | rfl | rfl <;> rfl, hH, hblk⟩ (d.size + 1) 0 d.size (Lib.bitLen d.size) d w (by omega) rfl (Go.Proofs.SWK.start hH) (Nat.zero_le _) (Nat.le_refl _) (by omega) hlim (Or.inl rfl)
  have hl : Calls Tryz.prog 135 #[.int .u64 (d.size : Int)] w fun e w' => e = .returned (.int .i64 (Lib.bitLen d.size : Nat)) ∧ w' = w := by
    have h := Go.Proofs.Any.bits_Len (Go.Proofs.SlLaysF0.n15.bits Tryz.bitsLen) (d.size : Int) w (by omega) (by omega)
    rwa [Int.toNat_natCast] at h
  change Calls Tryz.prog 145 _ _ _ at hp
  have hsorts := Go.Sort.pdq_sorts (Go.Proofs.ltOf cmpM) swoM d 0 d.size (Lib.bitLen d.size) true true (Nat.zero_le _) (Nat.le_refl _) (Or.inl rfl)
  generalize Go.Sort.pdq (Go.Proofs.ltOf cmpM) d 0 d.size (Lib.bitLen d.size) true true = r at *
  generalize Lib.bitLen d.size = bl at *
  obtain ⟨n, hn⟩ : ∃ n, d.size = n := ⟨_, rfl⟩
  rw [hn] at hp hl hsorts hsz ⊢
  rw [show ((0 : Nat) : Int) = 0 from rfl] at hp
  have wr : IntKind.u64.wrap (n : Int) = n := by simp [IntKind.wrap, IntKind.bits, IntKind.signed]; omega
  have HP := Lib.hid hp
  have HL := Lib.hid hl
  have HS := Lib.hid hsorts
  clear hp hl hsorts hH eg hn
  go_enter Tryz.func128, Tryz.ntmps128
  go_wp2_with fail
  with_reducible refine HL.out.mono ?_
  rintro e w' ⟨rfl, rfl⟩
  go_wp2_with fail
  with_reducible refine HP.out.mono ?_
  rintro e w' ⟨rfl, m, os, rfl⟩
  go_wp2_with fail
  go_end0
  exact ⟨rfl, r, m, os, HS.out.1, HS.out.2, rfl⟩
end Go.Proofs.YtplkmbfeeegaiaaGreatDoor

/-
  DERIVED: THE SHELF's CONTRACTS AT THIS DUMP, IN PLAIN WORDS (tools/lay-plain.mjs out of 'YtplkmbfeeegaiaaGreatDoorS2.lean', which tools/lay-shelf.mjs wrote): THE SAME DECLARATIONS UNDER THE SAME NAMES: 'import', 'namespace', 'open', 'def', 'theorem' AND NOTHING ELSE: no command of the shelf's: FOR A HAND-IN. Each laying: the table of numbers ('.._ren') and one theorem, a field a fact of the dump's own or the kernel's comparison; each contract: ONE APPLICATION.
-/
namespace Go.Proofs
open Go.Shelf
def Tryz.pdqCand_ren : Go.Shelf.Ren := ⟨fun | 14 => 137 | 20 => 162 | 21 => 163 | 22 => 164 | 23 => 165 | 24 => 166 | 25 => 167 | 26 => 168 | 27 => 169 | 46 => 193 | 47 => 185 | 48 => 186 | 49 => 194 | 50 => 195 | 15 => 135 | 57 => 205 | 28 => 156 | 29 => 157 | n => n, fun | 24 => 150 | 22 => 147 | 3 => 3 | 25 => 152 | 4 => 4 | 0 => 0 | 46 => 190 | 45 => 189 | 50 => 100 | 66 => 215 | 39 => 140 | 55 => 197 | 70 => 219 | 76 => 231 | 77 => 232 | 53 => 174 | 5 => 5 | 9 => 9 | n => n, fun | n => n⟩
theorem Tryz.pdqCand : Go.Proofs.SlLaysF0.n14 Tryz.prog Tryz.pdqCand_ren := {
  mixed := by kernel_rfl
  f14 := ⟨Tryz.f137.name, by decide, Tryz.func137.trans (congrArg some (by kernel_rfl))⟩
  f15 := Tryz.func135.trans (congrArg some (by kernel_rfl))
  f20 := ⟨Tryz.f162.name, by decide, Tryz.func162.trans (congrArg some (by kernel_rfl))⟩
  f21 := ⟨Tryz.f163.name, by decide, Tryz.func163.trans (congrArg some (by kernel_rfl))⟩
  f22 := ⟨Tryz.f164.name, by decide, Tryz.func164.trans (congrArg some (by kernel_rfl))⟩
  f23 := ⟨Tryz.f165.name, by decide, Tryz.func165.trans (congrArg some (by kernel_rfl))⟩
  f24 := ⟨Tryz.f166.name, by decide, Tryz.func166.trans (congrArg some (by kernel_rfl))⟩
  f25 := ⟨Tryz.f167.name, by decide, Tryz.func167.trans (congrArg some (by kernel_rfl))⟩
  f26 := ⟨Tryz.f168.name, by decide, Tryz.func168.trans (congrArg some (by kernel_rfl))⟩
  f27 := ⟨Tryz.f169.name, by decide, Tryz.func169.trans (congrArg some (by kernel_rfl))⟩
  f28 := Tryz.func156.trans (congrArg some (by kernel_rfl))
  f29 := Tryz.func157.trans (congrArg some (by kernel_rfl))
  f46 := ⟨Tryz.f193.name, by decide, Tryz.func193.trans (congrArg some (by kernel_rfl))⟩
  f47 := Tryz.func185.trans (congrArg some (by kernel_rfl))
  f48 := Tryz.func186.trans (congrArg some (by kernel_rfl))
  f49 := ⟨Tryz.f194.name, by decide, Tryz.func194.trans (congrArg some (by kernel_rfl))⟩
  f50 := ⟨Tryz.f195.name, by decide, Tryz.func195.trans (congrArg some (by kernel_rfl))⟩
  f57 := ⟨Tryz.f205.name, by decide, Tryz.func205.trans (congrArg some (by kernel_rfl))⟩
  t0 := Tryz.underlying0
  a0 := Tryz.isAgg0
  z0 := Tryz.sizeOf0
  v0 := Tryz.zeroValue0
  t3 := Tryz.underlying3
  a3 := Tryz.isAgg3
  z3 := Tryz.sizeOf3
  v3 := Tryz.zeroValue3
  t4 := Tryz.underlying4
  a4 := Tryz.isAgg4
  z4 := Tryz.sizeOf4
  v4 := Tryz.zeroValue4
  t5 := Tryz.underlying5
  a5 := Tryz.isAgg5
  z5 := Tryz.sizeOf5
  v5 := Tryz.zeroValue5
  t9 := Tryz.underlying9
  a9 := Tryz.isAgg9
  z9 := Tryz.sizeOf9
  v9 := Tryz.zeroValue9
  t22 := Tryz.underlying147
  a22 := Tryz.isAgg147
  z22 := Tryz.sizeOf147
  v22 := Tryz.zeroValue147
  t25 := Tryz.underlying152
  a25 := Tryz.isAgg152
  z25 := Tryz.sizeOf152
  v25 := Tryz.zeroValue152
  t39 := Tryz.underlying140
  a39 := Tryz.isAgg140
  z39 := Tryz.sizeOf140
  v39 := Tryz.zeroValue140
  t45 := Tryz.underlying189
  a45 := Tryz.isAgg189
  z45 := Tryz.sizeOf189
  v45 := Tryz.zeroValue189
  t46 := Tryz.underlying190
  a46 := Tryz.isAgg190
  z46 := Tryz.sizeOf190
  v46 := Tryz.zeroValue190
  t50 := Tryz.underlying100
  a50 := Tryz.isAgg100
  z50 := Tryz.sizeOf100
  v50 := Tryz.zeroValue100
  t53 := Tryz.underlying174
  a53 := Tryz.isAgg174
  z53 := Tryz.sizeOf174
  v53 := Tryz.zeroValue174
  t55 := Tryz.underlying197
  a55 := Tryz.isAgg197
  z55 := Tryz.sizeOf197
  v55 := Tryz.zeroValue197
  t66 := Tryz.underlying215
  a66 := Tryz.isAgg215
  z66 := Tryz.sizeOf215
  v66 := Tryz.zeroValue215
  t70 := Tryz.underlying219
  a70 := Tryz.isAgg219
  z70 := Tryz.sizeOf219
  v70 := Tryz.zeroValue219
  t76 := Tryz.underlying231
  a76 := Tryz.isAgg231
  z76 := Tryz.sizeOf231
  v76 := Tryz.zeroValue231
  t77 := Tryz.underlying232
  a77 := Tryz.isAgg232
  z77 := Tryz.sizeOf232
  v77 := Tryz.zeroValue232 }
end Go.Proofs

/-
  Holders of a key: the plain model, and what the laws say of it.
-/
namespace Go.Proofs.YtplkmbfeeegaiaaGreatDoor

/-- a stands before b: a greater rank, or the same one and a smaller number. -/
def befC (rk : Int → Int) (a b : Mb) : Prop := rk b.node < rk a.node ∨ (rk a.node = rk b.node ∧ a.node < b.node)
instance (rk : Int → Int) (a b : Mb) : Decidable (befC rk a b) := inferInstanceAs (Decidable (_ ∨ _))
theorem befC_trans {rk : Int → Int} {a b c : Mb} (h1 : befC rk a b) (h2 : befC rk b c) : befC rk a c := by unfold befC at *; omega
theorem befC_irrefl {rk : Int → Int} {a : Mb} (h : befC rk a a) : False := by unfold befC at h; omega
theorem befC_total {rk : Int → Int} {a b : Mb} (h : a.node ≠ b.node) : befC rk a b ∨ befC rk b a := by unfold befC; omega

/-- The first of those that p accepts. -/
def selC (rk : Int → Int) : List Mb → (Mb → Bool) → Option Mb
  | [], _ => none
  | m :: l, p => match selC rk l p with
    | none => if p m then some m else none
    | some x => if p m ∧ befC rk m x then some m else some x

structure BestC (rk : Int → Int) (l : List Mb) (p : Mb → Bool) (x : Mb) : Prop where
  mem : x ∈ l
  ok : p x = true
  best : ∀ y ∈ l, p y = true → y = x ∨ befC rk x y

theorem selC_none {rk : Int → Int} : ∀ {l : List Mb} {p : Mb → Bool}, selC rk l p = none → ∀ y ∈ l, p y = false
  | [], _, _ => by simp
  | m :: l, p, h => by
    unfold selC at h
    cases hs : selC rk l p with
    | none =>
      rw [hs] at h
      have ih := selC_none hs
      intro y hy
      rcases List.mem_cons.1 hy with rfl | hy
      · by_cases hp : p y = true
        · simp [hp] at h
        · simpa using hp
      · exact ih y hy
    | some x => rw [hs] at h; simp only at h; split at h <;> cases h
theorem selC_some {rk : Int → Int} : ∀ {l : List Mb} {p : Mb → Bool} {x : Mb}, l.Pairwise (fun a b => a.node < b.node) → selC rk l p = some x → BestC rk l p x
  | [], _, _, _, h => by simp [selC] at h
  | m :: l, p, x, ha, h => by
    rw [List.pairwise_cons] at ha
    unfold selC at h
    cases hs : selC rk l p with
    | none =>
      rw [hs] at h
      have ih := selC_none hs
      simp only at h
      split at h
      · cases h
        refine ⟨by simp, by assumption, fun y hy hp => ?_⟩
        rcases List.mem_cons.1 hy with rfl | hy
        · exact .inl rfl
        · rw [ih y hy] at hp; cases hp
      · cases h
    | some z =>
      rw [hs] at h
      have ih := selC_some ha.2 hs
      simp only at h
      split at h
      · rename_i hc
        cases h
        refine ⟨by simp, hc.1, fun y hy hp => ?_⟩
        rcases List.mem_cons.1 hy with rfl | hy
        · exact .inl rfl
        · rcases ih.best y hy hp with rfl | h2
          · exact .inr hc.2
          · exact .inr (befC_trans hc.2 h2)
      · rename_i hc
        cases h
        refine ⟨by simp [ih.mem], ih.ok, fun y hy hp => ?_⟩
        rcases List.mem_cons.1 hy with rfl | hy
        · have hne : y.node ≠ x.node := by have := ha.1 x ih.mem; omega
          rcases befC_total (rk := rk) hne with h2 | h2
          · exact absurd ⟨hp, h2⟩ hc
          · exact .inr h2
        · exact ih.best y hy hp
theorem BestC.uniq {rk : Int → Int} {l : List Mb} {p : Mb → Bool} {x y : Mb} (h1 : BestC rk l p x) (h2 : BestC rk l p y) : x = y := by
  rcases h1.best y h2.mem h2.ok with h | h
  · exact h.symm
  · rcases h2.best x h1.mem h1.ok with h' | h'
    · exact h'
    · exact (befC_irrefl (befC_trans h h')).elim
/-- The first of the sorted ones. -/
theorem selC_sorted {rk : Int → Int} {l s : List Mb} (ha : l.Pairwise (fun a b => a.node < b.node)) (hp : s.Perm l) (hs : s.Pairwise (befC rk)) (p : Mb → Bool) : s.find? p = selC rk l p := by
  cases h : s.find? p with
  | none =>
    cases h2 : selC rk l p with
    | none => rfl
    | some x =>
      have b := selC_some ha h2
      have := List.find?_eq_none.1 h x (hp.mem_iff.2 b.mem)
      exact absurd b.ok this
  | some y =>
    obtain ⟨hy, A, B, he, hA⟩ := List.find?_eq_some_iff_append.1 h
    have by_ : BestC rk l p y := ⟨hp.mem_iff.1 (by rw [he]; simp), hy, fun z hz hpz => by
      have hz2 := hp.mem_iff.2 hz
      rw [he] at hz2 hs
      rcases List.mem_append.1 hz2 with hz3 | hz3
      · have := hA z hz3; rw [hpz] at this; cases this
      · rcases List.mem_cons.1 hz3 with rfl | hz4
        · exact .inl rfl
        · exact .inr ((List.pairwise_cons.1 (List.pairwise_append.1 hs).2.1).1 z hz4)⟩
    cases h2 : selC rk l p with
    | none => have := selC_none h2 y by_.mem; rw [hy] at this; cases this
    | some x => rw [(selC_some ha h2).uniq by_]

def hasI (xs : List Int) (n : Int) : Bool := xs.contains n
/-- Not yet a holder; not in a region of a holder. -/
def freeC (out : List Int) (m : Mb) : Bool := !out.contains m.node
def usedC (l : List Mb) (out : List Int) (r : Int) : Bool := l.any (fun y => out.contains y.node && decide (y.region = r))
def awayC (l : List Mb) (out : List Int) (m : Mb) : Bool := !usedC l out m.region
def nextC (rk : Int → Int) (l : List Mb) (out : List Int) : Option Mb := match selC rk l (fun m => freeC out m && awayC l out m) with
  | some x => some x
  | none => selC rk l (freeC out)
def stepC (rk : Int → Int) (l : List Mb) (out : List Int) : List Int := match nextC rk l out with
  | some x => out ++ [x.node]
  | none => out
def holdC (rk : Int → Int) (l : List Mb) (o : Int) : Nat → List Int
  | 0 => [o]
  | n + 1 => stepC rk l (holdC rk l o n)
theorem nextC_spec {rk : Int → Int} {l : List Mb} {out : List Int} (ha : l.Pairwise (fun a b => a.node < b.node)) {x : Mb} (h : nextC rk l out = some x) : x ∈ l ∧ x.node ∉ out := by
  unfold nextC at h
  split at h
  · rename_i y hy
    cases h
    have b := selC_some ha hy
    have := b.ok
    simp only [Bool.and_eq_true] at this
    exact ⟨b.mem, by simpa [freeC] using this.1⟩
  · have b := selC_some ha h
    exact ⟨b.mem, by simpa [freeC] using b.ok⟩
theorem nextC_none {rk : Int → Int} {l : List Mb} {out : List Int} (h : nextC rk l out = none) : ∀ m ∈ l, m.node ∈ out := by
  unfold nextC at h
  split at h
  · cases h
  · intro m hm
    have := selC_none h m hm
    simpa [freeC] using this

/-- What holders are. -/
structure HoldC (l : List Mb) (o : Int) (n : Nat) (out : List Int) : Prop where
  nd : out.Nodup
  mem : ∀ x ∈ out, x ∈ l.map Mb.node
  hd : ∃ t, out = o :: t
  len : out.length = min (n + 1) l.length

theorem map_nodup {l : List Mb} (ha : l.Pairwise (fun a b => a.node < b.node)) : (l.map Mb.node).Nodup := by
  rw [List.nodup_iff_pairwise_ne]
  rw [List.pairwise_map]
  exact ha.imp (fun h => by omega)
theorem nodup_sub_len : ∀ {a b : List Int}, a.Nodup → (∀ x ∈ a, x ∈ b) → a.length ≤ b.length
  | [], b, _, _ => by simp
  | x :: a, b, h, hs => by
    rw [List.nodup_cons] at h
    have hx := hs x (by simp)
    have := nodup_sub_len (b := b.erase x) h.2 (fun y hy => (List.mem_erase_of_ne (fun e => by subst e; exact h.1 hy)).2 (hs y (by simp [hy])))
    rw [List.length_erase_of_mem hx] at this
    have hb : 0 < b.length := List.length_pos_of_mem hx
    simp only [List.length_cons]
    omega
theorem holdC_ok {rk : Int → Int} {l : List Mb} {o : Int} (ha : l.Pairwise (fun a b => a.node < b.node)) (ho : o ∈ l.map Mb.node) : ∀ n, HoldC l o n (holdC rk l o n)
  | 0 => ⟨by simp [holdC], by simpa [holdC] using ho, ⟨[], rfl⟩, by
      have : 0 < l.length := by have := List.length_pos_of_mem ho; simpa using this
      simp only [holdC, List.length_cons, List.length_nil]; omega⟩
  | n + 1 => by
    have ih := holdC_ok (rk := rk) ha ho n
    show HoldC l o (n + 1) (stepC rk l (holdC rk l o n))
    unfold stepC
    generalize holdC rk l o n = out at *
    cases h : nextC rk l out with
    | none =>
      have hf := nextC_none h
      have h1 := nodup_sub_len (map_nodup ha) (fun x hx => by obtain ⟨m, hm, rfl⟩ := List.mem_map.1 hx; exact hf m hm)
      rw [List.length_map] at h1
      have := ih.len
      exact ⟨ih.nd, ih.mem, ih.hd, by show out.length = _; omega⟩
    | some x =>
      obtain ⟨h1, h2⟩ := nextC_spec ha h
      have hnd : (out ++ [x.node]).Nodup := by
        rw [List.nodup_append]
        exact ⟨ih.nd, by simp, fun a hy b hb e => by rw [List.mem_singleton] at hb; subst hb; subst e; exact h2 hy⟩
      have hmem : ∀ y ∈ out ++ [x.node], y ∈ l.map Mb.node := fun y hy => by
        rcases List.mem_append.1 hy with hy | hy
        · exact ih.mem y hy
        · rw [List.mem_singleton] at hy; rw [hy]; exact List.mem_map_of_mem h1
      obtain ⟨t, ht⟩ := ih.hd
      refine ⟨hnd, hmem, ⟨t ++ [x.node], by rw [ht]; rfl⟩, ?_⟩
      have h3 := nodup_sub_len hnd hmem
      rw [List.length_map, List.length_append, List.length_singleton] at h3
      have := ih.len
      show (out ++ [x.node]).length = _
      rw [List.length_append, List.length_singleton]
      omega
/-- How many members are holders. -/
theorem hold_count {l : List Mb} {o : Int} {n : Nat} {out : List Int} (h : HoldC l o n out) (ha : l.Pairwise (fun a b => a.node < b.node)) : (l.filter (fun m => out.contains m.node)).length = out.length := by
  have e1 : (l.filter (fun m => out.contains m.node)).length = ((l.map Mb.node).filter (fun x => out.contains x)).length := by
    rw [List.filter_map, List.length_map]
    rfl
  rw [e1]
  have hnd : ((l.map Mb.node).filter (fun x => out.contains x)).Nodup := (map_nodup ha).filter _
  apply Nat.le_antisymm
  · exact nodup_sub_len hnd (fun x hx => by have := (List.mem_filter.1 hx).2; simpa using this)
  · exact nodup_sub_len h.nd (fun x hx => List.mem_filter.2 ⟨h.mem x hx, by simpa using hx⟩)
theorem holdC_pre (rk : Int → Int) (l : List Mb) (o : Int) (n : Nat) : ∃ t, holdC rk l o (n + 1) = holdC rk l o n ++ t := by
  show ∃ t, stepC rk l (holdC rk l o n) = _
  unfold stepC
  cases nextC rk l (holdC rk l o n) with
  | none => exact ⟨[], by simp⟩
  | some x => exact ⟨[x.node], rfl⟩
end Go.Proofs.YtplkmbfeeegaiaaGreatDoor

/-
  Candidates: their order; their sort.
-/
namespace Go.Proofs.YtplkmbfeeegaiaaGreatDoor
open Go.RowKit Go.Shelf
open Go.Sort (grow)

/-- A member with its rank. -/
structure Cd where
  m : Mb
  rank : Int
/-- A candidate as a value. -/
abbrev cdV (x : Cd) : Value := .agg #[.int .i64 x.m.node, .int .i64 x.m.region, .int .i64 x.m.weight, .int .i64 x.rank]
def encCd (x : Cd) : List Value := [.int .i64 x.m.node, .int .i64 x.m.region, .int .i64 x.m.weight, .int .i64 x.rank]
def cmpC (x y : Cd) : Int := orL [cmpI y.rank x.rank, cmpI x.m.node y.m.node]
theorem four_cell (W : World) (x y z u : Value) (t : TypeId) : (W.alloc (.cells #[x, y, z, u] t)).cell? ⟨W.heap.size, 0, none⟩ = some x ∧ (W.alloc (.cells #[x, y, z, u] t)).cell? ⟨W.heap.size, 1, none⟩ = some y ∧ (W.alloc (.cells #[x, y, z, u] t)).cell? ⟨W.heap.size, 2, none⟩ = some z ∧ (W.alloc (.cells #[x, y, z, u] t)).cell? ⟨W.heap.size, 3, none⟩ = some u ∧ ∀ o, (W.alloc (.cells #[x, y, z, u] t)).frozen? ⟨W.heap.size, o, none⟩ = false := by
  have hh : (W.alloc (.cells #[x, y, z, u] t)).heap[W.heap.size]? = some (.cells #[x, y, z, u] t) := World.alloc_heap_new _ _
  refine ⟨?_, ?_, ?_, ?_, fun o => ?_⟩
  · unfold World.cell?; simp only [hh]; rfl
  · unfold World.cell?; simp only [hh]; rfl
  · unfold World.cell?; simp only [hh]; rfl
  · unfold World.cell?; simp only [hh]; rfl
  · unfold World.frozen?; simp only [hh]; simp

set_option maxRecDepth 100000 in
set_option maxHeartbeats 2000000 in
theorem beforeC_any (x y : Cd) (W : World) : Calls Tryz.prog 116 #[cdV x, cdV y] W fun e w' => e = .returned (.int .i64 (cmpC x y)) ∧ ∃ q os', w' = grow (W.drewN q) os' := by
  obtain ⟨⟨x0, x1, x2⟩, x3⟩ := x
  obtain ⟨⟨y0, y1, y2⟩, y3⟩ := y
  have t1 := four_cell W (.int .i64 x0) (.int .i64 x1) (.int .i64 x2) (.int .i64 x3) 150
  have t2 := four_cell (W.alloc (.cells #[.int .i64 x0, .int .i64 x1, .int .i64 x2, .int .i64 x3] 150)) (.int .i64 y0) (.int .i64 y1) (.int .i64 y2) (.int .i64 y3) 150
  have k1 : Keep (fun _ => False) W (W.alloc (.cells #[.int .i64 x0, .int .i64 x1, .int .i64 x2, .int .i64 x3] 150)) := (Keep.refl _ W).alloc _
  have k2 : Keep (fun _ => False) (W.alloc (.cells #[.int .i64 x0, .int .i64 x1, .int .i64 x2, .int .i64 x3] 150)) ((W.alloc (.cells #[.int .i64 x0, .int .i64 x1, .int .i64 x2, .int .i64 x3] 150)).alloc (.cells #[.int .i64 y0, .int .i64 y1, .int .i64 y2, .int .i64 y3] 150)) := (Keep.refl _ _).alloc _
  have HX := Lib.hid (And.intro (k2.cell t1.1 (fun h => h)) (k2.cell t1.2.2.2.1 (fun h => h)))
  have HY := Lib.hid (And.intro t2.1 t2.2.2.2.1)
  have HK := Lib.hid (k1.trans k2)
  have HD : Hid (W.drawn ≤ ((W.alloc (.cells #[.int .i64 x0, .int .i64 x1, .int .i64 x2, .int .i64 x3] 150)).alloc (.cells #[.int .i64 y0, .int .i64 y1, .int .i64 y2, .int .i64 y3] 150)).drawn) := Lib.hid (Nat.le_refl _)
  rw [World.size_alloc] at HY
  have HC : Hid (cmpC ⟨⟨x0, x1, x2⟩, x3⟩ ⟨⟨y0, y1, y2⟩, y3⟩ = orL [cmpI y3 x3, cmpI x0 y0]) := Lib.hid rfl
  clear t1 t2 k1 k2
  go_enter Tryz.func116, Tryz.ntmps116
  go_wp2_with fail
  generalize (W.alloc (.cells #[.int .i64 x0, .int .i64 x1, .int .i64 x2, .int .i64 x3] 150)).alloc (.cells #[.int .i64 y0, .int .i64 y1, .int .i64 y2, .int .i64 y3] 150) = W1 at *
  generalize W.heap.size = z at *
  have a0 : ∀ p : KA (fun _ => False) W1, p.val.cell? ⟨z, 0, none⟩ = some (.int .i64 x0) := fun p => p.k.cell HX.out.1 (fun h => h)
  have a3 : ∀ p : KA (fun _ => False) W1, p.val.cell? ⟨z, 3, none⟩ = some (.int .i64 x3) := fun p => p.k.cell HX.out.2 (fun h => h)
  have b0 : ∀ p : KA (fun _ => False) W1, p.val.cell? ⟨z + 1, 0, none⟩ = some (.int .i64 y0) := fun p => p.k.cell HY.out.1 (fun h => h)
  have b3 : ∀ p : KA (fun _ => False) W1, p.val.cell? ⟨z + 1, 3, none⟩ = some (.int .i64 y3) := fun p => p.k.cell HY.out.2 (fun h => h)
  refine wp_region_walk [(true, 0), (true, 1), (true, 2), (true, 3), (true, 5), (true, 6), (true, 7), (true, 8), (true, 9), (true, 10), (false, 4), (false, 11), (false, 12), (false, 13), (false, 14)] (inKA (fun _ => False) W1) (by kernel_rfl) (by kernel_rfl) ?_
  iterate 10 (refine walkW_read rfl (fun K hK => ?_); go_simp; refine hK _ ?_; clear hK K)
  clear a0 a3 b0 b3
  have HK1 : Hid (Keep (fun _ => False) W1 W1.drew) := Lib.hid (Keep.refl _ W1).drew
  refine walkW_do rfl (inKA.of HK1.out) (fun K hK => ?_)
  go_simp
  refine (cmp_int y3 x3 _).mono ?_
  rintro e w' ⟨rfl, rfl⟩
  refine hK _ _ ?_; clear hK K
  refine walkW_do rfl (inKA.of HK1.out) (fun K hK => ?_)
  go_simp
  refine (cmp_int x0 y0 _).mono ?_
  rintro e w' ⟨rfl, rfl⟩
  refine hK _ _ ?_; clear hK K
  have q0 := cmpI_bd y3 x3
  have q1 := cmpI_bd x0 y0
  generalize cmpI y3 x3 = m0 at *
  generalize cmpI x0 y0 = m1 at *
  refine walkW_do rfl (inKA.of HK1.out) (fun K hK => ?_)
  go_simp
  refine hK _ _ ?_; clear hK K
  have HI : Hid (Its (W1.alloc (.cells #[.int .i64 m0, .int .i64 m1] 3)).drew (.slice (some ⟨W1.heap.size, 0, none⟩) 2 2) [m0, m1]) := Lib.hid (by
    have hh : (W1.alloc (.cells #[.int .i64 m0, .int .i64 m1] 3)).heap[W1.heap.size]? = some (.cells #[.int .i64 m0, .int .i64 m1] 3) := World.alloc_heap_new _ _
    refine ⟨by simp, ?_, some ⟨W1.heap.size, 0, none⟩, 2, W1.heap.size, 0, rfl, by simp, fun _ => rfl, fun j x hj => ?_⟩
    · intro x hx
      simp only [List.mem_cons, List.not_mem_nil, or_false] at hx
      rcases hx with rfl | rfl <;> assumption
    · show (W1.alloc (.cells #[.int .i64 m0, .int .i64 m1] 3)).cell? _ = _
      rcases j with _ | _ | j
      · simp at hj; subst hj; unfold World.cell?; simp only [hh]; rfl
      · simp at hj; subst hj; unfold World.cell?; simp only [hh]; rfl
      · simp at hj)
  have HK2 : Hid (Keep (fun _ => False) W1 (W1.alloc (.cells #[.int .i64 m0, .int .i64 m1] 3)).drew) := Lib.hid ((Keep.refl _ W1).alloc _).drew
  have HD2 : Hid (W.drawn ≤ (W1.alloc (.cells #[.int .i64 m0, .int .i64 m1] 3)).drew.drawn) := Lib.hid (Nat.le_succ_of_le HD.out)
  generalize (W1.alloc (.cells #[.int .i64 m0, .int .i64 m1] 3)).drew = W2 at *
  refine walkW_do rfl (inKA.of HK2.out) (fun K hK => ?_)
  go_simp
  refine (cmp_or _ [m0, m1] _ HI.out).mono ?_
  rintro e w' ⟨rfl, rfl⟩
  refine hK _ _ ?_; clear hK K
  refine walkW_do rfl (inKA.of HK2.out) (fun K hK => ?_)
  go_simp
  refine hK _ _ ?_; clear hK K
  refine ⟨inKA.of HK2.out, ?_⟩
  go_wp2_with fail
  go_ret
  exact ⟨by rw [HC.out]; rfl, grow_of_keep (HK.out.trans HK2.out) HD2.out⟩

def ltCd (x y : Cd) : Prop := y.rank < x.rank ∨ (x.rank = y.rank ∧ x.m.node < y.m.node)
instance (x y : Cd) : Decidable (ltCd x y) := inferInstanceAs (Decidable (_ ∨ _))
theorem cmpC_neg (x y : Cd) : cmpC x y < 0 ↔ ltCd x y := by
  unfold cmpC ltCd
  have c : ∀ a b : Int, (a < b ∧ cmpI a b = -1) ∨ (a = b ∧ cmpI a b = 0) ∨ (b < a ∧ cmpI a b = 1) := fun a b => by
    unfold cmpI
    rcases Int.lt_trichotomy a b with h | h | h
    · exact .inl ⟨h, by rw [if_pos h]⟩
    · exact .inr (.inl ⟨h, by rw [if_neg (by omega), if_neg (by omega)]⟩)
    · exact .inr (.inr ⟨h, by rw [if_neg (by omega), if_pos h]⟩)
  simp only [orL]
  rcases c y.rank x.rank with ⟨h1, e1⟩ | ⟨h1, e1⟩ | ⟨h1, e1⟩
  · rw [e1, if_neg (by omega)]; omega
  · rw [e1, if_pos rfl]
    rcases c x.m.node y.m.node with ⟨h2, e2⟩ | ⟨h2, e2⟩ | ⟨h2, e2⟩
    · rw [e2, if_neg (by omega)]; omega
    · rw [e2, if_pos rfl]; omega
    · rw [e2, if_neg (by omega)]; omega
  · rw [e1, if_neg (by omega)]; omega
theorem cmpC_lt (x y : Cd) : Go.Proofs.ltOf cmpC x y = decide (ltCd x y) := by
  unfold Go.Proofs.ltOf
  exact decide_eq_decide.2 (cmpC_neg x y)
theorem swoC : Go.Sort.SWO (Go.Proofs.ltOf cmpC) where
  irrefl x := by rw [cmpC_lt]; exact decide_eq_false (by unfold ltCd; omega)
  trans x y z h1 h2 := by rw [cmpC_lt, decide_eq_true_eq] at *; unfold ltCd at *; omega
  ntrans x y z h1 h2 := by rw [cmpC_lt, decide_eq_false_iff_not] at *; unfold ltCd at *; omega
instance : Inhabited Cd := ⟨⟨⟨0, 0, 0⟩, 0⟩⟩

theorem cmpLaysC (blk off size : Nat) (w : World) : Go.Proofs.CmpLays Tryz.prog 116 #[] encCd 4 cmpC blk off size w := fun _ _ _ _ x y => beforeC_any x y _

open Go.Sort in
set_option maxRecDepth 100000 in
set_option maxHeartbeats 2000000 in
theorem sortCands (blk off cap : Nat) (d : Array Cd) (w : World) (hH : Go.Sort.HoldsK encCd 4 w blk off d) (hblk : blk < w.heap.size) (hsz : d.size < 1000000) :
    Calls Tryz.prog 115 #[.slice (some ⟨blk, off, none⟩) d.size cap, .func (.func 116) #[] #[]] w fun e w' =>
      e = .returned (.tuple #[]) ∧ ∃ d' n os, PermIn 0 d.size d d' ∧ SortedIn (Go.Proofs.ltOf cmpC) 0 d.size d' ∧ w' = Go.Proofs.sortWorldK encCd 4 w blk off n d' os := by
  have eg : ∀ args w, (callFunc 116 args).run Tryz.prog w = .ok (.enter 116 args) w := enters_of Tryz.func116 (by kernel_rfl) rfl
  have hlim : Lib.bitLen d.size < 4611686018427387904 := Nat.lt_of_le_of_lt (Lib.bitLen_le d.size 62 (by omega) (by omega)) (by omega)
  have hp := Go.Proofs.AnyQ.pdqsortCmpFunc_all (P := Tryz.prog) Tryz.pdqCand 4 Tryz.isAgg150 Tryz.sizeOf150 encCd cmpC 116 #[] swoC blk off cap d w eg (cmpLaysC blk off d.size w) ⟨fun _ => rfl, fun x v hv => by simp [encCd] at hv; rcases hv with rfl | rfl | rfl | rfl <;> rfl, hH, hblk⟩ (d.size + 1) 0 d.size (Lib.bitLen d.size) d w (by omega) rfl (Go.Proofs.SWK.start hH) (Nat.zero_le _) (Nat.le_refl _) (by omega) hlim (Or.inl rfl)
  have hl : Calls Tryz.prog 135 #[.int .u64 (d.size : Int)] w fun e w' => e = .returned (.int .i64 (Lib.bitLen d.size : Nat)) ∧ w' = w := by
    have h := Go.Proofs.Any.bits_Len (Go.Proofs.SlLaysF0.n15.bits Tryz.bitsLen) (d.size : Int) w (by omega) (by omega)
    rwa [Int.toNat_natCast] at h
  change Calls Tryz.prog 137 _ _ _ at hp
  have hsorts := Go.Sort.pdq_sorts (Go.Proofs.ltOf cmpC) swoC d 0 d.size (Lib.bitLen d.size) true true (Nat.zero_le _) (Nat.le_refl _) (Or.inl rfl)
  generalize Go.Sort.pdq (Go.Proofs.ltOf cmpC) d 0 d.size (Lib.bitLen d.size) true true = r at *
  generalize Lib.bitLen d.size = bl at *
  obtain ⟨n, hn⟩ : ∃ n, d.size = n := ⟨_, rfl⟩
  rw [hn] at hp hl hsorts hsz ⊢
  rw [show ((0 : Nat) : Int) = 0 from rfl] at hp
  have wr : IntKind.u64.wrap (n : Int) = n := by simp [IntKind.wrap, IntKind.bits, IntKind.signed]; omega
  have HP := Lib.hid hp
  have HL := Lib.hid hl
  have HS := Lib.hid hsorts
  clear hp hl hsorts hH eg hn
  go_enter Tryz.func115, Tryz.ntmps115
  go_wp2_with fail
  with_reducible refine HL.out.mono ?_
  rintro e w' ⟨rfl, rfl⟩
  go_wp2_with fail
  with_reducible refine HP.out.mono ?_
  rintro e w' ⟨rfl, m, os, rfl⟩
  go_wp2_with fail
  go_end0
  exact ⟨rfl, r, m, os, HS.out.1, HS.out.2, rfl⟩
end Go.Proofs.YtplkmbfeeegaiaaGreatDoor

/-
  append of one element; the points of members.
-/
namespace Go.Proofs.YtplkmbfeeegaiaaGreatDoor
open Go.RowKit Go.Shelf

theorem ownsRow_keep {W W' : World} {lo : Nat} {e : TypeId} {z : Nat} {v : Value} {n : Nat} {xs : List Value} {A : Nat → Prop} (h : W.ownsRow lo e z v n xs) (k : Keep A W W') (hA : ∀ b, v.ownBlock = some b → ¬ A b) : W'.ownsRow lo e z v n xs := by
  obtain ⟨h1, h2⟩ := h
  refine ⟨h1, ?_⟩
  rcases h2 with h2 | ⟨g, cap, cur, rfl, hb, hh, r⟩
  · exact .inl h2
  · exact .inr ⟨g, cap, cur, rfl, hb, k.heap hh (hA g rfl), r⟩
theorem ownsRow_lo {W : World} {lo lo' : Nat} {e : TypeId} {z : Nat} {v : Value} {n : Nat} {xs : List Value} (h : W.ownsRow lo e z v n xs) (hl : lo' ≤ lo) : W.ownsRow lo' e z v n xs :=
  ⟨h.1, h.2.imp id (fun ⟨g, cp, cur, a1, a2, a3⟩ => ⟨g, cp, cur, a1, Nat.le_trans hl a2, a3⟩)⟩
theorem cells_new (W : World) (xs : List Value) (t : TypeId) (j : Nat) (u : Value) (h : xs[j]? = some u) : (W.alloc (.cells xs.toArray t)).cell? ⟨W.heap.size, j, none⟩ = some u := by
  unfold World.cell?
  rw [World.alloc_heap_new]
  simp [h]

/-- One element more. -/
theorem app_one (st e : TypeId) (k by_ : Nat) (z : Value) (hst : Tryz.prog.underlying st = some (.slice e)) (hinfo : (Tryz.prog.info? e).map (fun i => (i.zero, i.size, i.bytes)) = some (some z, k, by_)) (hzs : z.cells.size = k) (hk : 0 < k) (hby : by_ ≤ 64)
    (W : World) (ty lo : Nat) (v : Value) (n : Nat) (xs new : List Value) (hown : W.ownsRow lo e k v n xs) (hlen : new.length = k) (h1 : ∀ u ∈ new, u.oneCell' = true) (hn : n ≤ 1000000) (hlo : lo ≤ W.heap.size) :
    ∃ v' w', (Builtin.append_ #[st, st] ty #[v, .slice (some ⟨W.heap.size, 0, none⟩) 1 1]).run Tryz.prog (W.alloc (.cells new.toArray e)) = .ok v' w' ∧ w'.ownsRow lo e k v' (n + 1) (xs ++ new) ∧
      Keep (fun k => v.ownBlock = some k) W w' ∧ (v'.ownBlock = v.ownBlock ∨ v'.ownBlock = some (W.heap.size + 1)) ∧ ∃ g c, v' = .slice (some ⟨g, 0, none⟩) (n + 1) c := by
  obtain ⟨i0, hi, hz0, hz1, hz2⟩ := info_parts hinfo
  obtain ⟨v', w', r1, r2, r3, r4, r5⟩ := run_append_own_at (P := Tryz.prog) (W.alloc (.cells new.toArray e)) lo st ty e i0 z k by_ hst hi hz0 hz1 hz2 hzs hk v n xs (hown.alloc _) ⟨W.heap.size, 0, none⟩ 1 1 new (by omega)
    (by
      intro j u hj
      rw [Addr.add_lit, Nat.zero_add]
      exact cells_new W new e j u hj)
    h1 (by unfold maxLen; omega) (by
      have : (n + 1) * by_ ≤ 1000001 * 64 := Nat.mul_le_mul (by omega) hby
      omega) (by rw [World.size_alloc]; omega)
  exact ⟨v', w', r1, r2, ((Keep.refl _ W).alloc _).trans (Keep.of_grown r3), by rw [World.size_alloc] at r5; exact r5, ownsRow_succ r2⟩

theorem its_new (W : World) (xs : List Int) (hn : xs.length ≤ 1000) (hb : ∀ x ∈ xs, I64 x) : Its (W.alloc (.cells (xs.map (fun x => Value.int .i64 x)).toArray 3)) (.slice (some ⟨W.heap.size, 0, none⟩) xs.length xs.length) xs :=
  ⟨by omega, hb, _, _, W.heap.size, 0, rfl, Nat.le_refl _, fun _ => rfl, fun j x hj => by rw [Nat.zero_add]; exact cells_new W _ _ j _ (by rw [List.getElem?_map, hj]; rfl)⟩
theorem nodeT_eq (m i : Nat) : nodeT (m : Int) i = txt ⟨#[110, 111, 100, 101]⟩ [m, i] := by unfold nodeT; rw [Int.toNat_natCast]
theorem wp_app {P : Program} {o : Oper} {a : Act} {w w' : World} {K : Act → World → Prop} {Q : Exit → Act → World → Prop} {v v2 v' : Value}
    (s x : Operand) (t : TypeId) (hop : o.op = Op.call { callee := Callee.builtin Builtin.append, args := #[s, x], argTypes := #[t, t] })
    (hs : a.eval s = v) (hx : a.eval x = v2) (hrun : (Builtin.append_ #[t, t] o.type #[v, v2]).run P w = .ok v' w') (hK : K (a.put o.dst v') w') : o.wp P a w K Q := by
  unfold Oper.wp
  simp [execOp, hop, resolve, invoke, builtin, hs, hx, hrun, Result.andThen]
  exact hK
theorem wpList_app {P : Program} {ops : Array Oper} {rest : List Oper} {o : Oper} {a : Act} {w w' : World} {Q : Exit → Act → World → Prop} {v v2 v' : Value}
    (hg : o.guard = none) (s x : Operand) (t : TypeId) (hop : o.op = Op.call { callee := Callee.builtin Builtin.append, args := #[s, x], argTypes := #[t, t] })
    (hs : a.eval s = v) (hx : a.eval x = v2) (hrun : (Builtin.append_ #[t, t] o.type #[v, v2]).run P w = .ok v' w') (hK : wpList P ops Q rest (a.put o.dst v') w') : wpList P ops Q (o :: rest) a w := by
  refine wpList_plain hg fun K hK' => ?_
  unfold Oper.wp
  simp [execOp, hop, resolve, invoke, builtin, hs, hx, hrun, Result.andThen]
  exact hK' _ _ hK

theorem infoMk : (Tryz.prog.info? 165).map (fun i => (i.zero, i.size, i.bytes)) = some (some (.agg #[.int .i64 0, .int .i64 0, .int .i64 0]), 3, 24) := by kernel_rfl
theorem infoInt : (Tryz.prog.info? 3).map (fun i => (i.zero, i.size, i.bytes)) = some (some (.int .i64 0), 1, 8) := by kernel_rfl
theorem infoMb : (Tryz.prog.info? 35).map (fun i => (i.zero, i.size, i.bytes)) = some (some (.agg #[.int .i64 0, .int .i64 0, .int .i64 0]), 3, 24) := by kernel_rfl

def flatM (l : List Mk) : List Value := l.flatMap encMk
theorem flatM_append (a b : List Mk) : flatM (a ++ b) = flatM a ++ flatM b := by unfold flatM; rw [List.flatMap_append]
theorem flatM_one (x : Mk) : flatM [x] = encMk x := by simp [flatM]

/-- The points that are drawn when k members are done, and i points of the next one. -/
def drawK (l : List Mb) (k i : Nat) : List Mk := draws PN (l.take k) ++ (match l[k]? with | some m => (drawM PN m).take i | none => [])
theorem drawK_next {l : List Mb} {k : Nat} {m : Mb} (h : l[k]? = some m) : drawK l k (4 * m.weight.toNat) = drawK l (k + 1) 0 := by
  unfold drawK
  rw [h, List.take_add_one, h, Option.toList_some, draws_append]
  have e : (drawM PN m).take (4 * m.weight.toNat) = drawM PN m := List.take_of_length_le (by simp [drawM])
  have e2 : draws PN [m] = drawM PN m := by simp [draws]
  simp only [e, e2]
  split <;> simp
theorem drawK_succ {l : List Mb} {k i : Nat} {m : Mb} (h : l[k]? = some m) (hi : i < 4 * m.weight.toNat) : drawK l k (i + 1) = drawK l k i ++ [⟨PN m.node i, m.node, i⟩] := by
  unfold drawK
  rw [h]
  simp only []
  rw [List.take_add_one, List.append_assoc]
  congr 2
  unfold drawM
  rw [List.getElem?_map, List.getElem?_range hi]
  rfl
theorem drawK_zero (l : List Mb) : drawK l 0 0 = [] := by unfold drawK; split <;> simp [draws]
theorem drawK_all {l : List Mb} {k : Nat} (h : l.length ≤ k) : drawK l k 0 = draws PN l := by
  unfold drawK
  rw [List.take_of_length_le h, List.getElem?_eq_none h]
  simp
theorem drawK_len {l : List Mb} (hv : VL l) {k i : Nat} : (drawK l k i).length ≤ 100000 := by
  unfold drawK
  rw [List.length_append]
  have h1 : ((draws PN (l.take k)).length : Int) = 4 * wsum (l.take k) := draws_len PN _ (fun m hm => hv.ok m (List.mem_of_mem_take hm))
  have h2 := wsum_take hv.ok k
  have h3 := hv.wsum
  have h4 : (match l[k]? with | some m => (drawM PN m).take i | none => []).length ≤ 64 := by
    cases e : l[k]? with
    | none => simp
    | some m =>
      have := hv.ok m (List.mem_of_getElem? e)
      unfold okMb at this
      simp only []
      refine Nat.le_trans (List.length_take_le' _ _) ?_
      simp [drawM]
      omega
  omega

/-- Points in a slice of their own. -/
def OwnM (w : World) (l : List Mk) (v : Value) (W : World) : Prop := Keep (fun _ => False) w W ∧ W.ownsRow w.heap.size 165 3 v l.length (flatM l)
theorem OwnM.nil {w W : World} (k : Keep (fun _ => False) w W) : OwnM w [] (.slice none 0 0) W := ⟨k, by simpa [flatM] using World.ownsRow_nil W w.heap.size 165 3⟩
theorem OwnM.keep {w W W' : World} {l : List Mk} {v : Value} (h : OwnM w l v W) (k : Keep (fun _ => False) W W') : OwnM w l v W' := ⟨h.1.trans k, ownsRow_keep h.2 k (fun _ _ h => h)⟩
theorem OwnM.form {w W : World} {l : List Mk} {v : Value} (h : OwnM w l v W) : v = .slice none 0 0 ∨ ∃ b n c, v = .slice (some ⟨b, 0, none⟩) n c := by
  rcases h.2.2 with ⟨rfl, _⟩ | ⟨g', cap, cur, rfl, _⟩
  · exact .inl rfl
  · exact .inr ⟨_, _, _, rfl⟩
theorem OwnM.snoc {w W : World} {l : List Mk} {v : Value} (h : OwnM w l v W) (x : Mk) (hl : l.length ≤ 100000) :
    ∃ v' w', (Builtin.append_ #[130, 130] 130 #[v, .slice (some ⟨W.heap.size, 0, none⟩) 1 1]).run Tryz.prog (W.alloc (.cells #[.int .i64 x.point, .int .i64 x.node, .int .i64 x.i] 165)) = .ok v' w' ∧ OwnM w (l ++ [x]) v' w' ∧ Keep (fun j => v.ownBlock = some j) W w' ∧ (v'.ownBlock = v.ownBlock ∨ v'.ownBlock = some (W.heap.size + 1)) := by
  obtain ⟨v', w', r1, r2, r3, r4, -⟩ := app_one 130 165 3 24 _ Tryz.underlying130 infoMk rfl (by decide) (by decide) W 130 w.heap.size v l.length (flatM l) (encMk x) h.2 rfl (by simp [encMk, Value.oneCell']) (by omega) h.1.size
  refine ⟨v', w', r1, ⟨h.1.trans' r3 (fun j e => .inr (h.2.lt j e).1), ?_⟩, r3, r4⟩
  rw [flatM_append, flatM_one, List.length_append]
  exact r2

set_option maxRecDepth 100000 in
set_option maxHeartbeats 4000000 in
theorem drawn_raw (v : Value) (l : List Mb) (w : World) (h : Mbs w v l) (hv : VL l) (hT : Tab w) (Q : Ending → World → Prop)
    (hQ : ∀ vo W, OwnM w (draws PN l) vo W → Calls Tryz.prog 128 #[vo, .func (.func 129) #[] #[]] W fun e w' => e = .returned (.tuple #[]) ∧ Q (.returned vo) w') :
    Calls Tryz.prog 99 #[v] w Q := by
  obtain ⟨hn, hbd, a, c, b, off, rfl, hc, ha, hcell⟩ := h
  have HC := Lib.hid hcell
  have HA := Lib.hid ha
  have HV := Lib.hid hv
  have HQ := Lib.hid hQ
  have HT := Lib.hid hT
  clear hcell ha hbd hv hQ hT
  obtain ⟨n, hn'⟩ : ∃ n, l.length = n := ⟨_, rfl⟩
  have HL := Lib.hid hn'
  rw [hn'] at hn hc ⊢
  clear hn'
  go_enter Tryz.func99, Tryz.ntmps99
  go_wp2_with fail
  go_loopg [3, 9] n (fun gh v3 v wr => ∃ (k : Nat), gh + k = n ∧ v = .int .i64 k ∧ OwnM w (drawK l k 0) v3 wr)
  case atStart => exact ⟨0, by omega, rfl, by rw [drawK_zero]; exact OwnM.nil (Keep.refl _ _)⟩
  case round =>
    obtain ⟨k, hk, rfl, how⟩ := hrel
    have HOW := Lib.hid how
    clear how
    by_cases hlt : k < n
    · obtain ⟨m, hm⟩ : ∃ m, l[k]? = some m := ⟨_, List.getElem?_eq_getElem (by have := HL.out; omega)⟩
      obtain rfl := HA.out (by have := HL.out; omega)
      have c0 := HOW.out.1.cell (HC.out k m hm).1 (fun h => h)
      have c1 := HOW.out.1.cell (HC.out k m hm).2.1 (fun h => h)
      have c2 := HOW.out.1.cell (HC.out k m hm).2.2 (fun h => h)
      have HM := Lib.hid hm
      have hok := HV.out.ok m (List.mem_of_getElem? hm)
      unfold okMb at hok
      have hkz : (k : Int) < (n : Int) := by omega
      have hk0 : (0 : Int) ≤ (k : Int) := by omega
      clear hm
      obtain ⟨mn, mr, mw⟩ := m
      simp only [] at c0 c1 c2 hok
      have HK2 : Hid (OwnM w (drawK l k 0) u3 (wr.alloc (.cells #[.int .i64 mn, .int .i64 mr, .int .i64 mw] 35))) := Lib.hid (HOW.out.keep ((Keep.refl _ wr).alloc _))
      have HT3 := Lib.hid (three_cell wr (.int .i64 mn) (.int .i64 mr) (.int .i64 mw) 35)
      have HZ : Hid (w.heap.size ≤ wr.heap.size) := Lib.hid HOW.out.1.size
      go_wp2_with fail
      clear c0 c1 c2
      generalize wr.alloc (.cells #[.int .i64 mn, .int .i64 mr, .int .i64 mw] 35) = W2 at *
      have HOB : Hid (∀ j, u3.ownBlock = some j → j ≠ wr.heap.size) := Lib.hid (fun j e => by have := (HOW.out.2.lt j e).2; omega)
      generalize wr.heap.size = z at *
      obtain ⟨mq, rfl⟩ : ∃ mq : Nat, mn = mq := ⟨mn.toNat, by omega⟩
      obtain ⟨wq, rfl⟩ : ∃ wq : Nat, mw = wq := ⟨mw.toNat, by omega⟩
      go_loopg [3, 16] (4 * wq) (fun g2 v3 v wr2 => ∃ i : Nat, g2 + i = 4 * wq ∧ v = .int .i64 i ∧ OwnM w (drawK l k i) v3 wr2 ∧ wr2.cell? ⟨z, 0, none⟩ = some (.int .i64 mq) ∧ ∀ j, v3.ownBlock = some j → j ≠ z)
      case atStart => exact ⟨0, by omega, rfl, HK2.out, HT3.out.1, HOB.out⟩
      case round =>
        clear HK2 HT3 HOB HOW
        obtain ⟨i, hi, rfl, how, hcz, hob⟩ := hrel
        have HOW := Lib.hid how
        have HOB := Lib.hid hob
        have HCZ := Lib.hid hcz
        clear how hob hcz
        by_cases hil : i < 4 * wq
        · have hiz : (i : Int) < 4 * (wq : Int) := by omega
          have hi0 : (0 : Int) ≤ (i : Int) := by omega
          have hi100 : i < 100 := by omega
          have hm100 : mq < 100 := by omega
          have HF := Lib.hid HOW.out.form
          go_upto_region 8 with (fail)
          have cz : ∀ p : KA (fun j => u3.ownBlock = some j) wr, p.val.cell? ⟨z, 0, none⟩ = some (.int .i64 mq) := fun p => p.k.cell HCZ.out (fun e => HOB.out z e rfl)
          refine wp_region_walk [(true, 0), (true, 1), (true, 2), (true, 3), (true, 7), (true, 8), (true, 9), (false, 4), (false, 5), (false, 6), (false, 10), (false, 11), (false, 12), (false, 13)] (inKA (fun j => u3.ownBlock = some j) wr) (by kernel_rfl) (by kernel_rfl) ?_
          iterate 7 (refine walkW_read rfl (fun K hK => ?_); go_simp; refine hK _ ?_; clear hK K)
          clear cz
          refine walkW_do rfl (inKA.of (Keep.refl _ wr).drew) (fun K hK => ?_)
          go_simp
          refine hK _ _ ?_; clear hK K
          have HI : Hid (Its (wr.alloc (.cells #[.int .i64 mq, .int .i64 i] 3)).drew (.slice (some ⟨wr.heap.size, 0, none⟩) 2 2) ([mq, i].map (fun q : Nat => (q : Int)))) := Lib.hid ((its_new wr [(mq : Int), (i : Int)] (by simp) (by
            intro x hx
            simp only [List.mem_cons, List.not_mem_nil, or_false] at hx
            unfold I64
            rcases hx with rfl | rfl <;> omega)).kept (Keep.refl _ _).drew)
          have HK1 : Hid (Keep (fun _ => False) wr (wr.alloc (.cells #[.int .i64 mq, .int .i64 i] 3)).drew) := Lib.hid ((Keep.refl _ wr).alloc _).drew
          have HSZ : Hid (wr.heap.size < (wr.alloc (.cells #[.int .i64 mq, .int .i64 i] 3)).drew.heap.size) := Lib.hid (by show wr.heap.size < (wr.alloc _).heap.size; simp)
          generalize (wr.alloc (.cells #[.int .i64 mq, .int .i64 i] 3)).drew = V1 at *
          generalize hws : wr.heap.size = ws at HI HSZ
          have HWS := Lib.hid hws
          clear hws
          have HK1' : Hid (Keep (fun j => u3.ownBlock = some j) wr V1) := Lib.hid (HK1.out.mono (fun _ h => h.elim))
          refine walkW_do rfl (inKA.of HK1'.out) (fun K hK => ?_)
          go_simp
          refine (text_any _ _ [mq, i] V1 (by decide) (by simp) (by
            intro q hq
            simp only [List.mem_cons, List.not_mem_nil, or_false] at hq
            rcases hq with rfl | rfl <;> omega) HI.out).mono ?_
          rintro e w' ⟨rfl, rfl⟩
          refine hK _ _ ?_; clear hK K
          have hnt := nodeT_eq mq i
          rw [← hnt]
          clear hnt
          have HP : Hid (((pt (nodeT (mq : Int) i) : Nat) : Int) = PN (mq : Int) i) := Lib.hid rfl
          have HPT := Lib.hid (point_any (nodeT (mq : Int) i) (nodeT_size (by rw [Int.toNat_natCast]; omega) hi100) V1 ((HT.out.kept HOW.out.1).kept HK1.out))
          rw [HP.out] at HPT
          clear HP
          generalize nodeT (mq : Int) i = nt at *
          refine walkW_do rfl (inKA.of HK1'.out) (fun K hK => ?_)
          go_simp
          refine HPT.out.mono ?_
          rintro e w' ⟨rfl, rfl⟩
          refine hK _ _ ?_; clear hK K
          obtain ⟨v', W3, hr, how3, hk3, hob3⟩ := (HOW.out.keep HK1.out).snoc ⟨PN (mq : Int) i, mq, i⟩ (drawK_len HV.out)
          simp only [] at hr
          have HN : Hid (OwnM w (drawK l k (i + 1)) v' W3) := Lib.hid (by
            rw [drawK_succ HM.out (by show i < 4 * (wq : Int).toNat; rw [Int.toNat_natCast]; omega)]
            exact how3)
          have HK3 : Hid (Keep (fun j => u3.ownBlock = some j) wr W3) := Lib.hid (HK1'.out.trans hk3)
          have HCZ3 : Hid (W3.cell? ⟨z, 0, none⟩ = some (.int .i64 mq)) := Lib.hid (HK3.out.cell HCZ.out (fun e => HOB.out z e rfl))
          have HOB3 : Hid (∀ j, v'.ownBlock = some j → j ≠ z) := Lib.hid (fun j e => by
            rcases hob3 with h | h
            · exact HOB.out j (h.symm.trans e)
            · rw [h] at e
              cases e
              have h1 := World.block_lt_of_cell? _ _ HCZ.out
              have h2 := HWS.out
              have h3 := HSZ.out
              simp only [] at h1
              omega)
          have HR := Lib.hid hr
          clear how3 hk3 hob3 hr
          generalize PN (mq : Int) i = pn at *
          refine walkW_do rfl (inKA.of HK1'.out) (fun K hK => ?_)
          go_simp
          refine hK _ _ ?_; clear hK K
          refine walkW_do rfl (inKA.of HK1'.out) (fun K hK => ?_)
          go_simp
          refine hK _ _ ?_; clear hK K
          refine walkW_do rfl (inKA.of (HK1'.out.alloc _)) (fun K hK => ?_)
          rw [if_pos (by simp [Region.wanted])]
          refine wp_app (.tmp 19) (.tmp 30) 130 rfl rfl rfl HR.out (hK _ _ ?_); clear hK K
          refine walkW_do rfl (inKA.of HK3.out) (fun K hK => ?_)
          go_simp
          refine hK _ _ ?_; clear hK K
          refine ⟨inKA.of HK3.out, ?_⟩
          go_wp2_with fail
          go_roundg (gk - 1)
          case rel => exact ⟨i + 1, by omega, by go_num, HN.out, HCZ3.out, HOB3.out⟩
          case measure => omega
        · obtain rfl : i = 4 * wq := by omega
          have HN : Hid (OwnM w (drawK l (k + 1) 0) u3 wr) := Lib.hid (by
            have := HOW.out
            rwa [show 4 * wq = 4 * (wq : Int).toNat by rw [Int.toNat_natCast], drawK_next HM.out] at this)
          have hiz : ¬ ((4 * wq : Nat) : Int) < 4 * (wq : Int) := by omega
          go_wp2_with fail
          go_roundg (n - (k + 1))
          case rel => exact ⟨k + 1, by omega, by go_num, HN.out⟩
          case measure => omega
    · have HN : Hid (OwnM w (draws PN l) u3 wr) := Lib.hid (by
        have := HOW.out
        rwa [drawK_all (by have := HL.out; omega)] at this)
      go_wp2_with fail
      with_reducible refine (HQ.out _ _ HN.out).mono ?_
      rintro e W3 ⟨rfl, hq⟩
      go_wp2_with fail
      exact hq
end Go.Proofs.YtplkmbfeeegaiaaGreatDoor

/-
  drawn: the circle.
-/
namespace Go.Proofs.YtplkmbfeeegaiaaGreatDoor
open Go.RowKit Go.Shelf
open Go.Sort (grow)

theorem flatM_get : ∀ (l : List Mk) (q : Nat) (x : Mk) (r : Nat), l[q]? = some x → r < 3 → (flatM l)[q * 3 + r]? = (encMk x)[r]?
  | [], q, x, r, h, _ => by simp at h
  | y :: l, 0, x, r, h, hr => by
    simp only [List.getElem?_cons_zero, Option.some.injEq] at h
    subst h
    unfold flatM
    rw [List.flatMap_cons, Nat.zero_mul, Nat.zero_add, List.getElem?_append_left (by simp [encMk]; omega)]
  | y :: l, q + 1, x, r, h, hr => by
    simp only [List.getElem?_cons_succ] at h
    have ih := flatM_get l q x r h hr
    unfold flatM at ih ⊢
    rw [List.flatMap_cons, List.getElem?_append_right (by simp [encMk]; omega)]
    have e : (q + 1) * 3 + r - (encMk y).length = q * 3 + r := by simp [encMk]; omega
    rw [e]; exact ih
/-- Points in a slice. -/
structure Mks (W : World) (v : Value) (l : List Mk) : Prop where
  n : l.length ≤ 100000
  at_ : ∃ a c b off, v = .slice a l.length c ∧ l.length ≤ c ∧ (0 < l.length → a = some ⟨b, off, none⟩) ∧ ∀ j x, l[j]? = some x → W.cell? ⟨b, off + j * 3, none⟩ = some (.int .i64 x.point) ∧ W.cell? ⟨b, off + j * 3 + 1, none⟩ = some (.int .i64 x.node) ∧ W.cell? ⟨b, off + j * 3 + 2, none⟩ = some (.int .i64 x.i)
theorem Mks.keep {W W' : World} {A : Nat → Prop} {v : Value} {l : List Mk} (h : Mks W v l) (k : Keep A W W') (hA : ∀ b, v.ownBlock = some b → ¬ A b) : Mks W' v l := by
  obtain ⟨a, c, b, off, rfl, hc, ha, h1⟩ := h.at_
  refine ⟨h.n, a, c, b, off, rfl, hc, ha, fun j x hj => ?_⟩
  have hp : 0 < l.length := by have := (List.getElem?_eq_some_iff.1 hj).1; omega
  have hb := hA b (by rw [ha hp]; rfl)
  exact ⟨k.cell (h1 j x hj).1 hb, k.cell (h1 j x hj).2.1 hb, k.cell (h1 j x hj).2.2 hb⟩
theorem Mks.kept {W W' : World} {v : Value} {l : List Mk} (h : Mks W v l) (k : Keep (fun _ => False) W W') : Mks W' v l := h.keep k (fun _ _ h => h)

theorem holds_mks {W : World} {g : Nat} {d : Array Mk} (h : Go.Sort.HoldsK encMk 3 W g 0 d) (j : Nat) (x : Mk) (hj : d.toList[j]? = some x) : W.cell? ⟨g, 0 + j * 3, none⟩ = some (.int .i64 x.point) ∧ W.cell? ⟨g, 0 + j * 3 + 1, none⟩ = some (.int .i64 x.node) ∧ W.cell? ⟨g, 0 + j * 3 + 2, none⟩ = some (.int .i64 x.i) := by
  have hlt : j < d.size := by have := (List.getElem?_eq_some_iff.1 hj).1; simpa using this
  have hx : d[j]! = x := by
    rw [Array.getElem?_toList, Array.getElem?_eq_getElem hlt] at hj
    simp only [Option.some.injEq] at hj
    rw [getElem!_pos d j hlt]; exact hj
  have key : ∀ r, r < 3 → W.cell? ⟨g, 0 + (j * 3 + r), none⟩ = some ((encMk x)[r]!) := fun r hr => by
    have h1 := (h (j * 3 + r) (by rw [Go.Sort.size_flatK]; omega)).1
    rw [Go.Sort.get_flatK _ _ _ _ (by omega), show (j * 3 + r) / 3 = j by omega, show (j * 3 + r) % 3 = r by omega, hx] at h1
    exact h1
  exact ⟨key 0 (by decide), by have := key 1 (by decide); rwa [← Nat.add_assoc] at this, by have := key 2 (by decide); rwa [← Nat.add_assoc] at this⟩
theorem owns_holds {W : World} {lo g n cap : Nat} {l : List Mk} (h : W.ownsRow lo 165 3 (.slice (some ⟨g, 0, none⟩) n cap) l.length (flatM l)) : Go.Sort.HoldsK encMk 3 W g 0 l.toArray := by
  intro j hj
  rw [Go.Sort.size_flatK] at hj
  simp only [List.size_toArray] at hj
  have hq : j / 3 < l.length := by omega
  have hx : l[j / 3]? = some l[j / 3] := List.getElem?_eq_getElem hq
  have h1 := flatM_get l (j / 3) _ (j % 3) hx (by omega)
  rw [show j / 3 * 3 + j % 3 = j by omega] at h1
  have h2 : (encMk l[j / 3])[j % 3]? = some ((encMk l[j / 3])[j % 3]!) := by
    have : j % 3 < (encMk l[j / 3]).length := by show j % 3 < 3; omega
    rw [List.getElem?_eq_getElem this, getElem!_pos (encMk l[j / 3]) (j % 3) this]
  rw [h2] at h1
  have h3 := h.cells (g := g) rfl _ _ h1
  rw [Addr.add_lit] at h3
  refine ⟨?_, ?_⟩
  · rw [Go.Sort.get_flatK _ _ _ _ (by simpa using hj)]
    have e : (l.toArray)[j / 3]! = l[j / 3] := by rw [getElem!_pos l.toArray (j / 3) (by simpa using hq)]; simp
    rw [e]; exact h3
  · rcases h.2 with ⟨h4, _⟩ | ⟨g', cap', cur, h4, _, hh, _⟩
    · cases h4
    · cases h4
      unfold World.frozen?
      rw [hh]
      rfl
theorem keep_sort (w : World) (blk off m : Nat) (d : Array Mk) (os : Array Obj) : Keep (fun j => j = blk) w (Go.Proofs.sortWorldK encMk 3 w blk off m d os) := by
  unfold Go.Proofs.sortWorldK
  refine ⟨rfl, rfl, rfl, ?_, fun k hk hn => ?_⟩
  · rw [Go.Sort.size_grow, Go.Sort.size_putRowK]
    exact Nat.le_add_right _ _
  · unfold grow
    show ((Go.Sort.putRowK encMk 3 (Go.Sort.ahead w m) blk off d).heap ++ os)[k]? = _
    rw [Array.getElem?_append_left (by rw [Go.Sort.size_putRowK]; exact hk)]
    unfold Go.Sort.putRowK Go.Sort.putRow Go.Sort.mapBlock
    show ((Go.Sort.ahead w m).heap.modify blk _)[k]? = _
    rw [Array.getElem?_modify, if_neg (fun e => hn e.symm)]
    rfl

def DrawPost (l : List Mb) (w : World) (e : Ending) (w' : World) : Prop := ∃ v, e = .returned v ∧ Mks w' v (circ PN l) ∧ Keep (fun _ => False) w w'
theorem drawn_any (v : Value) (l : List Mb) (w : World) (h : Mbs w v l) (hv : VL l) (hT : Tab w) : Calls Tryz.prog 99 #[v] w (DrawPost l w) := by
  refine drawn_raw v l w h hv hT _ fun vo W how => ?_
  have hlen := draws_len PN l hv.ok
  have hws := hv.wsum
  rcases how.2.2 with ⟨rfl, h0⟩ | ⟨g, cap, cur, rfl, hg, hh, hcap, r⟩
  · omega
  · have hH := owns_holds how.2
    have hblk : g < W.heap.size := (Array.getElem?_eq_some_iff.1 hh).1
    have hs := sortMarks g 0 cap (draws PN l).toArray W hH hblk (by simp; omega)
    simp only [List.size_toArray] at hs
    refine hs.mono ?_
    rintro e w' ⟨rfl, d', n, os, hperm, hsort, rfl⟩
    refine ⟨rfl, _, rfl, ?_, ?_⟩
    · have hp : d'.toList.Perm (draws PN l) := by
        have h1 := hperm.2.2
        have h2 := hperm.1
        simp only [List.size_toArray] at h2
        have e1 : d'.extract 0 (draws PN l).length = d' := by rw [← h2]; exact Array.extract_size
        have e2 : ((draws PN l).toArray.extract 0 (draws PN l).length) = (draws PN l).toArray := by
          simp
        rw [e1, e2] at h1
        simpa using h1
      have hsz : d'.size = (draws PN l).length := by have := hperm.1; simpa using this
      have hso : d'.toList.Pairwise ltMk := by
        rw [List.pairwise_iff_getElem]
        intro i j hi hj hij
        have hi' : i < d'.size := by simpa using hi
        have hj' : j < d'.size := by simpa using hj
        have h1 := hsort i j (Nat.zero_le _) hij (by omega)
        rw [cmpM_lt, decide_eq_false_iff_not, getElem!_pos d' j hj', getElem!_pos d' i hi'] at h1
        have hne : d'.toList[i] ≠ d'.toList[j] := by
          have hnd : d'.toList.Nodup := hp.nodup_iff.2 (draws_nodup PN hv.asc)
          intro e
          have := (List.getElem_inj hnd).1 e
          omega
        rw [Array.getElem_toList, Array.getElem_toList] at hne ⊢
        exact (ltMk_total hne).resolve_right h1
      have hc := circ_uniq PN hv.asc hp hso
      have hcl : (circ PN l).length = (draws PN l).length := (sortMk_perm _).length_eq
      have hHd := Go.Proofs.holdsK_sortWorldK_c encMk 3 W g 0 (draws PN l).toArray d' n os hH hblk (by simpa using hsz)
      refine ⟨by rw [hcl]; omega, some ⟨g, 0, none⟩, cap, g, 0, by rw [hcl], by rw [hcl]; exact hcap, fun _ => rfl, fun j x hj => ?_⟩
      rw [← hc] at hj
      exact holds_mks hHd j x hj
    · exact how.1.trans' (keep_sort W g 0 n d' os) (fun i e => .inr (by omega))
end Go.Proofs.YtplkmbfeeegaiaaGreatDoor

/-
  BinarySearchFunc on a circle.
-/
namespace Go.Proofs.YtplkmbfeeegaiaaGreatDoor
open Go.RowKit Go.Shelf

set_option maxRecDepth 100000 in
set_option maxHeartbeats 1000000 in
theorem cmpPoint_any (x : Mk) (p : Int) (W : World) : Calls Tryz.prog 132 #[mkV x, .int .i64 p] W fun e w' => e = .returned (.int .i64 (cmpI x.point p)) ∧ Keep (fun _ => False) W w' := by
  obtain ⟨x0, x1, x2⟩ := x
  have HK : Hid (Keep (fun _ => False) W (W.alloc (.cells #[.int .i64 x0, .int .i64 x1, .int .i64 x2] 165))) := Lib.hid ((Keep.refl _ W).alloc _)
  go_enter Tryz.func132, Tryz.ntmps132
  go_wp2_with fail
  with_reducible refine (cmp_int x0 p _).mono ?_
  rintro e w' ⟨rfl, rfl⟩
  go_wp2_with fail
  go_ret
  exact ⟨rfl, HK.out⟩

theorem cmpI_neg (a b : Int) : cmpI a b < 0 ↔ a < b := by
  unfold cmpI
  split
  · simp [*]
  · split <;> simp [*]

set_option maxRecDepth 100000 in
set_option maxHeartbeats 4000000 in
theorem bsearch_any (v : Value) (c : List Mk) (p : Int) (w : World) (h : Mks w v c) (hs : c.Pairwise ltMk) :
    Calls Tryz.prog 131 #[v, .int .i64 p, .func (.func 132) #[] #[]] w fun e w' => (∃ b, e = .returned (.tuple #[.int .i64 (lows c p : Nat), .bool b])) ∧ Keep (fun _ => False) w w' := by
  obtain ⟨hn, a, cc, b, off, rfl, hc, ha, hcell⟩ := h
  have HC := Lib.hid hcell
  have HA := Lib.hid ha
  have HS := Lib.hid hs
  have hlo := lows_le c p
  clear hcell ha hs
  obtain ⟨n, hn'⟩ : ∃ n, c.length = n := ⟨_, rfl⟩
  have HL := Lib.hid hn'
  rw [hn'] at hn hc hlo ⊢
  clear hn'
  obtain ⟨lo, hlo'⟩ : ∃ lo, lows c p = lo := ⟨_, rfl⟩
  have HLO := Lib.hid hlo'
  rw [hlo'] at hlo
  clear hlo'
  go_enter Tryz.func131, Tryz.ntmps131
  go_wp2_with fail
  go_loopg [9, 10] n (fun gh v9 v10 wr => ∃ (i j : Nat), v9 = .int .i64 i ∧ v10 = .int .i64 j ∧ i ≤ lo ∧ lo ≤ j ∧ j ≤ n ∧ j - i ≤ gh ∧ Keep (fun _ => False) w wr)
  case atStart => exact ⟨0, n, rfl, rfl, by omega, hlo, by omega, by omega, Keep.refl _ _⟩
  case round =>
    obtain ⟨i, j, rfl, rfl, hi, hj, hjn, hg, hkeep⟩ := hrel
    have HK := Lib.hid hkeep
    clear hkeep
    by_cases hij : i < j
    · obtain ⟨q, hq⟩ : ∃ q : Nat, (i + j) / 2 = q := ⟨_, rfl⟩
      have hq1 : i ≤ q := by omega
      have hq2 : q < j := by omega
      obtain ⟨x, hx⟩ : ∃ x, c[q]? = some x := ⟨_, List.getElem?_eq_getElem (by have := HL.out; omega)⟩
      obtain rfl := HA.out (by have := HL.out; omega)
      have c0 := HK.out.cell (HC.out q x hx).1 (fun h => h)
      have c1 := HK.out.cell (HC.out q x hx).2.1 (fun h => h)
      have c2 := HK.out.cell (HC.out q x hx).2.2 (fun h => h)
      have HB : Hid (x.point < p ↔ q < lo) := Lib.hid (by rw [← HLO.out]; exact lows_below HS.out p hx)
      clear hx
      have hijz : (i : Int) < (j : Int) := by omega
      have e1 : ((i : Int) + (j : Int)) / 2 = (q : Int) := by omega
      obtain ⟨x0, x1, x2⟩ := x
      simp only [] at c0 c1 c2 HB
      go_wp2_with fail
      clear c0 c1 c2
      with_reducible refine (cmpPoint_any ⟨x0, x1, x2⟩ p _).mono ?_
      rintro e W2 ⟨rfl, k2⟩
      have HK2 := Lib.hid (HK.out.trans k2)
      have HN := Lib.hid (cmpI_neg x0 p)
      clear k2
      simp only []
      generalize cmpI x0 p = z at *
      by_cases hz : z < 0
      · have hql := HB.out.1 (HN.out.1 hz)
        go_wp2_with fail
        go_roundg (j - (q + 1))
        case rel => exact ⟨q + 1, j, by go_num, rfl, by omega, by omega, by omega, by omega, HK2.out⟩
        case measure => omega
      · have hql : ¬ q < lo := fun h => hz (HN.out.2 (HB.out.2 h))
        go_wp2_with fail
        go_roundg (q - i)
        case rel => exact ⟨i, q, rfl, rfl, by omega, by omega, by omega, by omega, HK2.out⟩
        case measure => omega
    · obtain rfl : i = j := by omega
      obtain rfl : i = lo := by omega
      by_cases hin : i < n
      · obtain ⟨x, hx⟩ : ∃ x, c[i]? = some x := ⟨_, List.getElem?_eq_getElem (by have := HL.out; omega)⟩
        obtain rfl := HA.out (by have := HL.out; omega)
        have c0 := HK.out.cell (HC.out i x hx).1 (fun h => h)
        have c1 := HK.out.cell (HC.out i x hx).2.1 (fun h => h)
        have c2 := HK.out.cell (HC.out i x hx).2.2 (fun h => h)
        clear hx
        have hinz : (i : Int) < (n : Int) := by omega
        have hi0 : (0 : Int) ≤ (i : Int) := by omega
        obtain ⟨x0, x1, x2⟩ := x
        simp only [] at c0 c1 c2
        go_wp2_with fail
        with_reducible refine (cmpPoint_any ⟨x0, x1, x2⟩ p _).mono ?_
        rintro e W2 ⟨rfl, k2⟩
        have HK2 := Lib.hid (HK.out.trans k2)
        clear k2 c0 c1 c2
        simp only []
        generalize cmpI x0 p = z at *
        go_wp2_with fail
        refine bodyPost_ret (v := .tuple #[.int .i64 i, .bool (z == 0)]) (by simp [results, Tryz.results131, go_sem]) rfl ?_
        exact ⟨⟨_, by rw [HLO.out]⟩, HK2.out⟩
      · have hinz : ¬ (i : Int) < (n : Int) := by omega
        go_wp2_with fail
        refine bodyPost_ret (v := .tuple #[.int .i64 i, .bool false]) (by simp [results, Tryz.results131, go_sem]) rfl ?_
        exact ⟨.inl (by rw [HLO.out]), HK.out⟩
end Go.Proofs.YtplkmbfeeegaiaaGreatDoor

/-
  A range over a function whose iterator yields a list that is known ahead: one law for the caller, by index.
-/
namespace Go.Proofs.YtplkmbfeeegaiaaGreatDoor
open Go Go.RowKit

/-- What an iterator with N known values does, in the wide fence: it reads under A, it leaves the heap alone by itself. -/
def IterL (P : Program) (gf : Nat) (lb : Array Value) (N : Nat) (encs : Nat → Array Value) (A : World → Prop) : Prop :=
  ∀ (l : Nat) (J Jx : Nat → World → Prop) (W : World),
    (∀ i V, J i V → A V) → (∀ i V V', J i V → V.grownBy V' none → J i V') →
    (∀ i V, i < N → J i V → YieldAt Fence.wide 0 P l (encs i) V fun e V' => (e = .returned (.bool true) ∧ J (i + 1) V') ∨ (e = .returned (.bool false) ∧ Jx i V')) →
    J 0 W →
    CallsIn Fence.wide 0 P gf (#[.func (.yield l) #[] #[]] ++ lb) W fun e W' => (∃ v, e = .returned v) ∧ (J N W' ∨ ∃ i, i < N ∧ Jx i W')

/-- How a round's body may be left. -/
def roundL (B : Nat) (I : Nat → World → Prop) (Ix : Code → Nat → World → Prop) (i : Nat) (V : World) : Exit → Act → World → Prop
  | .normal, _, V' => KeepsFrom B V V' ∧ I (i + 1) V'
  | .ret, _, V' => KeepsFrom B V V' ∧ Ix .ret i V'
  | .exit id, _, V' => KeepsFrom B V V' ∧ Ix (.exit id) i V'
  | .goto t, _, V' => KeepsFrom B V V' ∧ Ix (.goto t) i V'
  | .panic _, _, _ => False
  | .outgrown, _, _ => False

theorem grownBy_drew (W : World) : W.grownBy W.drew none := ⟨rfl, rfl, rfl, Nat.le_refl _, fun _ _ _ => rfl⟩

theorem range_list {P : Program} {g : Operand} {ps : Array Tmp} {assign body : Code} {Q : Exit → Act → World → Prop} {a : Act} {w : World}
    {gf : Nat} {lb : Array Value} (hg : a.eval g = .func (.func gf) #[] lb) (eg : ∀ args w, (callFunc gf args).run P w = .ok (.enter gf args) w)
    {N : Nat} {encs : Nat → Array Value} {A : World → Prop} (hseq : IterL P gf lb N encs A) (hps : ∀ i, i < N → (encs i).size = ps.size)
    (I : Nat → World → Prop) (Ix : Code → Nat → World → Prop) (hI : OwnFrom w.heap.size I) (hIx : ∀ c, OwnFrom w.heap.size (Ix c))
    (hA : ∀ i V, I i V → A V) (h0 : I 0 w) (a₁ : Nat → Act)
    (hassign : ∀ (l i : Nat) (V : World) (K : Act → World → Prop), i < N → K (a₁ i) V →
      assign.wpIn (Fence.wide.inRound l) 0 P (Exit.then K (fun _ _ _ => False)) { tmps := (ps.zip (encs i)).foldl (fun t (p, v) => t.setIfInBounds p v) a.tmps, defers := [] } V)
    (hbody : ∀ (l i : Nat) (V : World), i < N → I i V → w.heap.size ≤ V.heap.size → body.wpIn (Fence.wide.inRound l) 0 P (roundL w.heap.size I Ix i V) (a₁ i) V)
    (hdone : ∀ (D : Nat) (V : World), w.heap.size ≤ D → I N V → V.heap[D]? = some (.deferred (some [])) → Q .normal { a with defers := { target := .collected D, args := #[] } :: a.defers } V)
    (hstop : ∀ (D : Nat) (c : Code) (i : Nat) (V : World), w.heap.size ≤ D → i < N → Ix c i V → V.heap[D]? = some (.deferred (some [])) → c.wpIn Fence.wide 0 P Q { a with defers := { target := .collected D, args := #[] } :: a.defers } V) :
    (Code.rangeFunc g ps assign body).wpIn Fence.wide 0 P Q a w := by
  refine wpIn_rangeFunc fun fn hfn => ?_
  let rec_ : LoopState → Option Code → Loop := fun st pe => { state := st, pending := pe, fn, tmps := a.tmps, params := ps, assign, body, defers := w.heap.size }
  obtain ⟨W1, hW1⟩ : ∃ W1, (w.alloc (.deferred (some []))).alloc (.loop (rec_ .ready none)) = W1 := ⟨_, rfl⟩
  have hl1 : W1.heap[w.heap.size + 1]? = some (.loop (rec_ .ready none)) := by
    have := World.alloc_heap_new (w.alloc (.deferred (some []))) (.loop (rec_ .ready none))
    rw [World.size_alloc, hW1] at this; exact this
  have hk1 : W1.heap[w.heap.size]? = some (.deferred (some [])) := by
    rw [← hW1]; exact (Below.heap_alloc _ _ _ (by simp)).trans (World.alloc_heap_new w _)
  have hI1 : I 0 W1 := by rw [← hW1]; exact hI.alloc _ (hI.alloc _ h0)
  refine ⟨w.heap.size + 1, [{ target := .collected w.heap.size, args := #[] }], W1, { target := .fn (.func gf) lb, args := #[.func (.yield (w.heap.size + 1)) #[] #[]] }, W1, gf,
    #[.func (.yield (w.heap.size + 1)) #[] #[]] ++ lb, W1, ?_, ?_, fun _ _ => trivial, ?_, fun h => by simp [Fence.wide] at h, ?_⟩
  · rw [← hW1]; exact run_enterLoop_outer _ _ _ _ _
  · simp only [resolve, hg]
    simp [go_sem]
  · simp [invoke, go_sem, eg]
  · refine (hseq (w.heap.size + 1)
      (fun i V => I i V ∧ V.heap[w.heap.size + 1]? = some (.loop (rec_ .ready none)) ∧ V.heap[w.heap.size]? = some (.deferred (some [])))
      (fun i V => ∃ c, Ix c i V ∧ V.heap[w.heap.size + 1]? = some (.loop (rec_ .done (some c))) ∧ V.heap[w.heap.size]? = some (.deferred (some [])))
      W1 (fun i V h => hA i V h.1) (fun i V V' h hg => ⟨hI i V V' none h.1 hg (fun r e => by cases e), (hg.block _ (Array.getElem?_eq_some_iff.1 h.2.1).1 (fun e => by cases e)).trans h.2.1, (hg.block _ (Array.getElem?_eq_some_iff.1 h.2.2).1 (fun e => by cases e)).trans h.2.2⟩) ?_ ⟨hI1, hl1, hk1⟩).mono ?_
    · rintro i V hi ⟨hiv, hl, hk⟩
      have hlt : w.heap.size + 1 < V.heap.size := (Array.getElem?_eq_some_iff.1 hl).1
      have hy := run_yield (P := P) (args := encs i) hl (hps i hi)
      refine ⟨fn, _, assign, body, hy, roundIn_of_wpIn hfn (hassign _ i V _ hi ⟨_, run_beginRound hl rfl, ?_⟩)⟩
      obtain ⟨V2, hV2⟩ : ∃ V2, V.putObj (w.heap.size + 1) (.loop { rec_ .ready none with state := .busy }) = V2 := ⟨_, rfl⟩
      have hl2 : V2.heap[w.heap.size + 1]? = some (.loop (rec_ .busy none)) := by rw [← hV2]; exact World.putObj_heap_same hlt
      have hk2 : V2.heap[w.heap.size]? = some (.deferred (some [])) := by rw [← hV2]; exact (World.putObj_heap_other (by omega)).trans hk
      have hi2 : I i V2 := by rw [← hV2]; exact hI.putObj _ hiv (by omega) hl rfl
      have hs2 : w.heap.size ≤ V2.heap.size := by rw [← hV2, World.putObj_size]; omega
      have key : ∀ (jump : Option Code) (V3 : World), KeepsFrom w.heap.size V2 V3 →
          (Instr.endRound (w.heap.size + 1) jump).run P V3 = .ok (.bool jump.isNone) (V3.putObj (w.heap.size + 1) (.loop (rec_ (if jump.isNone then .ready else .done) jump))) ∧
          V3.heap[w.heap.size + 1]? = some (.loop (rec_ .busy none)) ∧
          (V3.putObj (w.heap.size + 1) (.loop (rec_ (if jump.isNone then .ready else .done) jump))).heap[w.heap.size + 1]? = some (.loop (rec_ (if jump.isNone then .ready else .done) jump)) ∧
          (V3.putObj (w.heap.size + 1) (.loop (rec_ (if jump.isNone then .ready else .done) jump))).heap[w.heap.size]? = some (.deferred (some [])) := by
        intro jump V3 hk3
        have hl3 := hk3.same _ _ (by omega) hl2 rfl
        exact ⟨run_endRound (P := P) jump hl3, hl3, World.putObj_heap_same (Array.getElem?_eq_some_iff.1 hl3).1, (World.putObj_heap_other (by omega)).trans (hk3.same _ _ (Nat.le_refl _) hk2 rfl)⟩
      have hV2' : V.putObj (w.heap.size + 1) (.loop { rec_ .ready none with state := .busy }) = V2 := hV2
      rw [show V.putObj (w.heap.size + 1) _ = V2 from hV2']
      refine wpIn_mono (hbody _ i V2 hi hi2 hs2) ?_
      rintro e a3 V3 hp
      cases e with
      | normal =>
        obtain ⟨hk3, hi3⟩ := hp
        obtain ⟨hr, hl3, hl4, hk4⟩ := key none V3 hk3
        exact ⟨_, _, hr, .inl ⟨rfl, hI.putObj _ hi3 (by omega) hl3 rfl, hl4, hk4⟩⟩
      | ret =>
        obtain ⟨hk3, hi3⟩ := hp
        obtain ⟨hr, hl3, hl4, hk4⟩ := key (some .ret) V3 hk3
        exact ⟨_, _, hr, .inr ⟨rfl, .ret, (hIx _).putObj _ hi3 (by omega) hl3 rfl, hl4, hk4⟩⟩
      | exit id =>
        obtain ⟨hk3, hi3⟩ := hp
        obtain ⟨hr, hl3, hl4, hk4⟩ := key (some (.exit id)) V3 hk3
        exact ⟨_, _, hr, .inr ⟨rfl, .exit id, (hIx _).putObj _ hi3 (by omega) hl3 rfl, hl4, hk4⟩⟩
      | goto t =>
        obtain ⟨hk3, hi3⟩ := hp
        obtain ⟨hr, hl3, hl4, hk4⟩ := key (some (.goto t)) V3 hk3
        exact ⟨_, _, hr, .inr ⟨rfl, .goto t, (hIx _).putObj _ hi3 (by omega) hl3 rfl, hl4, hk4⟩⟩
      | panic ch => exact hp.elim
      | outgrown => exact hp.elim
    · rintro e V2 ⟨⟨v, rfl⟩, (⟨hi, hl, hk⟩ | ⟨i, hiN, c, hi, hl, hk⟩)⟩
      · exact ⟨none, _, run_endLoop (P := P) hl (by simp [rec_]), hdone _ _ (Nat.le_refl _) (hI.putObj _ hi (by omega) hl rfl) ((World.putObj_heap_other (by omega)).trans hk)⟩
      · exact ⟨some c, _, run_endLoop (P := P) hl (by simp [rec_]), hstop _ c i _ (Nat.le_refl _) hiN ((hIx c).putObj _ hi (by omega) hl rfl) ((World.putObj_heap_other (by omega)).trans hk)⟩

end Go.Proofs.YtplkmbfeeegaiaaGreatDoor

/-
  The iterator of a circle.
-/
namespace Go.Proofs.YtplkmbfeeegaiaaGreatDoor
open Go.RowKit Go.Shelf
attribute [local go_sem] Oper.semAt_some

/-- The i-th node clockwise. -/
def cwN (c : List Mk) (p : Int) (i : Nat) : Int := match (rot c p)[i]? with | some x => x.node | none => 0
theorem cwN_at {c : List Mk} (h : c.Pairwise ltMk) (p : Int) {i : Nat} (hi : i < c.length) : ∃ x, c[(lows c p + i) % c.length]? = some x ∧ cwN c p i = x.node := by
  have h1 := rot_at h p hi
  have hlt : (lows c p + i) % c.length < c.length := Nat.mod_lt _ (by omega)
  refine ⟨c[(lows c p + i) % c.length], List.getElem?_eq_getElem hlt, ?_⟩
  unfold cwN
  rw [h1, List.getElem?_eq_getElem hlt]
/-- What the iterator reads. -/
def FromReads (bc bp : Nat) (vc : Value) (c : List Mk) (p : Int) (V : World) : Prop := V.cell? ⟨bc, 0, none⟩ = some vc ∧ V.cell? ⟨bp, 0, none⟩ = some (.int .i64 p) ∧ Mks V vc c

theorem keep_grown {V V' : World} (k : Keep (fun _ => False) V V') : V.grownBy V' none := ⟨k.os, k.tape, k.output, k.size, fun i hi _ => k.block i hi (fun h => h)⟩

set_option maxRecDepth 100000 in
set_option maxHeartbeats 4000000 in
theorem from_iter (bc bp : Nat) (vc : Value) (c : List Mk) (p : Int) (hs : c.Pairwise ltMk) (hne : 0 < c.length) : IterL Tryz.prog 130 #[ptr bc, ptr bp] c.length (fun i => #[.int .i64 (cwN c p i)]) (FromReads bc bp vc c p) := by
  intro l J Jx W hA hD hY h0
  have hA0 := hA 0 W h0
  obtain ⟨r0, r1, hm⟩ := hA0
  obtain ⟨hn, a, cc, b, off, hvc, hc, ha, -⟩ := id hm
  have HBS := Lib.hid (bsearch_any vc c p W hm hs)
  have HA := Lib.hid hA; clear hA
  have HD := Lib.hid hD; clear hD
  have HY := Lib.hid hY; clear hY
  have HJ := Lib.hid h0; clear h0 hm
  have HS := Lib.hid hs; clear hs
  obtain rfl := ha hne
  clear ha
  subst hvc
  obtain ⟨n, hn'⟩ : ∃ n, c.length = n := ⟨_, rfl⟩
  have HL := Lib.hid hn'
  rw [hn'] at hn hc hne r0 HBS
  have hlo := lows_le c p
  rw [hn'] at hlo
  clear hn'
  have HCW : Hid (∀ i, i < n → ∃ x, c[(lows c p + i) % n]? = some x ∧ cwN c p i = x.node) := Lib.hid (fun i hi => by have := cwN_at HS.out p (i := i) (by rw [HL.out]; exact hi); rwa [HL.out] at this)
  generalize lows c p = lo at *
  refine callsIn_of_wp Tryz.func130 rfl trivial ?_ rfl
  simp only [Tryz.ntmps130, List.size_toArray, List.length_cons, List.length_nil, Nat.reduceAdd, Nat.reduceSub, Array.replicate_succ, Array.replicate_zero, List.push_toArray, List.append_toArray, List.nil_append, List.cons_append]
  gi_wp2_with fail
  refine ⟨trivial, rfl, (callsIn_wide.2 HBS.out).mono ?_⟩
  rintro e V1 ⟨⟨bb, rfl⟩, k1⟩
  have HJ1 := Lib.hid (HD.out 0 W V1 HJ.out (keep_grown k1))
  have q0 := k1.cell r0 (fun h => h)
  have q1 := k1.cell r1 (fun h => h)
  clear k1 HJ HBS r0 r1
  gi_wp2_with fail
  gi_loopg [15] n (fun g2 v15 wr => ∃ i : Nat, g2 + i = n ∧ v15 = .int .i64 i ∧ J i wr)
  case atStart => exact ⟨0, by omega, rfl, HJ1.out⟩
  case round =>
    clear q0 q1 HJ1
    obtain ⟨i, hi, rfl, hj⟩ := hrel
    have ha := HA.out _ _ hj
    by_cases hin : i < n
    · obtain ⟨fn, tmps, assign, body, hy, hR⟩ := HY.out i wr.drew (by rw [HL.out]; exact hin) (HD.out i _ _ hj (grownBy_drew wr))
      obtain ⟨x, hx, hcw⟩ := HCW.out i hin
      obtain ⟨q0, q1, hm⟩ := ha
      obtain ⟨-, a', c', b', off', hvc, -, ha', hcell⟩ := hm
      rw [HL.out] at q0 hvc
      have hcx := hcell _ x hx
      obtain ⟨r1, r2⟩ : a' = some ⟨b, off, none⟩ ∧ b' = b ∧ off' = off := by
        cases hvc
        have := ha' (by rw [HL.out]; omega)
        cases this
        exact ⟨rfl, rfl, rfl⟩
      obtain ⟨rfl, rfl⟩ := r2
      have c1 := hcx.2.1
      obtain ⟨ix, hix⟩ : ∃ ix, (lo + i) % n = ix := ⟨_, rfl⟩
      rw [hix] at c1
      have e1 : ((lo : Int) + (i : Int)) % (n : Int) = (ix : Int) := by rw [← hix]; first | rw [Int.natCast_emod, Int.natCast_add] | rw [Int.natCast_mod, Int.natCast_add] | simp
      have hixn : ix < n := by rw [← hix]; exact Nat.mod_lt _ (by omega)
      rw [hcw] at hy
      have HR := Lib.hid hR
      clear hR hj hvc ha' hcell hcx hx hcw hix r1
      obtain ⟨x0, x1, x2⟩ := x
      simp only [] at c1 hy
      have hinz : (i : Int) < (n : Int) := by omega
      gi_wp2_with fail
      have HRB := Lib.hid (HR.out.mono (R' := fun e V' => ∃ y : Bool, e = .returned (.bool y) ∧ ((y = true ∧ J (i + 1) V') ∨ (y = false ∧ Jx i V'))) (by
        rintro e V' (⟨rfl, h⟩ | ⟨rfl, h⟩)
        · exact ⟨true, rfl, .inl ⟨rfl, h⟩⟩
        · exact ⟨false, rfl, .inr ⟨rfl, h⟩⟩))
      gi_region_with (refine ⟨rfl, HRB.out.mono ?_⟩; rintro e W3 ⟨y, rfl, hy3⟩)
      all_goals
        have HY3 := Lib.hid hy3
        clear hy3 c1 hy q0 q1
        cases y with
        | true =>
          have HJ3 : Hid (J (i + 1) W3) := Lib.hid (by rcases HY3.out with ⟨_, h⟩ | ⟨h, _⟩; exact h; cases h)
          gi_wp2_with fail
          go_roundg (gk - 1)
          case rel => exact ⟨i + 1, by omega, by go_num, HJ3.out⟩
          case measure => omega
        | false =>
          have HX3 : Hid (Jx i W3) := Lib.hid (by rcases HY3.out with ⟨h, _⟩ | ⟨_, h⟩; cases h; exact h)
          gi_wp2_with fail
          refine bodyPost_ret (results_none rfl _ _ _) rfl ?_
          exact ⟨⟨_, rfl⟩, .inr ⟨i, by rw [HL.out]; exact hin, HX3.out⟩⟩
    · obtain rfl : i = n := by omega
      have HJ3 := Lib.hid hj
      clear hj ha
      have hinz : ¬ (i : Int) < (i : Int) := by omega
      gi_wp2_with fail
      go_end0
      exact ⟨⟨_, rfl⟩, .inl (by rw [HL.out]; exact HJ3.out)⟩
end Go.Proofs.YtplkmbfeeegaiaaGreatDoor

/-
  Assign: what holds between two slots.
-/
namespace Go.Proofs.YtplkmbfeeegaiaaGreatDoor
open Go.RowKit Go.Shelf

theorem arr40 (t : Array Value) (h : t.size = 40) : ∃ x0 x1 x2 x3 x4 x5 x6 x7 x8 x9 x10 x11 x12 x13 x14 x15 x16 x17 x18 x19 x20 x21 x22 x23 x24 x25 x26 x27 x28 x29 x30 x31 x32 x33 x34 x35 x36 x37 x38 x39, t = #[x0, x1, x2, x3, x4, x5, x6, x7, x8, x9, x10, x11, x12, x13, x14, x15, x16, x17, x18, x19, x20, x21, x22, x23, x24, x25, x26, x27, x28, x29, x30, x31, x32, x33, x34, x35, x36, x37, x38, x39] := by
  obtain ⟨l⟩ := t
  simp only [List.size_toArray] at h
  match l, h with
  | x0 :: x1 :: x2 :: x3 :: x4 :: x5 :: x6 :: x7 :: x8 :: x9 :: x10 :: x11 :: x12 :: x13 :: x14 :: x15 :: x16 :: x17 :: x18 :: x19 :: x20 :: x21 :: x22 :: x23 :: x24 :: x25 :: x26 :: x27 :: x28 :: x29 :: x30 :: x31 :: x32 :: x33 :: x34 :: x35 :: x36 :: x37 :: x38 :: x39 :: [], _ => exact ⟨x0, x1, x2, x3, x4, x5, x6, x7, x8, x9, x10, x11, x12, x13, x14, x15, x16, x17, x18, x19, x20, x21, x22, x23, x24, x25, x26, x27, x28, x29, x30, x31, x32, x33, x34, x35, x36, x37, x38, x39, rfl⟩

abbrev markD (D : Nat) : Deferred := { target := .collected D, args := #[] }
/-- A frame leaves with its marks. -/
theorem leaves_marks {fn : Func} {tmps : Array Value} {R : Ending → World → Prop} : ∀ (Ds : List Nat) (W : World), Ds.Nodup → (∀ D ∈ Ds, W.heap[D]? = some (.deferred (some []))) →
    (∀ W', Keep (fun j => j ∈ Ds) W W' → LeavesInM Fence.wide 0 Tryz.prog fn tmps R [] .returning W') → LeavesInM Fence.wide 0 Tryz.prog fn tmps R (Ds.map markD) .returning W
  | [], W, _, _, h => h W (Keep.refl _ _)
  | D :: Ds, W, hn, hd, h => by
    rw [List.nodup_cons] at hn
    refine ⟨by simp, .inl ⟨D, _, rfl, run_takeDeferred (hd D (by simp)), ?_⟩⟩
    refine leaves_marks Ds _ hn.2 (fun E hE => ?_) (fun W' k => h W' ?_)
    · rw [World.putObj_heap_other (fun e => hn.1 (by rw [← e]; exact hE))]
      exact hd E (by simp [hE])
    · exact ((Keep.refl (fun j => j ∈ D :: Ds) W).putObj _ (.inl (by simp))).trans (k.mono (fun j hj => by simp [hj]))

/-- Behind some slots. -/
structure AI (Wc : World) (bm bO : Nat) (Ds : List Nat) (st : (Int → Int) × List Int) (vo : Value) (W : World) : Prop where
  k : Keep (fun j => j = bm ∨ j = bO) Wc W
  mf : MapF W bm st.1
  co : W.cell? ⟨bO, 0, none⟩ = some vo
  fo : W.frozen? ⟨bO, 0, none⟩ = false
  ow : W.ownsRow Wc.heap.size 3 1 vo st.2.length (st.2.map (fun x => Value.int .i64 x))
  ds : ∀ D ∈ Ds, Wc.heap.size ≤ D ∧ W.heap[D]? = some (.deferred (some []))
  nd : Ds.Nodup

theorem grown_cell {V V' : World} {row : Option Nat} {B b o : Nat} {v : Value} (h : V.cell? ⟨b, o, none⟩ = some v) (hg : V.grownBy V' row) (hr : ∀ r, row = some r → B ≤ r ∧ ∃ o : Obj, V.heap[r]? = some o ∧ o.isCells = false) : V'.cell? ⟨b, o, none⟩ = some v := by
  refine (Keep.of_grown hg).cell h (fun e => ?_)
  obtain ⟨_, ob, h1, h2⟩ := hr b e
  unfold World.cell? at h
  rw [h1] at h
  cases ob <;> simp_all [Obj.isCells]
theorem grown_mks {V V' : World} {row : Option Nat} {B : Nat} {v : Value} {l : List Mk} (h : Mks V v l) (hg : V.grownBy V' row) (hr : ∀ r, row = some r → B ≤ r ∧ ∃ o : Obj, V.heap[r]? = some o ∧ o.isCells = false) : Mks V' v l := by
  obtain ⟨a, c, b, off, rfl, hc, ha, h1⟩ := h.at_
  exact ⟨h.n, a, c, b, off, rfl, hc, ha, fun j x hj => ⟨grown_cell (h1 j x hj).1 hg hr, grown_cell (h1 j x hj).2.1 hg hr, grown_cell (h1 j x hj).2.2 hg hr⟩⟩
theorem grown_row {V V' : World} {row : Option Nat} {B lo e z n : Nat} {v : Value} {xs : List Value} (h : V.ownsRow lo e z v n xs) (hg : V.grownBy V' row) (hr : ∀ r, row = some r → B ≤ r ∧ ∃ o : Obj, V.heap[r]? = some o ∧ o.isCells = false) : V'.ownsRow lo e z v n xs := by
  refine ownsRow_keep h (Keep.of_grown hg) (fun b hb e => ?_)
  obtain ⟨_, o, ho, hc⟩ := hr b e
  rcases h.2 with ⟨rfl, _⟩ | ⟨g', cap, cur, rfl, hb', hh, _⟩
  · cases hb
  · cases hb; rw [hh] at ho; cases ho; cases hc

theorem AI.grown {Wc V V' : World} {bm bO : Nat} {Ds : List Nat} {st : (Int → Int) × List Int} {vo : Value} {row : Option Nat} {B : Nat} (h : AI Wc bm bO Ds st vo V) (hbm : bm < Wc.heap.size) (hbO : bO < Wc.heap.size) (hB : Wc.heap.size ≤ B) (hD : ∀ D ∈ Ds, D < B)
    (hg : V.grownBy V' row) (hr : ∀ r, row = some r → B ≤ r ∧ ∃ o : Obj, V.heap[r]? = some o ∧ o.isCells = false) : AI Wc bm bO Ds st vo V' := by
  have k := Keep.of_grown hg
  have hk : ∀ j, row = some j → B ≤ j := fun j e => (hr j e).1
  refine ⟨h.k.trans' k (fun i e => .inr (by have := hk i e; omega)), h.mf.keep k (fun e => by have := hk _ e; omega), grown_cell h.co hg hr, ?_, grown_row h.ow hg hr, fun D hDD => ⟨(h.ds D hDD).1, k.heap (h.ds D hDD).2 (fun e => by have := hk _ e; have := hD D hDD; omega)⟩, h.nd⟩
  exact (k.frozen (b := bO) (World.block_lt_of_cell? _ _ h.co) (fun (e : row = some bO) => by have := hk bO e; omega) 0).trans h.fo
theorem AI.keep {Wc V V' : World} {bm bO : Nat} {Ds : List Nat} {st : (Int → Int) × List Int} {vo : Value} (h : AI Wc bm bO Ds st vo V) (k : Keep (fun _ => False) V V') : AI Wc bm bO Ds st vo V' :=
  ⟨h.k.trans' k (fun _ e => e.elim), h.mf.kept k, k.cell h.co (fun h => h), (k.frozen (World.block_lt_of_cell? _ _ h.co) (fun h => h) 0).trans h.fo, ownsRow_keep h.ow k (fun _ _ h => h), fun D hD => ⟨(h.ds D hD).1, k.heap (h.ds D hD).2 (fun h => h)⟩, h.nd⟩
theorem AI.mark {Wc V : World} {bm bO D : Nat} {Ds : List Nat} {st : (Int → Int) × List Int} {vo : Value} {B : Nat} (h : AI Wc bm bO Ds st vo V) (hB : ∀ E ∈ Ds, E < B) (hc : Wc.heap.size ≤ B) (hD : B ≤ D) (hh : V.heap[D]? = some (.deferred (some []))) : AI Wc bm bO (D :: Ds) st vo V :=
  ⟨h.k, h.mf, h.co, h.fo, h.ow, fun E hE => by
    rcases List.mem_cons.1 hE with rfl | hE
    · exact ⟨by omega, hh⟩
    · exact h.ds E hE, List.nodup_cons.2 ⟨fun hm => by have := hB D hm; omega, h.nd⟩⟩
theorem AI.lt {Wc V : World} {bm bO : Nat} {Ds : List Nat} {st : (Int → Int) × List Int} {vo : Value} (h : AI Wc bm bO Ds st vo V) {D : Nat} (hD : D ∈ Ds) : D < V.heap.size := (Array.getElem?_eq_some_iff.1 (h.ds D hD).2).1

/-- A node takes a slot. -/
theorem AI.take {Wc V : World} {bm bO : Nat} {Ds : List Nat} {st : (Int → Int) × List Int} {vo : Value} (h : AI Wc bm bO Ds st vo V) (hbm : bm < Wc.heap.size) (hbO : bO < Wc.heap.size) (hne : bm ≠ bO) {n : Int} (hn : I64 n) (hl : st.2.length ≤ 1000) {B : Nat} (hB : Wc.heap.size ≤ B) :
    ∃ es ck v' V2, (Instr.mapUpdate 127 (.map (some bm)) (.int .i64 n) (.int .i64 (st.1 n - 1))).run Tryz.prog V = .ok () (V.putObj bm (.map es ck)) ∧
      (Builtin.append_ #[22, 22] 22 #[vo, .slice (some ⟨(V.putObj bm (.map es ck)).heap.size, 0, none⟩) 1 1]).run Tryz.prog ((V.putObj bm (.map es ck)).alloc (.cells #[.int .i64 n] 3)) = .ok v' V2 ∧
      (V.putObj bm (.map es ck)).cell? ⟨bO, 0, none⟩ = some vo ∧ V2.cell? ⟨bO, 0, none⟩ = some vo ∧ V2.frozen? ⟨bO, 0, none⟩ = false ∧
      AI Wc bm bO Ds (upd st.1 n (st.1 n - 1), st.2 ++ [n]) v' (V2.setCell ⟨bO, 0, none⟩ v') ∧ KeepsFrom B V (V2.setCell ⟨bO, 0, none⟩ v') ∧ ∃ g c, v' = .slice (some ⟨g, 0, none⟩) (st.2.length + 1) c := by
  obtain ⟨es, ck, hup, hmf⟩ := h.mf.update hn (st.1 n - 1)
  have k1 : Keep (fun j => j = bm) V (V.putObj bm (.map es ck)) := (Keep.refl (fun j => j = bm) V).putObj _ (.inl rfl)
  have hvo : ∀ j, vo.ownBlock = some j → Wc.heap.size ≤ j := fun j e => (h.ow.lt j e).1
  have co1 := k1.cell h.co (fun e => hne e.symm)
  have fo1 : (V.putObj bm (.map es ck)).frozen? ⟨bO, 0, none⟩ = false := (k1.frozen (World.block_lt_of_cell? _ _ h.co) (fun e => hne e.symm) 0).trans h.fo
  have ow1 := ownsRow_keep h.ow k1 (fun b hb e => by have := hvo b hb; omega)
  obtain ⟨v', V2, r1, r2, r3, r4, r5⟩ := app_one 22 3 1 8 _ Tryz.underlying22 infoInt rfl (by decide) (by decide) _ 22 Wc.heap.size vo st.2.length _ [.int .i64 n] ow1 rfl (by simp [Value.oneCell']) (by omega) (Nat.le_trans h.k.size k1.size)
  have hO : ¬ vo.ownBlock = some bO := fun e => by have := hvo _ e; omega
  have hM : ¬ vo.ownBlock = some bm := fun e => by have := hvo _ e; omega
  have co2 := r3.cell co1 hO
  have fo2 : V2.frozen? ⟨bO, 0, none⟩ = false := (r3.frozen (World.block_lt_of_cell? _ _ co1) hO 0).trans fo1
  have k3 : Keep (fun j => j = bO) V2 (V2.setCell ⟨bO, 0, none⟩ v') := (Keep.refl (fun j => j = bO) V2).setCell (p := ⟨bO, 0, none⟩) _ (.inl rfl)
  have hv' : ∀ j, v'.ownBlock = some j → Wc.heap.size ≤ j := fun j e => (r2.lt j e).1
  have hDm : ∀ D ∈ Ds, D ≠ bm ∧ D ≠ bO ∧ vo.ownBlock ≠ some D := fun D hD => by
    have h1 := (h.ds D hD).1
    refine ⟨by omega, by omega, fun e => ?_⟩
    rcases h.ow.2 with ⟨rfl, _⟩ | ⟨g', cap, cur, rfl, hb', hh, _⟩
    · cases e
    · cases e
      rw [(h.ds _ hD).2] at hh
      cases hh
  refine ⟨es, ck, v', V2, hup, r1, co1, co2, fo2, ⟨?_, ?_, cell_set_same co2, by rw [World.frozen?_setCell]; exact fo2, ?_, fun D hD => ⟨(h.ds D hD).1, ?_⟩, h.nd⟩, ⟨?_, fun j o hj ho hcl => ?_⟩, r5⟩
  · exact ((h.k.trans' k1 (fun i e => .inl (.inl e))).trans' r3 (fun i e => .inr (hvo i e))).trans' k3 (fun i e => .inl (.inr e))
  · exact (hmf.keep r3 hM).keep k3 hne
  · rw [List.length_append, List.map_append]
    exact ownsRow_keep r2 k3 (fun b hb e => by have := hv' b hb; omega)
  · have hx := hDm D hD
    exact k3.heap (r3.heap (k1.heap (h.ds D hD).2 hx.1) hx.2.2) hx.2.1
  · exact Nat.le_trans k1.size (Nat.le_trans r3.size k3.size)
  · refine k3.heap (r3.heap (k1.heap ho (by omega)) (fun e => ?_)) (by omega)
    rcases h.ow.2 with ⟨rfl, _⟩ | ⟨g', cap, cur, rfl, hb', hh, _⟩
    · cases e
    · cases e
      rw [hh] at ho
      cases ho
      cases hcl

theorem find_first {q : Int → Bool} : ∀ {o : List Int} {i : Nat} {x : Int}, o[i]? = some x → q x = true → (∀ k y, k < i → o[k]? = some y → q y = false) → o.find? q = some x
  | [], i, x, h, _, _ => by simp at h
  | y :: o, 0, x, h, hq, _ => by
    simp only [List.getElem?_cons_zero, Option.some.injEq] at h
    subst h
    rw [List.find?_cons, hq]
  | y :: o, i + 1, x, h, hq, hk => by
    simp only [List.getElem?_cons_succ] at h
    rw [List.find?_cons, hk 0 y (by omega) rfl]
    exact find_first h hq (fun k z hkl hz => hk (k + 1) z (by omega) (by simpa using hz))
theorem ords_at (l : List Mb) (p : Int) {i : Nat} (hi : i < (circ PN l).length) : (ords PN l p)[i]? = some (cwN (circ PN l) p i) := by
  unfold ords cwN
  rw [List.getElem?_map]
  have h : i < (rot (circ PN l) p).length := by rw [rot_len]; exact hi
  rw [List.getElem?_eq_getElem h]
  rfl
theorem step_found {l : List Mb} {p : Int} {st : (Int → Int) × List Int} {i : Nat} (hi : i < (circ PN l).length) (h0 : 0 < st.1 (cwN (circ PN l) p i)) (hb : ∀ k, k < i → st.1 (cwN (circ PN l) p k) ≤ 0) :
    stepA (ords PN l p) st = (upd st.1 (cwN (circ PN l) p i) (st.1 (cwN (circ PN l) p i) - 1), st.2 ++ [cwN (circ PN l) p i]) := by
  have : firstN st.1 (ords PN l p) = some (cwN (circ PN l) p i) := find_first (ords_at l p hi) (by simpa using h0) (fun k y hk hy => by
    rw [ords_at l p (by omega)] at hy
    cases hy
    have := hb k hk
    simp; omega)
  unfold stepA
  rw [this]
theorem step_none {l : List Mb} {p : Int} {st : (Int → Int) × List Int} (hb : ∀ k, k < (circ PN l).length → st.1 (cwN (circ PN l) p k) ≤ 0) : stepA (ords PN l p) st = st := by
  have : firstN st.1 (ords PN l p) = none := by
    unfold firstN
    rw [List.find?_eq_none]
    intro y hy
    obtain ⟨i, hi⟩ := List.mem_iff_getElem?.1 hy
    have hl : i < (circ PN l).length := by
      have := (List.getElem?_eq_some_iff.1 hi).1
      unfold ords at this
      rwa [List.length_map, rot_len] at this
    rw [ords_at l p hl] at hi
    cases hi
    have := hb i hl
    simp; omega
  unfold stepA
  rw [this]
/-- Between two nodes. -/
def RI (Wc : World) (bm bO : Nat) (Ds : List Nat) (l : List Mb) (bc bp : Nat) (vc : Value) (p : Int) (st : (Int → Int) × List Int) (vo : Value) (i : Nat) (V : World) : Prop :=
  AI Wc bm bO Ds st vo V ∧ FromReads bc bp vc (circ PN l) p V ∧ ∀ k, k < i → st.1 (cwN (circ PN l) p k) ≤ 0
def RX (Wc : World) (bm bO : Nat) (Ds : List Nat) (l : List Mb) (p : Int) (st : (Int → Int) × List Int) (c : Code) (_ : Nat) (V : World) : Prop :=
  c = .exit 1 ∧ ∃ v', AI Wc bm bO Ds (stepA (ords PN l p) st) v' V
theorem RI_own {Wc : World} {bm bO : Nat} {Ds : List Nat} {l : List Mb} {bc bp : Nat} {vc : Value} {p : Int} {st : (Int → Int) × List Int} {vo : Value} {B : Nat} (hbm : bm < Wc.heap.size) (hbO : bO < Wc.heap.size) (hB : Wc.heap.size ≤ B) (hD : ∀ D ∈ Ds, D < B) : OwnFrom B (RI Wc bm bO Ds l bc bp vc p st vo) := by
  rintro i V V' row ⟨h1, ⟨h2, h3, h4⟩, h5⟩ hg hr
  exact ⟨h1.grown hbm hbO hB hD hg hr, ⟨grown_cell h2 hg hr, grown_cell h3 hg hr, grown_mks h4 hg hr⟩, h5⟩
theorem RX_own {Wc : World} {bm bO : Nat} {Ds : List Nat} {l : List Mb} {p : Int} {st : (Int → Int) × List Int} {B : Nat} (hbm : bm < Wc.heap.size) (hbO : bO < Wc.heap.size) (hB : Wc.heap.size ≤ B) (hD : ∀ D ∈ Ds, D < B) (c : Code) : OwnFrom B (RX Wc bm bO Ds l p st c) := by
  rintro i V V' row ⟨h1, v', h2⟩ hg hr
  exact ⟨h1, v', h2.grown hbm hbO hB hD hg hr⟩
theorem wpListIn_app {F : Fence} {n : Nat} {P : Program} {ops : Array Oper} {rest : List Oper} {o : Oper} {a : Act} {w w' : World} {Q : Exit → Act → World → Prop} {v v2 v' : Value}
    (hg : o.guard = none) (s x : Operand) (t : TypeId) (hop : o.op = Op.call { callee := Callee.builtin Builtin.append, args := #[s, x], argTypes := #[t, t] })
    (hs : a.eval s = v) (hx : a.eval x = v2) (hrun : (Builtin.append_ #[t, t] o.type #[v, v2]).run P w = .ok v' w') (hK : wpListIn F n P ops Q rest (a.put o.dst v') w') : wpListIn F n P ops Q (o :: rest) a w := by
  refine wpListIn_plain hg fun K hK' => ?_
  unfold Oper.wpIn
  refine ⟨?_, ?_⟩
  · simp [Oper.about, hop, resolve, Target.leads, Sem.run_pure]
  · rw [Oper.semAt_plain F _ _ (by rw [hop]; intro c hc'; cases hc')]
    simp [execOp, hop, resolve, invoke, builtin, hs, hx, hrun, Result.andThen]
    exact hK' _ _ hK
end Go.Proofs.YtplkmbfeeegaiaaGreatDoor

/-
  Assign: the walk.
-/
namespace Go.Proofs.YtplkmbfeeegaiaaGreatDoor
open Go.RowKit Go.Shelf
attribute [local go_sem] Oper.semAt_some

def AsgPost (l : List Mb) (w : World) (e : Ending) (w' : World) : Prop := ∃ v, e = .returned (.tuple #[v, .int .i64 0]) ∧ w'.ownsRow w.heap.size 3 1 v (ownersL PN QS l).length ((ownersL PN QS l).map (fun x => Value.int .i64 x)) ∧ Keep (fun _ => False) w w'

set_option maxRecDepth 100000 in
set_option maxHeartbeats 400000 in
theorem from_any (ca : Option Addr) (cn cc : Nat) (p : Int) (W : World) : Calls Tryz.prog 100 #[.slice ca cn cc, .int .i64 p] W fun e w' => e = .returned (.func (.func 130) #[] #[ptr W.heap.size, ptr (W.heap.size + 1)]) ∧ (W.alloc (.cells #[.slice ca cn cc] 130)).alloc (.cells #[.int .i64 p] 3) = w' := by
  go_enter Tryz.func100, Tryz.ntmps100
  go_wp2_with fail
  go_ret
  exact ⟨rfl, rfl⟩

set_option maxRecDepth 100000 in
set_option maxHeartbeats 8000000 in
theorem assign_ok (v : Value) (l : List Mb) (w : World) (h : Mbs w v l) (hv : VL l) (hT : Tab w) : Calls Tryz.prog 52 #[v] w (AsgPost l w) := by
  have HVA : Hid (Calls Tryz.prog 67 #[v] w fun e w' => e = .returned (.bool true) ∧ Keep (fun _ => False) w w') := Lib.hid (by
    have := valid_any v l w h
    rwa [(validL_iff l).2 hv] at this)
  have HDR : Hid (∀ W, Keep (fun _ => False) w W → Calls Tryz.prog 99 #[v] W (DrawPost l W)) := Lib.hid (fun W k => drawn_any v l W (h.kept k) hv (hT.kept k))
  have HLI : Hid (∀ W, Keep (fun _ => False) w W → Calls Tryz.prog 98 #[v] W (LimPost l W)) := Lib.hid (fun W k => limits_any v l W (h.kept k))
  have HV := Lib.hid hv
  have HT := Lib.hid hT
  clear h hv hT
  refine (callsIn_wide (n := 0)).1 ?_
  refine callsIn_of_wp_marks Tryz.func52 rfl trivial ?_ rfl
  simp only [Tryz.ntmps52, List.size_toArray, List.length_cons, List.length_nil, Nat.reduceAdd, Nat.reduceSub, Array.replicate_succ, Array.replicate_zero, List.push_toArray, List.append_toArray, List.nil_append, List.cons_append]
  refine wpIn_wide.2 ?_
  go_wp2_with fail
  go_step3
  go_wp2_with fail
  with_reducible refine HVA.out.mono ?_
  rintro e W1 ⟨rfl, k1⟩
  have HK1 := Lib.hid k1
  clear k1 HVA
  go_wp2_with fail
  with_reducible refine (HDR.out _ HK1.out).mono ?_
  rintro e W2 ⟨vc, rfl, hmk, k2⟩
  obtain ⟨ca, cn, cc, rfl⟩ : ∃ ca cn cc, vc = .slice ca cn cc := by obtain ⟨a, c, b, off, h, _⟩ := hmk.at_; exact ⟨_, _, _, h⟩
  have HK2 := Lib.hid (HK1.out.trans k2)
  have HMK := Lib.hid hmk
  clear hmk k2 HK1 HDR
  go_wp2_with fail
  with_reducible refine (HLI.out _ HK2.out).mono ?_
  rintro e W3 ⟨bm, rfl, hbm, hmf, k3⟩
  have HK3 := Lib.hid (HK2.out.trans k3)
  have HMK3 := Lib.hid (HMK.out.kept k3)
  have HMF := Lib.hid hmf
  have HBM := Lib.hid (And.intro hbm hmf.lt)
  have HG : Hid (∀ j, (Value.slice ca cn cc).ownBlock = some j → j < W3.heap.size ∧ j ≠ bm) := Lib.hid (fun j e => by
    obtain ⟨a, c, b, off, hvc, _, ha, hcell⟩ := HMK.out.at_
    cases hvc
    have hne : 0 < (circ PN l).length := by
      have h1 := draws_len PN l HV.out.ok
      have h2 := HV.out.wsum
      have h3 : (circ PN l).length = (draws PN l).length := (sortMk_perm _).length_eq
      omega
    have := ha hne
    subst this
    cases e
    have h1 := World.block_lt_of_cell? _ _ (hcell 0 _ (List.getElem?_eq_getElem hne)).1
    have h2 := k3.size
    simp only [] at h1
    show b < W3.heap.size ∧ b ≠ bm
    exact ⟨by omega, by omega⟩)
  have HNE : Hid (0 < (circ PN l).length) := Lib.hid (by
    have h1 := draws_len PN l HV.out.ok
    have h2 := HV.out.wsum
    have h3 : (circ PN l).length = (draws PN l).length := (sortMk_perm _).length_eq
    omega)
  have HCS := Lib.hid (circ_sorted PN HV.out.asc)
  clear k3 hbm hmf HLI
  go_wp2_with fail
  have HAI : Hid (AI ((W3.alloc (.cells #[.map (some bm)] 127)).alloc (.cells #[.slice none 0 0] 22)) bm (W3.heap.size + 1) [] (asg PN QS l 0) (.slice none 0 0) ((W3.alloc (.cells #[.map (some bm)] 127)).alloc (.cells #[.slice none 0 0] 22))) := Lib.hid (by
    have k : Keep (fun _ => False) W3 ((W3.alloc (.cells #[.map (some bm)] 127)).alloc (.cells #[.slice none 0 0] 22)) := ((Keep.refl _ W3).alloc _).alloc _
    have b1 := cells_new (W3.alloc (.cells #[.map (some bm)] 127)) [.slice none 0 0] 22 0 _ rfl
    rw [World.size_alloc] at b1
    refine ⟨Keep.refl _ _, HMF.out.kept k, b1, ?_, ?_, by simp, by simp⟩
    · unfold World.frozen?
      have := World.alloc_heap_new (W3.alloc (.cells #[.map (some bm)] 127)) (.cells #[.slice none 0 0] 22)
      rw [World.size_alloc] at this
      rw [this]
      rfl
    · simpa [asg, assignK] using World.ownsRow_nil _ _ 3 1)
  have HCR : Hid (((W3.alloc (.cells #[.map (some bm)] 127)).alloc (.cells #[.slice none 0 0] 22)).cell? ⟨W3.heap.size, 0, none⟩ = some (.map (some bm))) := Lib.hid (((Keep.refl (fun _ => False) _).alloc _).cell (cells_new W3 [.map (some bm)] 127 0 _ rfl) (fun h => h))
  have HKC : Hid (Keep (fun _ => False) W3 ((W3.alloc (.cells #[.map (some bm)] 127)).alloc (.cells #[.slice none 0 0] 22))) := Lib.hid (((Keep.refl _ W3).alloc _).alloc _)
  have HSZ : Hid (((W3.alloc (.cells #[.map (some bm)] 127)).alloc (.cells #[.slice none 0 0] 22)).heap.size = W3.heap.size + 2) := Lib.hid (by rw [World.size_alloc, World.size_alloc])
  generalize (W3.alloc (.cells #[.map (some bm)] 127)).alloc (.cells #[.slice none 0 0] 22) = Wc at *
  generalize W3.heap.size = z3 at *
  go_step3
  go_wp2_with fail
  refine wp_loop_ghost (fun g a W => ∃ (s : Nat) (Ds : List Nat) (vo : Value), g + s = 64 ∧ a.defers = Ds.map markD ∧ a.tmps.size = 40 ∧ a.tmps[4]? = some (.slice ca cn cc) ∧ a.tmps[5]? = some (ptr z3) ∧ a.tmps[6]? = some (ptr (z3 + 1)) ∧ a.tmps[16]? = some (.int .i64 s) ∧ AI Wc bm (z3 + 1) Ds (asg PN QS l s) vo W) 64 ⟨0, [], _, rfl, rfl, rfl, rfl, rfl, rfl, rfl, HAI.out⟩ ?_
  clear HAI
  rintro g ⟨t, ds⟩ W ⟨s, Ds, vo, hg, hds, hsz, h4, h5, h6, h16, hai⟩
  simp only [] at hds hsz h4 h5 h6 h16
  subst hds
  obtain ⟨x0, x1, x2, x3, x4, x5, x6, x7, x8, x9, x10, x11, x12, x13, x14, x15, x16, x17, x18, x19, x20, x21, x22, x23, x24, x25, x26, x27, x28, x29, x30, x31, x32, x33, x34, x35, x36, x37, x38, x39, rfl⟩ := arr40 t hsz
  have e4 : Value.slice ca cn cc = x4 := by simpa using h4.symm
  have e5 : ptr z3 = x5 := by simpa using h5.symm
  have e6 : ptr (z3 + 1) = x6 := by simpa using h6.symm
  have e16 : Value.int .i64 s = x16 := by simpa using h16.symm
  subst e4 e5 e6 e16
  have HA := Lib.hid hai
  clear hai hsz h4 h5 h6 h16
  by_cases hs : s < 64
  · have hsz : (s : Int) < 64 := by omega
    have hs0 : (0 : Int) ≤ (s : Int) := by omega
    go_wp2_with fail
    have HI : Hid (Its (W.alloc (.cells #[.int .i64 s] 3)) (.slice (some ⟨W.heap.size, 0, none⟩) 1 1) ([s].map (fun q : Nat => (q : Int)))) := Lib.hid (its_new W [(s : Int)] (by simp) (by
      intro x hx
      simp only [List.mem_cons, List.not_mem_nil, or_false] at hx
      unfold I64
      omega))
    have HAI1 := Lib.hid (HA.out.keep ((Keep.refl _ W).alloc (.cells #[.int .i64 s] 3)))
    clear HA
    generalize W.alloc (.cells #[.int .i64 s] 3) = V1 at *
    generalize W.heap.size = zw at *
    with_reducible refine (text_any _ _ [s] V1 (by decide) (by simp) (by
      intro q hq
      simp only [List.mem_cons, List.not_mem_nil, or_false] at hq
      omega) HI.out).mono ?_
    rintro e w' ⟨rfl, rfl⟩
    have HPT : Hid (Calls Tryz.prog 70 #[.string (txt ⟨#[115, 108, 111, 116]⟩ [s])] V1 fun e w' => e = .returned (.int .i64 (QS s)) ∧ V1 = w') := Lib.hid (point_any (slotT s) (slotT_size (by omega)) V1 ((HT.out.kept (HK3.out.trans HKC.out)).keep HAI1.out.k (by
      have h1 := HT.out 0 (by decide)
      have h2 := World.block_lt_of_cell? _ _ h1
      have h3 := HBM.out
      have h4 := HK2.out.size
      have h5 := HK3.out.size
      simp only [] at h2
      rintro (e | e) <;> omega)))
    generalize txt ⟨#[115, 108, 111, 116]⟩ [s] = tx at *
    go_wp2_with fail
    with_reducible refine HPT.out.mono ?_
    rintro e w' ⟨rfl, rfl⟩
    clear HPT HI
    generalize hqs : QS s = p at *
    have HQS := Lib.hid hqs
    clear hqs
    go_wp2_with fail
    with_reducible refine (from_any ca cn cc p _).mono ?_
    rintro e V2 ⟨rfl, hV2⟩
    have k2 : Keep (fun _ => False) V1 V2 := by rw [← hV2]; exact ((Keep.refl _ V1).alloc _).alloc _
    have HAI2 := Lib.hid (HAI1.out.keep k2)
    have HB1 : Hid (V2.cell? ⟨V1.heap.size, 0, none⟩ = some (.slice ca cn cc)) := Lib.hid (by rw [← hV2]; exact ((Keep.refl (fun _ => False) _).alloc _).cell (cells_new V1 [.slice ca cn cc] 130 0 _ rfl) (fun h => h))
    have HB2 : Hid (V2.cell? ⟨V1.heap.size + 1, 0, none⟩ = some (.int .i64 p)) := Lib.hid (by
      have := cells_new (V1.alloc (.cells #[.slice ca cn cc] 130)) [.int .i64 p] 3 0 _ rfl
      rw [World.size_alloc] at this
      rw [← hV2]; exact this)
    clear hV2 k2 HAI1
    generalize V1.heap.size = bc at *
    have HMV : Hid (Mks V2 (.slice ca cn cc) (circ PN l)) := Lib.hid ((HMK3.out.kept HKC.out).keep HAI2.out.k (fun j e => by
      have h1 : j < z3 ∧ j ≠ bm := HG.out j e
      rintro (h | h) <;> omega))
    have HBB : Hid (Wc.heap.size ≤ V2.heap.size) := Lib.hid HAI2.out.k.size
    go_wp2_with fail
    refine (wpIn_wide (n := 0)).1 ?_
    have hbm : bm < Wc.heap.size := by have := HBM.out; have := HSZ.out; omega
    have hbO : z3 + 1 < Wc.heap.size := by have := HSZ.out; omega
    refine range_list (gf := 130) (lb := #[ptr bc, ptr (bc + 1)]) rfl (enters_of Tryz.func130 (by kernel_rfl) rfl) (from_iter bc (bc + 1) (.slice ca cn cc) (circ PN l) p HCS.out HNE.out) (fun _ _ => rfl)
      (RI Wc bm (z3 + 1) Ds l bc (bc + 1) (.slice ca cn cc) p (asg PN QS l s) vo) (RX Wc bm (z3 + 1) Ds l p (asg PN QS l s))
      (RI_own hbm hbO HBB.out (fun D hD => HAI2.out.lt hD)) (RX_own hbm hbO HBB.out (fun D hD => HAI2.out.lt hD))
      (fun i V h => h.2.1) ⟨HAI2.out, ⟨HB1.out, HB2.out, HMV.out⟩, fun k hk => absurd hk (Nat.not_lt_zero _)⟩ ?a1 ?assign ?body ?done ?stop
    case assign =>
      intro l i V K hi hK
      gi_wp2
      exact hK
    case body =>
      rintro lp i V hi ⟨hai, ⟨hb1, hb2, hmv⟩, hbe⟩ hsV
      have HAV := Lib.hid hai
      have HBE := Lib.hid hbe
      have HFR := Lib.hid (show FromReads bc (bc + 1) (.slice ca cn cc) (circ PN l) p V from ⟨hb1, hb2, hmv⟩)
      have hbR : V.cell? ⟨z3, 0, none⟩ = some (.map (some bm)) := hai.k.cell HCR.out (by have := HBM.out; rintro (e | e) <;> omega)
      obtain ⟨x, hx, hcw⟩ := cwN_at HCS.out p hi
      have hxb : I64 (cwN (circ PN l) p i) := by
        rw [hcw]
        obtain ⟨m, hm, hd⟩ := (mem_circ PN).1 (List.mem_of_getElem? hx)
        have h1 := ((mem_drawM PN).1 hd).1
        have h2 := HV.out.ok m hm
        unfold okMb at h2
        unfold I64
        omega
      have HLEN : Hid ((asg PN QS l s).2.length ≤ 1000) := Lib.hid (by
        have := (assign_at PN QS HV.out (show s ≤ 80 by omega)).len
        show (assignK (fun s => ords PN l (QS s)) (limitL l) s).2.length ≤ 1000
        omega)
      have hroom := (assign_at PN QS HV.out (show s ≤ 80 by omega)).room (cwN (circ PN l) p i)
      have hlim := limitL_nn l (cwN (circ PN l) p i)
      have hcn := cnt_nn (asg PN QS l s).2 (cwN (circ PN l) p i)
      obtain ⟨es, ck, v', Vb, hup, happ, co1, co2, fo2, hai', hkf, g', c', rfl⟩ := hai.take hbm hbO (by have := HBM.out; omega) hxb HLEN.out HBB.out
      have lk := hai.mf.look hxb
      have HSF : Hid (0 < (asg PN QS l s).1 (cwN (circ PN l) p i) → stepA (ords PN l p) (asg PN QS l s) = (upd (asg PN QS l s).1 (cwN (circ PN l) p i) ((asg PN QS l s).1 (cwN (circ PN l) p i) - 1), (asg PN QS l s).2 ++ [cwN (circ PN l) p i])) := Lib.hid (fun h => step_found hi h HBE.out)
      obtain ⟨nn, hnn⟩ : ∃ nn, cwN (circ PN l) p i = nn := ⟨_, rfl⟩
      have HNN := Lib.hid hnn
      obtain ⟨rr, hrr⟩ : ∃ rr, (asg PN QS l s).1 nn = rr := ⟨_, rfl⟩
      have hroom2 : rr = limitL l nn - cnt (asg PN QS l s).2 nn := by rw [← hrr, ← hnn]; exact hroom
      have HRR := Lib.hid hrr
      simp only [hnn] at lk hup happ hai' HSF hlim hcn ⊢
      rw [hrr] at lk hup hai' HSF
      clear hnn hrr hroom hx hcw hai hbe hb1 hb2 hmv
      have hrb : -100 ≤ rr + 1000000 ∧ rr ≤ 1280 := by
        have := HLEN.out
        have h3 : cnt (asg PN QS l s).2 nn ≤ (asg PN QS l s).2.length := by
          unfold cnt
          have := List.count_le_length (a := nn) (l := (asg PN QS l s).2)
          omega
        omega
      clear hroom2 hlim hcn
      by_cases hpos : 0 < rr
      · have HAI' : Hid (AI Wc bm (z3 + 1) Ds (stepA (ords PN l p) (asg PN QS l s)) (.slice (some ⟨g', 0, none⟩) ((asg PN QS l s).2.length + 1) c') (Vb.setCell ⟨z3 + 1, 0, none⟩ (.slice (some ⟨g', 0, none⟩) ((asg PN QS l s).2.length + 1) c'))) := Lib.hid (by rw [HSF.out hpos]; exact hai')
        have HKF := Lib.hid hkf
        clear hai' hkf HSF
        generalize (asg PN QS l s).2.length + 1 = ln at *
        have HAPP := Lib.hid happ
        clear happ
        generalize V.putObj bm (.map es ck) = Va at *
        gi_wp2_with (gi_at_builtin; refine wpListIn_app rfl (.tmp 34) (.tmp 36) 22 rfl rfl rfl HAPP.out ?_)
        exact ⟨HKF.out, rfl, _, HAI'.out⟩
      · clear hai' hkf HSF happ hup co1 co2 fo2
        gi_wp2_with fail
        refine ⟨KeepsFrom.refl _ _, HAV.out, HFR.out, fun k hk => ?_⟩
        by_cases e : k = i
        · subst e
          rw [HNN.out, HRR.out]
          omega
        · exact HBE.out k (by omega)
    case done =>
      rintro D V hD ⟨hai, hfr, hbe⟩ hK
      have HN : Hid (AI Wc bm (z3 + 1) (D :: Ds) (asg PN QS l (s + 1)) vo V) := Lib.hid (by
        have e : asg PN QS l (s + 1) = asg PN QS l s := by
          show stepA (ords PN l (QS s)) (asg PN QS l s) = _
          rw [HQS.out]
          exact step_none hbe
        rw [e]
        exact hai.mark (fun E hE => HAI2.out.lt hE) HBB.out hD hK)
      clear hai hfr hbe hK hD
      go_wp2_with fail
      exact ⟨g - 1, by omega, s + 1, D :: Ds, vo, by omega, rfl, rfl, rfl, rfl, rfl, by simp, HN.out⟩
    case stop =>
      rintro D c i V hD hi ⟨rfl, v', hai⟩ hK
      have HN : Hid (AI Wc bm (z3 + 1) (D :: Ds) (asg PN QS l (s + 1)) v' V) := Lib.hid (by
        have e : asg PN QS l (s + 1) = stepA (ords PN l p) (asg PN QS l s) := by
          rw [← HQS.out]
          rfl
        rw [e]
        exact hai.mark (fun E hE => HAI2.out.lt hE) HBB.out hD hK)
      clear hai hK hD
      gi_wp2_with fail
      go_wp2_with fail
      exact ⟨g - 1, by omega, s + 1, D :: Ds, v', by omega, rfl, rfl, rfl, rfl, rfl, by simp, HN.out⟩
  · obtain rfl : s = 64 := by omega
    have c6 := HA.out.co
    have hns : ¬ (((64 : Nat) : Int) < 64) := by omega
    go_wp2_with fail
    refine leaves_marks Ds W HA.out.nd (fun D hD => (HA.out.ds D hD).2) (fun W' k => ?_)
    have hsz := HSZ.out
    have hbm := HBM.out
    have hk2 := HK2.out.size
    have hk3 := HK3.out.size
    have hkc := HKC.out.size
    refine ⟨.tuple #[vo, .int .i64 0], by simp [results, Tryz.f52, go_sem], vo, rfl, ?_, ?_⟩
    · refine ownsRow_lo (ownsRow_keep HA.out.ow k (fun b hb hD => ?_)) (by omega)
      rcases HA.out.ow.2 with ⟨e, _⟩ | ⟨g', cap, cur, e, hb', hh, _⟩
      · rw [e] at hb; cases hb
      · rw [e] at hb
        cases hb
        rw [(HA.out.ds _ hD).2] at hh
        cases hh
    · exact ((HK3.out.trans HKC.out).trans' HA.out.k (fun i e => .inr (by omega))).trans' k (fun i e => .inr (by have := (HA.out.ds i e).1; omega))
end Go.Proofs.YtplkmbfeeegaiaaGreatDoor

/-
  Assign refused; Clone of members; New.
-/
namespace Go.Proofs.YtplkmbfeeegaiaaGreatDoor
open Go.RowKit Go.Shelf
attribute [local go_sem] Oper.semAt_some

set_option maxRecDepth 100000 in
set_option maxHeartbeats 2000000 in
theorem assign_bad (v : Value) (l : List Mb) (w : World) (h : Mbs w v l) (hv : ¬ VL l) : Calls Tryz.prog 52 #[v] w fun e w' => e = .returned (.tuple #[.slice none 0 0, .int .i64 120]) ∧ Keep (fun _ => False) w w' := by
  have HVA : Hid (Calls Tryz.prog 67 #[v] w fun e w' => e = .returned (.bool false) ∧ Keep (fun _ => False) w w') := Lib.hid (by
    have := valid_any v l w h
    rwa [show validL l = false from by
      cases e : validL l with
      | false => rfl
      | true => exact absurd ((validL_iff l).1 e) hv] at this)
  clear h hv
  refine (callsIn_wide (n := 0)).1 ?_
  refine callsIn_of_wp_marks Tryz.func52 rfl trivial ?_ rfl
  simp only [Tryz.ntmps52, List.size_toArray, List.length_cons, List.length_nil, Nat.reduceAdd, Nat.reduceSub, Array.replicate_succ, Array.replicate_zero, List.push_toArray, List.append_toArray, List.nil_append, List.cons_append]
  refine wpIn_wide.2 ?_
  go_wp2_with fail
  go_step3
  go_wp2_with fail
  with_reducible refine HVA.out.mono ?_
  rintro e W1 ⟨rfl, k1⟩
  have HK1 := Lib.hid k1
  clear k1 HVA
  go_wp2_with fail
  rw [Exit.noGoto_ret]
  exact ⟨.tuple #[.slice none 0 0, .int .i64 120], by simp [results, Tryz.f52, go_sem], rfl, HK1.out⟩

def encMb (m : Mb) : List Value := [.int .i64 m.node, .int .i64 m.region, .int .i64 m.weight]
def flatB (l : List Mb) : List Value := l.flatMap encMb
theorem flatB_append (a b : List Mb) : flatB (a ++ b) = flatB a ++ flatB b := by unfold flatB; rw [List.flatMap_append]
theorem flatB_one (x : Mb) : flatB [x] = encMb x := by simp [flatB]
theorem flatB_len (l : List Mb) : (flatB l).length = l.length * 3 := by
  induction l with
  | nil => rfl
  | cons x l ih => unfold flatB at ih ⊢; rw [List.flatMap_cons, List.length_append, ih]; simp [encMb]; omega
theorem flatB_get : ∀ (l : List Mb) (q : Nat) (x : Mb) (r : Nat), l[q]? = some x → r < 3 → (flatB l)[q * 3 + r]? = (encMb x)[r]?
  | [], q, x, r, h, _ => by simp at h
  | y :: l, 0, x, r, h, hr => by
    simp only [List.getElem?_cons_zero, Option.some.injEq] at h
    subst h
    unfold flatB
    rw [List.flatMap_cons, Nat.zero_mul, Nat.zero_add, List.getElem?_append_left (by simp [encMb]; omega)]
  | y :: l, q + 1, x, r, h, hr => by
    simp only [List.getElem?_cons_succ] at h
    have ih := flatB_get l q x r h hr
    unfold flatB at ih ⊢
    rw [List.flatMap_cons, List.getElem?_append_right (by simp [encMb]; omega)]
    have e : (q + 1) * 3 + r - (encMb y).length = q * 3 + r := by simp [encMb]; omega
    rw [e]; exact ih
theorem flatB_cells {W : World} {b off : Nat} {l : List Mb} (h : ∀ j m, l[j]? = some m → W.cell? ⟨b, off + j * 3, none⟩ = some (.int .i64 m.node) ∧ W.cell? ⟨b, off + j * 3 + 1, none⟩ = some (.int .i64 m.region) ∧ W.cell? ⟨b, off + j * 3 + 2, none⟩ = some (.int .i64 m.weight)) (j : Nat) (u : Value) (hj : (flatB l)[j]? = some u) : W.cell? ⟨b, off + j, none⟩ = some u := by
  have hlt := (List.getElem?_eq_some_iff.1 hj).1
  rw [flatB_len] at hlt
  have hq : j / 3 < l.length := by omega
  have hx : l[j / 3]? = some l[j / 3] := List.getElem?_eq_getElem hq
  have h1 := flatB_get l (j / 3) _ (j % 3) hx (by omega)
  rw [show j / 3 * 3 + j % 3 = j by omega, hj] at h1
  have h2 := h _ _ hx
  have hr : j % 3 = 0 ∨ j % 3 = 1 ∨ j % 3 = 2 := by omega
  rcases hr with e | e | e
  · rw [e] at h1
    simp only [encMb, List.getElem?_cons_zero, Option.some.injEq] at h1
    rw [h1, ← h2.1]; congr 2; omega
  · rw [e] at h1
    simp only [encMb, List.getElem?_cons_succ, List.getElem?_cons_zero, Option.some.injEq] at h1
    rw [h1, ← h2.2.1]; congr 2; omega
  · rw [e] at h1
    simp only [encMb, List.getElem?_cons_succ, List.getElem?_cons_zero, Option.some.injEq] at h1
    rw [h1, ← h2.2.2]; congr 2; omega
theorem mbs_owns {W : World} {lo : Nat} {v : Value} {l : List Mb} (h : W.ownsRow lo 35 3 v l.length (flatB l)) (hl : l.length ≤ 1000000) (hb : ∀ m ∈ l, I64 m.node ∧ I64 m.region ∧ I64 m.weight) : Mbs W v l := by
  rcases h.2 with ⟨rfl, hx⟩ | ⟨g, cap, cur, rfl, _, _, hc, r⟩
  · have : l = [] := List.eq_nil_of_length_eq_zero hx
    subst this
    exact ⟨by simp, by simp, none, 0, 0, 0, rfl, by simp, fun h => by simp at h, fun j x hj => by simp at hj⟩
  · refine ⟨by omega, hb, some ⟨g, 0, none⟩, cap, g, 0, rfl, hc, fun _ => rfl, fun j x hj => ?_⟩
    have key : ∀ r, r < 3 → ∀ u, (encMb x)[r]? = some u → W.cell? ⟨g, 0 + (j * 3 + r), none⟩ = some u := fun r hr u hu => by
      have h1 := flatB_get l j x r hj hr
      rw [hu] at h1
      have h3 := h.cells (g := g) rfl _ _ h1
      rwa [Addr.add_lit] at h3
    exact ⟨key 0 (by decide) _ rfl, by have := key 1 (by decide) _ rfl; rwa [← Nat.add_assoc] at this, by have := key 2 (by decide) _ rfl; rwa [← Nat.add_assoc] at this⟩
theorem its_owns {W : World} {lo : Nat} {v : Value} {xs : List Int} (h : W.ownsRow lo 3 1 v xs.length (xs.map (fun x => Value.int .i64 x))) (hl : xs.length ≤ 1000000) (hb : ∀ x ∈ xs, I64 x) : Its W v xs := by
  rcases h.2 with ⟨rfl, hx⟩ | ⟨g, cap, cur, rfl, _, _, hc, r⟩
  · have : xs = [] := List.eq_nil_of_length_eq_zero hx
    subst this
    exact Its.nil W
  · refine ⟨by omega, hb, some ⟨g, 0, none⟩, cap, g, 0, rfl, hc, fun _ => rfl, fun j x hj => ?_⟩
    have h3 := h.cells (g := g) rfl j (.int .i64 x) (by rw [List.getElem?_map, hj]; rfl)
    rwa [Addr.add_lit] at h3

/-- More members. -/
theorem app_mbs (W : World) (ty lo : Nat) (v src : Value) (l ys : List Mb) (hown : W.ownsRow lo 35 3 v l.length (flatB l)) (hs : Mbs W src ys) (hne : 0 < ys.length) (hn : l.length + ys.length ≤ 100000) (hlo : lo ≤ W.heap.size) :
    ∃ v' w', (Builtin.append_ #[25, 25] ty #[v, src]).run Tryz.prog W = .ok v' w' ∧ w'.ownsRow lo 35 3 v' (l ++ ys).length (flatB (l ++ ys)) ∧
      Keep (fun k => v.ownBlock = some k) W w' ∧ (v'.ownBlock = v.ownBlock ∨ v'.ownBlock = some W.heap.size) := by
  obtain ⟨hn2, hb, a, c, b, off, rfl, hc, ha, hcell⟩ := hs
  obtain rfl := ha hne
  obtain ⟨i0, hi, hz0, hz1, hz2⟩ := info_parts infoMb
  obtain ⟨v', w', r1, r2, r3, r4, r5⟩ := run_append_own_at (P := Tryz.prog) W lo 25 ty 35 i0 _ 3 24 Tryz.underlying25 hi hz0 hz1 hz2 rfl (by decide) v l.length (flatB l) hown ⟨b, off, none⟩ ys.length c (flatB ys) (flatB_len ys)
    (by
      intro j u hj
      rw [Addr.add_lit]
      exact flatB_cells hcell j u hj)
    (by
      intro u hu
      unfold flatB at hu
      obtain ⟨m, _, hu⟩ := List.mem_flatMap.1 hu
      simp only [encMb, List.mem_cons, List.not_mem_nil, or_false] at hu
      rcases hu with rfl | rfl | rfl <;> rfl) (by unfold maxLen; omega) (by omega) hlo
  refine ⟨v', w', r1, ?_, Keep.of_grown r3, r5⟩
  rw [flatB_append, List.length_append]
  exact r2

def ClonePost (l : List Mb) (w : World) (e : Ending) (w' : World) : Prop := ∃ v, e = .returned v ∧ w'.ownsRow w.heap.size 35 3 v l.length (flatB l) ∧ Keep (fun _ => False) w w'
set_option maxRecDepth 100000 in
set_option maxHeartbeats 1000000 in
theorem cloneMb_any (v : Value) (l : List Mb) (w : World) (h : Mbs w v l) (hne : 0 < l.length) (hl : l.length ≤ 1000) : Calls Tryz.prog 54 #[v] w (ClonePost l w) := by
  have k1 : Keep (fun _ => False) w (w.alloc (.cells #[] 35)) := (Keep.refl _ w).alloc _
  obtain ⟨v', W2, hr, hown, hkp, hob⟩ := app_mbs (w.alloc (.cells #[] 35)) 25 w.heap.size (.slice (some ⟨w.heap.size, 0, none⟩) 0 0) v [] l (World.ownsRow_lit w #[] 0 (Nat.le_refl _) (by decide) rfl) (h.kept k1) hne (by simp; omega) (by simp)
  rw [List.nil_append] at hown
  have HP : Hid (ClonePost l w (.returned v') W2) := Lib.hid ⟨v', rfl, hown, k1.trans' hkp (fun j e => by cases e; exact .inr (Nat.le_refl _))⟩
  obtain ⟨-, -, a, c, b, off, rfl, -, ha, -⟩ := h
  obtain rfl := ha hne
  have HR := Lib.hid hr
  clear hr hown hkp hob k1 ha
  have heq : (binOp BinOp.eql 25 (.slice (some ⟨b, off, none⟩) l.length c) (.slice none 0 0)).run Tryz.prog w = .ok (.bool false) w := by
    simp only [binOp]
    simp [Op.equal, Op.maxDepth, Lib.run_equalIn_slice_nil w 9999 25 35 (some ⟨b, off, none⟩) l.length c 0 0 Tryz.underlying25]
  go_enter Tryz.func54, Tryz.ntmps54
  go_wp2_with (at_builtin; refine wpList_app rfl (.tmp 5) (.tmp 6) 25 rfl rfl rfl HR.out ?_)
  go_ret
  exact HP.out

/-- A ring of its own. -/
def NewPost (ep : Int) (l : List Mb) (w : World) (e : Ending) (w' : World) : Prop := ∃ vm vo, e = .returned (.tuple #[ringV ep vm vo, .int .i64 0]) ∧ w'.ownsRow w.heap.size 35 3 vm l.length (flatB l) ∧ w'.ownsRow w.heap.size 3 1 vo (ownersL PN QS l).length ((ownersL PN QS l).map (fun x => Value.int .i64 x)) ∧ (∀ b, vo.ownBlock = some b → vm.ownBlock ≠ some b) ∧ Keep (fun _ => False) w w'
theorem VL.bd {l : List Mb} (h : VL l) : ∀ m ∈ l, I64 m.node ∧ I64 m.region ∧ I64 m.weight := fun m hm => by
  have := h.ok m hm
  unfold okMb at this
  unfold I64
  omega
theorem VL.obd {l : List Mb} (h : VL l) : ∀ x ∈ ownersL PN QS l, I64 x := fun x hx => by
  obtain ⟨m, hm, rfl⟩ := (owners_ok PN QS h).2.2 x hx
  exact (h.bd m hm).1

set_option maxRecDepth 100000 in
set_option maxHeartbeats 2000000 in
theorem new_ok (ep : Int) (v : Value) (l : List Mb) (w : World) (h : Mbs w v l) (hv : VL l) (hT : Tab w) (he : 1 ≤ ep ∧ ep ≤ 1000000) : Calls Tryz.prog 13 #[.int .i64 ep, v] w (NewPost ep l w) := by
  have HAS : Hid (∀ W, Keep (fun _ => False) w W → Calls Tryz.prog 52 #[v] W (AsgPost l W)) := Lib.hid (fun W k => assign_ok v l W (h.kept k) hv (hT.kept k))
  have HCL : Hid (∀ W, Keep (fun _ => False) w W → Calls Tryz.prog 54 #[v] W (ClonePost l W)) := Lib.hid (fun W k => cloneMb_any v l W (h.kept k) (List.length_pos_iff.2 hv.ne) (by have := hv.len; omega))
  have HEP := Lib.hid (decide_eq_true he)
  clear h hv hT he
  have HK0 : Hid (Keep (fun _ => False) w (w.alloc (.cells #[.int .i64 0, .slice none 0 0, .slice none 0 0] 27))) := Lib.hid ((Keep.refl _ w).alloc _)
  have HT3 := Lib.hid (three_cell w (.int .i64 0) (.slice none 0 0) (.slice none 0 0) 27)
  go_enter Tryz.func13, Tryz.ntmps13
  go_wp2_with fail
  generalize w.alloc (.cells #[.int .i64 0, .slice none 0 0, .slice none 0 0] 27) = W0 at *
  generalize hz : w.heap.size = z at HT3
  have HZ := Lib.hid hz
  clear hz
  with_reducible refine (HAS.out _ HK0.out).mono ?_
  rintro e W1 ⟨vo, rfl, how, k1⟩
  have HK1 := Lib.hid (HK0.out.trans k1)
  have HSZ1 := Lib.hid k1.size
  have HOW := Lib.hid how
  have HT1 := Lib.hid (And.intro (k1.cell HT3.out.1 (fun h => h)) (And.intro (k1.cell HT3.out.2.1 (fun h => h)) (And.intro (k1.cell HT3.out.2.2.1 (fun h => h)) (fun o => (k1.frozen (World.block_lt_of_cell? _ _ HT3.out.1) (fun h => h) o).trans (HT3.out.2.2.2 o)))))
  clear k1 how
  go_wp2_with fail
  with_reducible refine (within_b ep 1 1000000 true HEP.out _).mono ?_
  rintro e w' ⟨rfl, rfl⟩
  go_wp2_with fail
  with_reducible refine (HCL.out _ HK1.out).mono ?_
  rintro e W2 ⟨vm, rfl, hmb, k2⟩
  have hform : (∃ a n c, vo = .slice a n c) ∧ ∃ a n c, vm = .slice a n c := by
    constructor
    · rcases HOW.out.2 with ⟨rfl, _⟩ | ⟨g, cap, cur, rfl, _⟩ <;> exact ⟨_, _, _, rfl⟩
    · rcases hmb.2 with ⟨rfl, _⟩ | ⟨g, cap, cur, rfl, _⟩ <;> exact ⟨_, _, _, rfl⟩
  obtain ⟨⟨oa, on, oc, rfl⟩, ma, mn, mc, rfl⟩ := hform
  have f0 := k2.cell HT1.out.1 (fun h => h)
  have f1 := k2.cell HT1.out.2.1 (fun h => h)
  have f2 := k2.cell HT1.out.2.2.1 (fun h => h)
  have ff : ∀ o, W2.frozen? ⟨z, o, none⟩ = false := fun o => (k2.frozen (World.block_lt_of_cell? _ _ HT1.out.1) (fun h => h) o).trans (HT1.out.2.2.2 o)
  have HK2 := Lib.hid (HK1.out.trans k2)
  have HOW2 := Lib.hid (ownsRow_keep HOW.out k2 (fun _ _ h => h))
  have HMB := Lib.hid hmb
  have HLT := Lib.hid (fun b (e : (Value.slice oa on oc).ownBlock = some b) => (HOW.out.lt b e))
  clear k2 hmb HOW
  go_wp2_with fail
  have g0 : (((W2.setCell ⟨z, 0, none⟩ (.int .i64 ep)).setCell ⟨z, 1, none⟩ (.slice ma mn mc)).setCell ⟨z, 2, none⟩ (.slice oa on oc)).cell? ⟨z, 0, none⟩ = some (.int .i64 ep) := (cell_set_off (by decide)).trans ((cell_set_off (by decide)).trans (cell_set_same f0))
  have g1 : (((W2.setCell ⟨z, 0, none⟩ (.int .i64 ep)).setCell ⟨z, 1, none⟩ (.slice ma mn mc)).setCell ⟨z, 2, none⟩ (.slice oa on oc)).cell? ⟨z, 1, none⟩ = some (.slice ma mn mc) := (cell_set_off (by decide)).trans (cell_set_same ((cell_set_off (by decide)).trans f1))
  have g2 : (((W2.setCell ⟨z, 0, none⟩ (.int .i64 ep)).setCell ⟨z, 1, none⟩ (.slice ma mn mc)).setCell ⟨z, 2, none⟩ (.slice oa on oc)).cell? ⟨z, 2, none⟩ = some (.slice oa on oc) := cell_set_same ((cell_set_off (by decide)).trans ((cell_set_off (by decide)).trans f2))
  have HKS : Hid (Keep (fun j => j = z) W2 (((W2.setCell ⟨z, 0, none⟩ (.int .i64 ep)).setCell ⟨z, 1, none⟩ (.slice ma mn mc)).setCell ⟨z, 2, none⟩ (.slice oa on oc))) := Lib.hid ((((Keep.refl (fun j => j = z) W2).setCell (p := ⟨z, 0, none⟩) _ (.inl rfl)).setCell (p := ⟨z, 1, none⟩) _ (.inl rfl)).setCell (p := ⟨z, 2, none⟩) _ (.inl rfl))
  generalize ((W2.setCell ⟨z, 0, none⟩ (.int .i64 ep)).setCell ⟨z, 1, none⟩ (.slice ma mn mc)).setCell ⟨z, 2, none⟩ (.slice oa on oc) = W3 at *
  refine bodyPost_ret (v := .tuple #[ringV ep (.slice ma mn mc) (.slice oa on oc), .int .i64 0]) (by simp [results, Tryz.results13, go_sem, g0, g1, g2]) rfl ?_
  have hz0 : w.heap.size = z := HZ.out
  have hW0 := World.block_lt_of_cell? _ _ HT3.out.1
  simp only [] at hW0
  have hW1 := HK1.out.size
  refine ⟨_, _, rfl, ownsRow_lo (ownsRow_keep HMB.out HKS.out (fun b hb e => ?_)) hW1, ownsRow_lo (ownsRow_keep HOW2.out HKS.out (fun b hb e => ?_)) HK0.out.size, fun b hb hm => ?_, HK2.out.trans' HKS.out (fun i e => .inr (by omega))⟩
  · have := (HMB.out.lt b hb).1
    have h3 : W0.heap.size ≤ W1.heap.size := HSZ1.out
    omega
  · have := (HOW2.out.lt b hb).1; omega
  · have h1 := (HMB.out.lt b hm).1
    have h2 := (HLT.out b hb).2
    omega
end Go.Proofs.YtplkmbfeeegaiaaGreatDoor

/-
  Boxes of three cells; slices that are cut; append to an empty literal.
-/
namespace Go.Proofs.YtplkmbfeeegaiaaGreatDoor
open Go.RowKit Go.Shelf

/-- A box of three cells. -/
def Box3 (W : World) (z : Nat) (x y u : Value) : Prop := W.cell? ⟨z, 0, none⟩ = some x ∧ W.cell? ⟨z, 1, none⟩ = some y ∧ W.cell? ⟨z, 2, none⟩ = some u ∧ ∀ o, W.frozen? ⟨z, o, none⟩ = false
theorem Box3.lt {W : World} {z : Nat} {x y u : Value} (h : Box3 W z x y u) : z < W.heap.size := World.block_lt_of_cell? _ _ h.1
theorem Box3.keep {W W' : World} {z : Nat} {x y u : Value} {A : Nat → Prop} (h : Box3 W z x y u) (k : Keep A W W') (hz : ¬ A z) : Box3 W' z x y u :=
  ⟨k.cell h.1 hz, k.cell h.2.1 hz, k.cell h.2.2.1 hz, fun o => (k.frozen h.lt hz o).trans (h.2.2.2 o)⟩
theorem Box3.kept {W W' : World} {z : Nat} {x y u : Value} (h : Box3 W z x y u) (k : Keep (fun _ => False) W W') : Box3 W' z x y u := h.keep k (fun h => h)
theorem Box3.set0 {W : World} {z : Nat} {x y u : Value} (h : Box3 W z x y u) (v : Value) : Box3 (W.setCell ⟨z, 0, none⟩ v) z v y u :=
  ⟨cell_set_same h.1, (cell_set_off (by decide)).trans h.2.1, (cell_set_off (by decide)).trans h.2.2.1, fun o => (World.frozen?_setCell _ _ _ _).trans (h.2.2.2 o)⟩
theorem Box3.set1 {W : World} {z : Nat} {x y u : Value} (h : Box3 W z x y u) (v : Value) : Box3 (W.setCell ⟨z, 1, none⟩ v) z x v u :=
  ⟨(cell_set_off (by decide)).trans h.1, cell_set_same h.2.1, (cell_set_off (by decide)).trans h.2.2.1, fun o => (World.frozen?_setCell _ _ _ _).trans (h.2.2.2 o)⟩
theorem Box3.set2 {W : World} {z : Nat} {x y u : Value} (h : Box3 W z x y u) (v : Value) : Box3 (W.setCell ⟨z, 2, none⟩ v) z x y v :=
  ⟨(cell_set_off (by decide)).trans h.1, (cell_set_off (by decide)).trans h.2.1, cell_set_same h.2.2.1, fun o => (World.frozen?_setCell _ _ _ _).trans (h.2.2.2 o)⟩
theorem Box3.other {W : World} {z b o : Nat} {x y u : Value} (h : Box3 W z x y u) (hb : b ≠ z) (v : Value) : Box3 (W.setCell ⟨b, o, none⟩ v) z x y u :=
  ⟨(cell_set_blk hb).trans h.1, (cell_set_blk hb).trans h.2.1, (cell_set_blk hb).trans h.2.2.1, fun o => (World.frozen?_setCell _ _ _ _).trans (h.2.2.2 o)⟩
theorem Box3.new (W : World) (x y u : Value) (t : TypeId) : Box3 (W.alloc (.cells #[x, y, u] t)) W.heap.size x y u := three_cell W x y u t

theorem Mbs.cut {W : World} {a : Option Addr} {n c : Nat} {l : List Mb} (h : Mbs W (.slice a n c) l) {q : Nat} (hq : q ≤ n) : Mbs W (.slice a q c) (l.take q) ∧ (l.take q).length = q ∧ n ≤ c := by
  obtain ⟨h1, h2, a', c', b, off, e, hc, ha, hcell⟩ := h
  obtain ⟨rfl, rfl, rfl⟩ := Value.slice.inj e
  have hl : (l.take q).length = q := by rw [List.length_take]; omega
  refine ⟨⟨by omega, fun m hm => h2 m (List.mem_of_mem_take hm), a, c, b, off, by rw [hl], by omega, fun h => ha (by omega), fun j x hj => hcell j x ?_⟩, hl, hc⟩
  have := (List.getElem?_eq_some_iff.1 hj).1
  rwa [List.getElem?_take_of_lt (by omega)] at hj
theorem Its.cut {W : World} {a : Option Addr} {n c : Nat} {l : List Int} (h : Its W (.slice a n c) l) {q : Nat} (hq : q ≤ n) : Its W (.slice a q c) (l.take q) ∧ (l.take q).length = q ∧ n ≤ c := by
  obtain ⟨h1, h2, a', c', b, off, e, hc, ha, hcell⟩ := h
  obtain ⟨rfl, rfl, rfl⟩ := Value.slice.inj e
  have hl : (l.take q).length = q := by rw [List.length_take]; omega
  refine ⟨⟨by omega, fun m hm => h2 m (List.mem_of_mem_take hm), a, c, b, off, by rw [hl], by omega, fun h => ha (by omega), fun j x hj => hcell j x ?_⟩, hl, hc⟩
  have := (List.getElem?_eq_some_iff.1 hj).1
  rwa [List.getElem?_take_of_lt (by omega)] at hj

theorem own_form {W : World} {lo : Nat} {e : TypeId} {z n : Nat} {v : Value} {xs : List Value} (h : W.ownsRow lo e z v n xs) : ∃ a c, v = .slice a n c := by
  rcases h.2 with ⟨rfl, h2⟩ | ⟨g, c, cur, rfl, _⟩
  · exact ⟨none, 0, by rw [h2]⟩
  · exact ⟨_, _, rfl⟩
theorem run_append_owned_cap {P : Program} (w : World) (base : Nat) (t ty e : TypeId) (i : TypeInfo) (size : Nat) (ht : P.underlying t = some (.slice e)) (hi : P.info? e = some i)
    (v : Value) (n : Nat) (xs : List Value) (hown : w.ownsRow base e size v n xs) (c : Nat) :
    (Builtin.append_ #[t, t] ty #[v, .slice none 0 c]).run P w = .ok v w := by
  rcases hown.2 with ⟨rfl, rfl⟩ | ⟨g, cap, cur, rfl, _, _, hnc, _⟩
  · simp [Builtin.append_, run_underlying ht, sizeOf, typeInfo, hi, Builtin.lenOf, Builtin.firstCells]
  · simp [Builtin.append_, run_underlying ht, sizeOf, typeInfo, hi, Builtin.lenOf, Builtin.firstCells, hnc, storeCells]
/-- More members behind an own row, none too. -/
theorem app_mbs0 (W : World) (ty lo : Nat) (v src : Value) (l ys : List Mb) (hown : W.ownsRow lo 35 3 v l.length (flatB l)) (hs : Mbs W src ys) (hn : l.length + ys.length ≤ 100000) (hlo : lo ≤ W.heap.size) :
    ∃ v' w', (Builtin.append_ #[25, 25] ty #[v, src]).run Tryz.prog W = .ok v' w' ∧ w'.ownsRow lo 35 3 v' (l ++ ys).length (flatB (l ++ ys)) ∧
      Keep (fun k => v.ownBlock = some k) W w' := by
  by_cases hne : 0 < ys.length
  · obtain ⟨v', w', h1, h2, h3, _⟩ := app_mbs W ty lo v src l ys hown hs hne hn hlo
    exact ⟨v', w', h1, h2, h3⟩
  · obtain ⟨hn2, hb, a, c, b, off, rfl, hc, ha, hcell⟩ := hs
    have : ys = [] := List.eq_nil_of_length_eq_zero (by omega)
    subst this
    obtain ⟨i0, hi, hz0, hz1, hz2⟩ := info_parts infoMb
    cases a with
    | none => exact ⟨v, W, run_append_owned_cap W lo 25 ty 35 i0 3 Tryz.underlying25 hi v l.length _ hown c, by rw [List.append_nil]; exact hown, Keep.refl _ W⟩
    | some ad =>
      obtain ⟨v', w', r1, r2, r3, r4, r5⟩ := run_append_own_at (P := Tryz.prog) W lo 25 ty 35 i0 _ 3 24 Tryz.underlying25 hi hz0 hz1 hz2 rfl (by decide) v l.length (flatB l) hown ad 0 c [] (by simp)
        (by intro j u hj; simp at hj) (by simp) (by unfold maxLen; omega) (by omega) hlo
      refine ⟨v', w', r1, ?_, Keep.of_grown r3⟩
      rw [List.append_nil] at r2 ⊢
      exact r2
theorem app_its0 (W : World) (ty lo : Nat) (v src : Value) (l ys : List Int) (hown : W.ownsRow lo 3 1 v l.length (l.map (fun x => Value.int .i64 x))) (hs : Its W src ys) (hn : l.length + ys.length ≤ 100000) (hlo : lo ≤ W.heap.size) :
    ∃ v' w', (Builtin.append_ #[22, 22] ty #[v, src]).run Tryz.prog W = .ok v' w' ∧ w'.ownsRow lo 3 1 v' (l ++ ys).length ((l ++ ys).map (fun x => Value.int .i64 x)) ∧
      Keep (fun k => v.ownBlock = some k) W w' := by
  obtain ⟨hn2, hb, a, c, b, off, rfl, hc, ha, hcell⟩ := hs
  obtain ⟨i0, hi, hz0, hz1, hz2⟩ := info_parts infoInt
  cases a with
  | none =>
    have : ys = [] := by
      apply List.eq_nil_of_length_eq_zero
      rcases Nat.eq_zero_or_pos ys.length with h | h
      · exact h
      · exact absurd (ha h) (by simp)
    subst this
    exact ⟨v, W, run_append_owned_cap W lo 22 ty 3 i0 1 Tryz.underlying22 hi v l.length _ hown c, by rw [List.append_nil]; exact hown, Keep.refl _ W⟩
  | some ad =>
    obtain ⟨v', w', r1, r2, r3, r4, r5⟩ := run_append_own_at (P := Tryz.prog) W lo 22 ty 3 i0 _ 1 8 Tryz.underlying22 hi hz0 hz1 hz2 rfl (by decide) v l.length _ hown ad ys.length c (ys.map (fun x => Value.int .i64 x)) (by simp)
      (by
        intro j u hj
        rw [List.getElem?_map] at hj
        cases hx : ys[j]? with
        | none => rw [hx] at hj; cases hj
        | some x =>
          rw [hx] at hj
          cases hj
          have := (List.getElem?_eq_some_iff.1 hx).1
          have e := ha (by omega)
          cases e
          rw [Addr.add_lit]
          exact hcell j x hx)
      (by
        intro u hu
        obtain ⟨x, _, rfl⟩ := List.mem_map.1 hu
        rfl) (by unfold maxLen; omega) (by omega) hlo
    refine ⟨v', w', r1, ?_, Keep.of_grown r3⟩
    rw [List.map_append, List.length_append]
    exact r2
/-- A copy of its own: append to an empty literal. -/
theorem lit_mbs (W : World) (v : Value) (l : List Mb) (h : Mbs W v l) (hl : l.length ≤ 1000) :
    ∃ a c W', (Builtin.append_ #[25, 25] 25 #[.slice (some ⟨W.heap.size, 0, none⟩) 0 0, v]).run Tryz.prog (W.alloc (.cells #[] 35)) = .ok (.slice a l.length c) W' ∧ Keep (fun _ => False) W W' ∧ W'.ownsRow W.heap.size 35 3 (.slice a l.length c) l.length (flatB l) := by
  have k1 : Keep (fun _ => False) W (W.alloc (.cells #[] 35)) := (Keep.refl _ W).alloc _
  obtain ⟨v', W2, hr, hown, hkp⟩ := app_mbs0 (W.alloc (.cells #[] 35)) 25 W.heap.size (.slice (some ⟨W.heap.size, 0, none⟩) 0 0) v [] l (World.ownsRow_lit W #[] 0 (Nat.le_refl _) (by decide) rfl) (h.kept k1) (by simp; omega) (by simp)
  rw [List.nil_append] at hown
  obtain ⟨a, c, rfl⟩ := own_form hown
  exact ⟨a, c, W2, hr, k1.trans' hkp (fun j e => by cases e; exact .inr (Nat.le_refl _)), hown⟩
theorem lit_its (W : World) (v : Value) (l : List Int) (h : Its W v l) (hl : l.length ≤ 1000) :
    ∃ a c W', (Builtin.append_ #[22, 22] 22 #[.slice (some ⟨W.heap.size, 0, none⟩) 0 0, v]).run Tryz.prog (W.alloc (.cells #[] 3)) = .ok (.slice a l.length c) W' ∧ Keep (fun _ => False) W W' ∧ W'.ownsRow W.heap.size 3 1 (.slice a l.length c) l.length (l.map (fun x => Value.int .i64 x)) := by
  have k1 : Keep (fun _ => False) W (W.alloc (.cells #[] 3)) := (Keep.refl _ W).alloc _
  obtain ⟨v', W2, hr, hown, hkp⟩ := app_its0 (W.alloc (.cells #[] 3)) 22 W.heap.size (.slice (some ⟨W.heap.size, 0, none⟩) 0 0) v [] l (World.ownsRow_lit W #[] 0 (Nat.le_refl _) (by decide) rfl) (h.kept k1) (by simp; omega) (by simp)
  rw [List.nil_append] at hown
  obtain ⟨a, c, rfl⟩ := own_form hown
  exact ⟨a, c, W2, hr, k1.trans' hkp (fun j e => by cases e; exact .inr (Nat.le_refl _)), hown⟩
end Go.Proofs.YtplkmbfeeegaiaaGreatDoor

/-
  slices.Contains; what the choice of holders asks of a candidate; first.
-/
namespace Go.Proofs.YtplkmbfeeegaiaaGreatDoor
open Go.RowKit Go.Shelf

/-- r is a place, if b. -/
def IdxC (b : Bool) (r : Int) : Prop := decide (0 ≤ r) = b

set_option maxRecDepth 100000 in
set_option maxHeartbeats 1000000 in
theorem index_any (v : Value) (xs : List Int) (n : Int) (w : World) (h : Its w v xs) : Calls Tryz.prog 122 #[v, .int .i64 n] w fun e w' => (∃ r : Int, e = .returned (.int .i64 r) ∧ IdxC (hasI xs n) r) ∧ w = w' := by
  obtain ⟨hn, -, a, c, bb, off, rfl, hc, ha, hcell⟩ := h
  have HC := Lib.hid hcell
  have HA := Lib.hid ha
  have HL := Lib.hid (show xs.length = xs.length from rfl)
  clear hcell ha
  generalize hl : xs.length = ln at hc hn HA HL ⊢
  have HLN := Lib.hid hl
  clear hl HL
  go_enter Tryz.func122, Tryz.ntmps122
  go_wp2_with fail
  go_loopg [8] ln (fun gh v wr => ∃ k : Nat, gh + k = ln ∧ v = .int .i64 k ∧ Hid (∀ j x, j < k → xs[j]? = some x → x ≠ n) ∧ w = wr)
  case atStart => exact ⟨0, by omega, rfl, Lib.hid (fun j m h => by omega), rfl⟩
  case round =>
    obtain ⟨k, hk, rfl, HN, rfl⟩ := hrel
    by_cases hlt : k < ln
    · obtain ⟨x, hm⟩ : ∃ x, xs[k]? = some x := ⟨_, List.getElem?_eq_getElem (by have := HLN.out; omega)⟩
      obtain rfl := HA.out (by omega)
      have c0 := HC.out k x hm
      have HM := Lib.hid hm
      have hkz : (k : Int) < (ln : Int) := by omega
      have hk0 : (0 : Int) ≤ (k : Int) := by omega
      clear hm
      by_cases hx : n = x
      · have hb : (n == x) = true := by simpa using hx
        go_wp2_with fail
        go_ret
        exact ⟨⟨_, rfl, by unfold IdxC; unfold hasI; rw [decide_eq_true (by omega), eq_comm, List.contains_iff_mem]; exact List.mem_of_getElem? HM.out⟩, rfl⟩
      · have hb : (n == x) = false := by simpa using hx
        have HNN : Hid (∀ j m, j < k + 1 → xs[j]? = some m → m ≠ n) := Lib.hid (fun j m hj hm => by
          by_cases e : j = k
          · subst e
            rw [HM.out] at hm
            cases hm
            exact fun e => hx e.symm
          · exact HN.out j m (by omega) hm)
        go_wp2_with fail
        go_roundg (gk - 1)
        case rel => exact ⟨k + 1, by omega, by go_num, HNN, rfl⟩
        case measure => omega
    · have hkz : ¬ (k : Int) < (ln : Int) := by omega
      have HF : Hid (hasI xs n = false) := Lib.hid (by
        unfold hasI
        rw [← Bool.not_eq_true, List.contains_iff_mem]
        intro hm
        obtain ⟨j, hj⟩ := List.mem_iff_getElem?.1 hm
        exact HN.out j n (by have := (List.getElem?_eq_some_iff.1 hj).1; have := HLN.out; omega) hj rfl)
      go_wp2_with fail
      go_ret
      exact ⟨⟨-1, rfl, by unfold IdxC; rw [HF.out]; rfl⟩, rfl⟩
set_option maxRecDepth 100000 in
theorem contains_any (v : Value) (xs : List Int) (n : Int) (w : World) (h : Its w v xs) : Calls Tryz.prog 84 #[v, .int .i64 n] w fun e w' => e = .returned (.bool (hasI xs n)) ∧ w = w' := by
  have HI := Lib.hid (index_any v xs n w h)
  clear h
  go_enter Tryz.func84, Tryz.ntmps84
  go_wp2_with fail
  with_reducible refine HI.out.mono ?_
  rintro e W1 ⟨⟨r, rfl, hr⟩, rfl⟩
  have HR := Lib.hid hr
  clear hr
  go_wp2_with fail
  go_ret
  exact ⟨by have := HR.out; unfold IdxC at this; rw [← this] <;> rfl, rfl⟩

/-- A map from numbers to truth values. -/
def MapB (w : World) (bm : Nat) (g : Int → Bool) : Prop := ∃ R, MapRel Tryz.prog 3 w bm R ∧ (∀ k v, R k v → ∃ n, k = .int .i64 n ∧ v = .bool (g n)) ∧ ∀ n, g n = true → R (.int .i64 n) (.bool (g n))
theorem MapB.of_heap {w w' : World} {bm : Nat} {g : Int → Bool} (h : MapB w bm g) (hh : w'.heap[bm]? = w.heap[bm]?) : MapB w' bm g := by
  obtain ⟨R, h1, h2, h3⟩ := h
  exact ⟨R, h1.of_heap hh, h2, h3⟩
theorem MapB.lt {w : World} {bm : Nat} {g : Int → Bool} (h : MapB w bm g) : bm < w.heap.size := by obtain ⟨R, h1, _⟩ := h; exact h1.lt
theorem MapB.keep {w w' : World} {bm : Nat} {g : Int → Bool} {A : Nat → Prop} (h : MapB w bm g) (k : Keep A w w') (hA : ¬ A bm) : MapB w' bm g := h.of_heap (k.block _ h.lt hA)
theorem MapB.kept {w w' : World} {bm : Nat} {g : Int → Bool} (h : MapB w bm g) (k : Keep (fun _ => False) w w') : MapB w' bm g := h.keep k (fun h => h)
theorem MapB.made (w : World) : MapB (w.alloc (.map #[] 0)) w.heap.size (fun _ => false) := ⟨_, MapRel.made _ _ w, fun _ _ h => h.elim, fun _ h => by cases h⟩
theorem zeroBool (w : World) : (zeroValue 4).run Tryz.prog w = .ok (.bool false) w := by kernel_rfl
theorem MapB.look {w : World} {bm : Nat} {g : Int → Bool} (h : MapB w bm g) {n : Int} (hn : I64 n) : (Instr.lookup 148 (.map (some bm)) (.int .i64 n) false).run Tryz.prog w = .ok (.bool (g n)) w := by
  obtain ⟨R, h1, h2, h3⟩ := h
  rcases h1.look intKeyed Tryz.underlying148 (zeroBool w) false (keyInt hn) with ⟨g1, g2⟩ | ⟨v, g1, g2⟩
  · have : g n = false := by
      cases hg : g n with
      | false => rfl
      | true => exact absurd (h3 n hg) (g1 _)
    rw [this]; exact g2
  · obtain ⟨n', e1, rfl⟩ := h2 _ _ g1
    cases e1
    exact g2
theorem MapB.update {w : World} {bm : Nat} {g : Int → Bool} (h : MapB w bm g) {n : Int} (hn : I64 n) : ∃ es' clock', (Instr.mapUpdate 148 (.map (some bm)) (.int .i64 n) (.bool true)).run Tryz.prog w = .ok () (w.putObj bm (.map es' clock')) ∧ MapB (w.putObj bm (.map es' clock')) bm (fun m => g m || decide (m = n)) := by
  obtain ⟨R, h1, h2, h3⟩ := h
  obtain ⟨es', clock', g1, g2⟩ := h1.update intKeyed Tryz.underlying148 (keyInt hn) (.bool true)
  refine ⟨es', clock', g1, _, g2, fun k v hk => ?_, fun m hm => ?_⟩
  · rcases hk with ⟨rfl, rfl⟩ | ⟨hne, hk⟩
    · exact ⟨n, rfl, by simp⟩
    · obtain ⟨m, rfl, rfl⟩ := h2 _ _ hk
      have : m ≠ n := fun e => hne (by rw [e])
      exact ⟨m, rfl, by simp [this]⟩
  · by_cases e : m = n
    · subst e
      exact .inl ⟨rfl, by simp⟩
    · have hg : g m = true := by simpa [e] using hm
      refine .inr ⟨fun h => e (by injection h), ?_⟩
      have := h3 m hg
      rw [hg] at this
      simpa [hg] using this

/-- The two boxes that the conditions read: the holders so far, and their regions. -/
structure Hs (W : World) (bo br : Nat) (out : List Int) (g : Int → Bool) : Prop where
  o : ∃ vo, W.cell? ⟨bo, 0, none⟩ = some vo ∧ Its W vo out
  r : ∃ bm, W.cell? ⟨br, 0, none⟩ = some (.map (some bm)) ∧ MapB W bm g
theorem Hs.kept {W W' : World} {bo br : Nat} {out : List Int} {g : Int → Bool} (h : Hs W bo br out g) (k : Keep (fun _ => False) W W') : Hs W' bo br out g := by
  obtain ⟨⟨vo, h1, h2⟩, bm, h3, h4⟩ := h
  exact ⟨⟨vo, k.cell h1 (fun h => h), h2.kept k⟩, bm, k.cell h3 (fun h => h), h4.kept k⟩

set_option maxRecDepth 100000 in
theorem free_any {bo br : Nat} {out : List Int} {g : Int → Bool} (c : Cd) (w : World) (h : Hs w bo br out g) : Calls Tryz.prog 117 #[cdV c, ptr bo] w fun e w' => e = .returned (.bool (!hasI out c.m.node)) ∧ Keep (fun _ => False) w w' := by
  obtain ⟨⟨x, y, z⟩, u⟩ := c
  change Calls Tryz.prog 117 #[.agg #[.int .i64 x, .int .i64 y, .int .i64 z, .int .i64 u], ptr bo] w fun e w' => e = .returned (.bool (!hasI out x)) ∧ Keep (fun _ => False) w w'
  have HK : Hid (Keep (fun _ => False) w (w.alloc (.cells #[.int .i64 x, .int .i64 y, .int .i64 z, .int .i64 u] 150))) := Lib.hid ((Keep.refl _ w).alloc _)
  have HB := Lib.hid (four_cell w (.int .i64 x) (.int .i64 y) (.int .i64 z) (.int .i64 u) 150)
  obtain ⟨vo, h1, h2⟩ := (h.kept HK.out).o
  have HI := Lib.hid (contains_any vo out x _ h2)
  clear h h2
  generalize hasI out x = ct at *
  go_enter Tryz.func117, Tryz.ntmps117
  go_upto_region 1 with (fail)
  generalize w.alloc (.cells #[.int .i64 x, .int .i64 y, .int .i64 z, .int .i64 u] 150) = W at *
  obtain ⟨b0, -, -, -, -⟩ := HB.out
  go_wp2_with fail
  with_reducible refine HI.out.mono ?_
  rintro e w' ⟨rfl, rfl⟩
  go_wp2_with fail
  go_ret
  exact ⟨rfl, HK.out⟩
set_option maxRecDepth 100000 in
theorem away_any {bo br : Nat} {out : List Int} {g : Int → Bool} (c : Cd) (hc : I64 c.m.region) (w : World) (h : Hs w bo br out g) : Calls Tryz.prog 118 #[cdV c, ptr br] w fun e w' => e = .returned (.bool (!g c.m.region)) ∧ Keep (fun _ => False) w w' := by
  obtain ⟨⟨x, y, z⟩, u⟩ := c
  change Calls Tryz.prog 118 #[.agg #[.int .i64 x, .int .i64 y, .int .i64 z, .int .i64 u], ptr br] w fun e w' => e = .returned (.bool (!g y)) ∧ Keep (fun _ => False) w w'
  have HK : Hid (Keep (fun _ => False) w (w.alloc (.cells #[.int .i64 x, .int .i64 y, .int .i64 z, .int .i64 u] 150))) := Lib.hid ((Keep.refl _ w).alloc _)
  have HB := Lib.hid (four_cell w (.int .i64 x) (.int .i64 y) (.int .i64 z) (.int .i64 u) 150)
  obtain ⟨bm, h1, h2⟩ := (h.kept HK.out).r
  have hlook : (Instr.lookup 148 (.map (some bm)) (.int .i64 y) false).run Tryz.prog _ = _ := h2.look (n := y) hc
  clear h h2 hc
  generalize g y = gy at *
  go_enter Tryz.func118, Tryz.ntmps118
  go_upto_region 1 with (fail)
  generalize w.alloc (.cells #[.int .i64 x, .int .i64 y, .int .i64 z, .int .i64 u] 150) = W at *
  obtain ⟨-, b1, -, -, -⟩ := HB.out
  go_wp2_with fail
  go_ret
  exact ⟨rfl, HK.out⟩

/-- Conditions as values. -/
abbrev condV (bo br : Nat) (b : Bool) : Value := match b with
  | true => .func (.func 117) #[] #[ptr bo]
  | false => .func (.func 118) #[] #[ptr br]
def condB (out : List Int) (g : Int → Bool) (b : Bool) (m : Mb) : Bool := match b with
  | true => !hasI out m.node
  | false => !g m.region
/-- A candidate in a box. -/
def CdAt (W : World) (bc : Nat) (c : Cd) : Prop := W.cell? ⟨bc, 0, none⟩ = some (.int .i64 c.m.node) ∧ W.cell? ⟨bc, 1, none⟩ = some (.int .i64 c.m.region) ∧ W.cell? ⟨bc, 2, none⟩ = some (.int .i64 c.m.weight) ∧ W.cell? ⟨bc, 3, none⟩ = some (.int .i64 c.rank)
theorem CdAt.kept {W W' : World} {bc : Nat} {c : Cd} (h : CdAt W bc c) (k : Keep (fun _ => False) W W') : CdAt W' bc c := ⟨k.cell h.1 (fun h => h), k.cell h.2.1 (fun h => h), k.cell h.2.2.1 (fun h => h), k.cell h.2.2.2 (fun h => h)⟩

set_option maxRecDepth 100000 in
theorem first1_any {bo br bc : Nat} {out : List Int} {g : Int → Bool} (b : Bool) (c : Cd) (hc : I64 c.m.region) (w : World) (h : Hs w bo br out g) (hb : CdAt w bc c) : Calls Tryz.prog 139 #[condV bo br b, ptr bc] w fun e w' => e = .returned (.bool (!condB out g b c.m)) ∧ Keep (fun _ => False) w w' := by
  have HF := Lib.hid (free_any c w h)
  have HA := Lib.hid (away_any c hc w h)
  obtain ⟨⟨x, y, z⟩, u⟩ := c
  obtain ⟨b0, b1, b2, b3⟩ := hb
  simp only [] at b0 b1 b2 b3
  clear h hc
  cases b with
  | true =>
    have hcb : condB out g true ⟨x, y, z⟩ = !hasI out x := rfl
    have HF2 : Hid (Calls Tryz.prog 117 #[.agg #[.int .i64 x, .int .i64 y, .int .i64 z, .int .i64 u], ptr bo] w fun e w' => e = .returned (.bool (condB out g true ⟨x, y, z⟩)) ∧ Keep (fun _ => False) w w') := HF
    clear HF HA hcb
    simp only []
    generalize condB out g true ⟨x, y, z⟩ = ct at *
    go_enter Tryz.func139, Tryz.ntmps139
    go_wp2_with fail
    refine HF2.out.mono ?_
    rintro e w' ⟨rfl, k⟩
    have HK := Lib.hid k
    clear k
    go_wp2_with fail
    go_ret
    exact ⟨rfl, HK.out⟩
  | false =>
    have HA2 : Hid (Calls Tryz.prog 118 #[.agg #[.int .i64 x, .int .i64 y, .int .i64 z, .int .i64 u], ptr br] w fun e w' => e = .returned (.bool (condB out g false ⟨x, y, z⟩)) ∧ Keep (fun _ => False) w w') := HA
    clear HF HA
    simp only []
    generalize condB out g false ⟨x, y, z⟩ = ct at *
    go_enter Tryz.func139, Tryz.ntmps139
    go_wp2_with fail
    refine HA2.out.mono ?_
    rintro e w' ⟨rfl, k⟩
    have HK := Lib.hid k
    clear k
    go_wp2_with fail
    go_ret
    exact ⟨rfl, HK.out⟩
end Go.Proofs.YtplkmbfeeegaiaaGreatDoor

/-
  The first candidate that meets all conditions.
-/
namespace Go.Proofs.YtplkmbfeeegaiaaGreatDoor
open Go.RowKit Go.Shelf

/-- Conditions in a slice. -/
def Cnds (W : World) (v : Value) (bo br : Nat) (cs : List Bool) : Prop := ∃ b c, v = .slice (some ⟨b, 0, none⟩) cs.length c ∧ cs.length ≤ c ∧ ∀ j x, cs[j]? = some x → W.cell? ⟨b, j, none⟩ = some (condV bo br x)
theorem Cnds.kept {W W' : World} {v : Value} {bo br : Nat} {cs : List Bool} (h : Cnds W v bo br cs) (k : Keep (fun _ => False) W W') : Cnds W' v bo br cs := by
  obtain ⟨b, c, rfl, hc, h1⟩ := h
  exact ⟨b, c, rfl, hc, fun j x hj => k.cell (h1 j x hj) (fun h => h)⟩

set_option maxRecDepth 100000 in
set_option maxHeartbeats 1000000 in
theorem indexC_any {bo br bc : Nat} {out : List Int} {g : Int → Bool} (v : Value) (cs : List Bool) (cd : Cd) (hcd : I64 cd.m.region) (w : World) (h : Hs w bo br out g) (hb : CdAt w bc cd) (hv : Cnds w v bo br cs) (hl : cs.length ≤ 10) : Calls Tryz.prog 170 #[v, .func (.func 139) #[] #[ptr bc]] w fun e w' => (∃ r : Int, e = .returned (.int .i64 r) ∧ IdxC (!cs.all (fun b => condB out g b cd.m)) r) ∧ Keep (fun _ => False) w w' := by
  obtain ⟨bb, c, rfl, hc, hcell⟩ := hv
  have HC := Lib.hid hcell
  have HH := Lib.hid h
  have HB := Lib.hid hb
  have HF : Hid (∀ (b : Bool) (wr : World), Keep (fun _ => False) w wr → Calls Tryz.prog 139 #[condV bo br b, ptr bc] wr fun e w' => e = .returned (.bool (!condB out g b cd.m)) ∧ Keep (fun _ => False) wr w') := Lib.hid (fun b wr k => first1_any b cd hcd wr (h.kept k) (hb.kept k))
  clear hcell h hb hcd
  obtain ⟨ln, hn'⟩ : ∃ n, cs.length = n := ⟨_, rfl⟩
  have HL := Lib.hid hn'
  rw [hn'] at hc hl ⊢
  clear hn'
  go_enter Tryz.func170, Tryz.ntmps170
  go_wp2_with fail
  go_loopg [8] ln (fun gh v wr => ∃ k : Nat, gh + k = ln ∧ v = .int .i64 k ∧ Hid (∀ j b, j < k → cs[j]? = some b → condB out g b cd.m = true) ∧ Keep (fun _ => False) w wr)
  case atStart => exact ⟨0, by omega, rfl, Lib.hid (fun j m h => by omega), Keep.refl _ _⟩
  case round =>
    obtain ⟨k, hk, rfl, HN, hkeep⟩ := hrel
    have HK := Lib.hid hkeep
    clear hkeep
    by_cases hlt : k < ln
    · obtain ⟨b, hm⟩ : ∃ b, cs[k]? = some b := ⟨_, List.getElem?_eq_getElem (by have := HL.out; omega)⟩
      have c0 := HK.out.cell (HC.out k b hm) (fun h => h)
      have HM := Lib.hid hm
      have hkz : (k : Int) < (ln : Int) := by omega
      have hk0 : (0 : Int) ≤ (k : Int) := by omega
      have HIS := Lib.hid (HF.out b wr HK.out)
      clear hm
      generalize condV bo br b = cv at *
      go_wp2_with fail
      clear c0
      refine HIS.out.mono ?_
      rintro e W2 ⟨rfl, k2⟩
      have HK2 := Lib.hid (HK.out.trans k2)
      clear k2 HIS
      cases hx : condB out g b cd.m with
      | false =>
        simp only [Bool.not_false]
        have HA : Hid ((!cs.all (fun b => condB out g b cd.m)) = true) := Lib.hid (by
          rw [Bool.not_eq_true']
          rw [← Bool.not_eq_true, List.all_eq_true]
          intro h
          have := h b (List.mem_of_getElem? HM.out)
          rw [hx] at this
          cases this)
        go_wp2_with fail
        go_ret
        exact ⟨⟨_, rfl, by unfold IdxC; rw [HA.out]; exact decide_eq_true (by omega)⟩, HK2.out⟩
      | true =>
        simp only [Bool.not_true]
        have HNN : Hid (∀ j b, j < k + 1 → cs[j]? = some b → condB out g b cd.m = true) := Lib.hid (fun j m hj hm => by
          by_cases e : j = k
          · subst e
            rw [HM.out] at hm
            cases hm
            exact hx
          · exact HN.out j m (by omega) hm)
        go_wp2_with fail
        go_roundg (gk - 1)
        case rel => exact ⟨k + 1, by omega, by go_num, HNN, HK2.out⟩
        case measure => omega
    · have hkz : ¬ (k : Int) < (ln : Int) := by omega
      have HA : Hid ((!cs.all (fun b => condB out g b cd.m)) = false) := Lib.hid (by
        rw [Bool.not_eq_false', List.all_eq_true]
        intro b hb
        obtain ⟨j, hj⟩ := List.mem_iff_getElem?.1 hb
        exact HN.out j b (by have := (List.getElem?_eq_some_iff.1 hj).1; have := HL.out; omega) hj)
      go_wp2_with fail
      go_ret
      exact ⟨⟨-1, rfl, by unfold IdxC; rw [HA.out]; rfl⟩, HK.out⟩
set_option maxRecDepth 100000 in
theorem containsC_any {bo br bc : Nat} {out : List Int} {g : Int → Bool} (v : Value) (cs : List Bool) (cd : Cd) (hcd : I64 cd.m.region) (w : World) (h : Hs w bo br out g) (hb : CdAt w bc cd) (hv : Cnds w v bo br cs) (hl : cs.length ≤ 10) : Calls Tryz.prog 138 #[v, .func (.func 139) #[] #[ptr bc]] w fun e w' => e = .returned (.bool (!cs.all (fun b => condB out g b cd.m))) ∧ Keep (fun _ => False) w w' := by
  have HI := Lib.hid (indexC_any v cs cd hcd w h hb hv hl)
  clear h hb hv hl hcd
  go_enter Tryz.func138, Tryz.ntmps138
  go_wp2_with fail
  with_reducible refine HI.out.mono ?_
  rintro e W1 ⟨⟨r, rfl, hr⟩, k⟩
  have HK := Lib.hid k
  have HR := Lib.hid hr
  clear k hr
  go_wp2_with fail
  go_ret
  exact ⟨by have := HR.out; unfold IdxC at this; rw [← this] <;> rfl, HK.out⟩

/-- Candidates in a slice. -/
structure Cds (W : World) (v : Value) (l : List Cd) : Prop where
  n : l.length ≤ 1000000
  bd : ∀ x ∈ l, I64 x.m.region
  at_ : ∃ a c b off, v = .slice a l.length c ∧ l.length ≤ c ∧ (0 < l.length → a = some ⟨b, off, none⟩) ∧ ∀ j x, l[j]? = some x → W.cell? ⟨b, off + j * 4, none⟩ = some (.int .i64 x.m.node) ∧ W.cell? ⟨b, off + j * 4 + 1, none⟩ = some (.int .i64 x.m.region) ∧ W.cell? ⟨b, off + j * 4 + 2, none⟩ = some (.int .i64 x.m.weight) ∧ W.cell? ⟨b, off + j * 4 + 3, none⟩ = some (.int .i64 x.rank)
theorem Cds.keep {W W' : World} {A : Nat → Prop} {v : Value} {l : List Cd} (h : Cds W v l) (k : Keep A W W') (hA : ∀ b, v.ownBlock = some b → ¬ A b) : Cds W' v l := by
  obtain ⟨a, c, b, off, rfl, hc, ha, h1⟩ := h.at_
  refine ⟨h.n, h.bd, a, c, b, off, rfl, hc, ha, fun j x hj => ?_⟩
  have hp : 0 < l.length := by have := (List.getElem?_eq_some_iff.1 hj).1; omega
  have hb := hA b (by rw [ha hp]; rfl)
  exact ⟨k.cell (h1 j x hj).1 hb, k.cell (h1 j x hj).2.1 hb, k.cell (h1 j x hj).2.2.1 hb, k.cell (h1 j x hj).2.2.2 hb⟩
theorem Cds.kept {W W' : World} {v : Value} {l : List Cd} (h : Cds W v l) (k : Keep (fun _ => False) W W') : Cds W' v l := h.keep k (fun _ _ h => h)

def FirstPost (w : World) (o : Option Cd) (e : Ending) (w' : World) : Prop := ∃ v, e = .returned (.tuple #[v, .bool o.isSome]) ∧ (∀ x, o = some x → v = cdV x) ∧ (∃ a b c d, v = cdV ⟨⟨a, b, c⟩, d⟩) ∧ Keep (fun _ => False) w w'

set_option maxRecDepth 100000 in
set_option maxHeartbeats 2000000 in
theorem first_any {bo br : Nat} {out : List Int} {g : Int → Bool} (vl v : Value) (cs : List Bool) (l : List Cd) (w : World) (h : Hs w bo br out g) (hcd : Cds w vl l) (hv : Cnds w v bo br cs) (hl : cs.length ≤ 10) : Calls Tryz.prog 119 #[vl, v] w (FirstPost w (l.find? (fun c => cs.all (fun b => condB out g b c.m)))) := by
  obtain ⟨hn, hbd, a, cp, bb, off, rfl, hc, ha, hcell⟩ := hcd
  have HC := Lib.hid hcell
  have HA := Lib.hid ha
  have HBD := Lib.hid hbd
  have HH := Lib.hid h
  have HV := Lib.hid hv
  obtain ⟨p, hp⟩ : ∃ p : Cd → Bool, (fun c => cs.all (fun b => condB out g b c.m)) = p := ⟨_, rfl⟩
  have HF : Hid (∀ (wr : World) (bc : Nat) (x : Cd), Keep (fun _ => False) w wr → I64 x.m.region → CdAt wr bc x → Calls Tryz.prog 138 #[v, .func (.func 139) #[] #[ptr bc]] wr fun e w' => e = .returned (.bool (!p x)) ∧ Keep (fun _ => False) wr w') := Lib.hid (fun wr bc x k hx hb => by
    rw [← hp]
    exact containsC_any v cs x hx wr (h.kept k) hb (hv.kept k) hl)
  rw [hp]
  clear hp HV HH hv h hcell ha hbd hl
  obtain ⟨ln, hn'⟩ : ∃ n, l.length = n := ⟨_, rfl⟩
  have HL := Lib.hid hn'
  rw [hn'] at hc hn ⊢
  clear hn'
  obtain ⟨zb, hzb⟩ : ∃ z, w.heap.size = z := ⟨_, rfl⟩
  have HZ := Lib.hid hzb
  have HB0 := Lib.hid (four_cell w (.int .i64 0) (.int .i64 0) (.int .i64 0) (.int .i64 0) 150)
  have HK0 : Hid (Keep (fun _ => False) w (w.alloc (.cells #[.int .i64 0, .int .i64 0, .int .i64 0, .int .i64 0] 150))) := Lib.hid ((Keep.refl _ w).alloc _)
  rw [hzb] at HB0
  go_enter Tryz.func119, Tryz.ntmps119
  go_upto_region 1 with (fail)
  try rw [hzb]
  clear hzb
  generalize w.alloc (.cells #[.int .i64 0, .int .i64 0, .int .i64 0, .int .i64 0] 150) = W0 at *
  go_wp2_with fail
  go_loopg [10] ln (fun gh v wr => ∃ k : Nat, gh + k = ln ∧ v = .int .i64 k ∧ Hid (∀ j x, j < k → l[j]? = some x → p x = false) ∧ Keep (fun _ => False) W0 wr)
  case atStart => exact ⟨0, by omega, rfl, Lib.hid (fun j m h => by omega), Keep.refl _ _⟩
  case round =>
    obtain ⟨k, hk, rfl, HN, hkeep⟩ := hrel
    have HK := Lib.hid hkeep
    have HKW := Lib.hid (HK0.out.trans hkeep)
    clear hkeep
    by_cases hlt : k < ln
    · obtain ⟨x, hm⟩ : ∃ x, l[k]? = some x := ⟨_, List.getElem?_eq_getElem (by have := HL.out; omega)⟩
      obtain rfl := HA.out (by have := HL.out; omega)
      obtain ⟨d0, d1, d2, d3⟩ := HC.out k x hm
      have c0 := HKW.out.cell d0 (fun h => h)
      have c1 := HKW.out.cell d1 (fun h => h)
      have c2 := HKW.out.cell d2 (fun h => h)
      have c3 := HKW.out.cell d3 (fun h => h)
      have HM := Lib.hid hm
      have HFX := Lib.hid (fun (wr : World) (bc : Nat) (k : Keep (fun _ => False) w wr) (hb : CdAt wr bc x) => HF.out wr bc x k (HBD.out x (List.mem_of_getElem? hm)) hb)
      have hkz : (k : Int) < (ln : Int) := by omega
      have hk0 : (0 : Int) ≤ (k : Int) := by omega
      clear hm d0 d1 d2 d3
      have HXC : Hid (∀ W bc, W.cell? ⟨bc, 0, none⟩ = some (.int .i64 x.m.node) → W.cell? ⟨bc, 1, none⟩ = some (.int .i64 x.m.region) → W.cell? ⟨bc, 2, none⟩ = some (.int .i64 x.m.weight) → W.cell? ⟨bc, 3, none⟩ = some (.int .i64 x.rank) → CdAt W bc x) := Lib.hid (fun W bc h0 h1 h2 h3 => ⟨h0, h1, h2, h3⟩)
      have HXE : Hid (cdV x = .agg #[.int .i64 x.m.node, .int .i64 x.m.region, .int .i64 x.m.weight, .int .i64 x.rank]) := Lib.hid rfl
      generalize x.m.node = x0 at *
      generalize x.m.region = x1 at *
      generalize x.m.weight = x2 at *
      generalize x.rank = x3 at *
      have HBX := Lib.hid (four_cell wr (.int .i64 x0) (.int .i64 x1) (.int .i64 x2) (.int .i64 x3) 150)
      have HKX : Hid (Keep (fun _ => False) wr (wr.alloc (.cells #[.int .i64 x0, .int .i64 x1, .int .i64 x2, .int .i64 x3] 150))) := Lib.hid ((Keep.refl _ wr).alloc _)
      have HSZ : Hid (zb < wr.heap.size) := Lib.hid (World.block_lt_of_cell? _ _ (HK.out.cell HB0.out.1 (fun h => h)))
      go_upto_region 4 with (fail)
      clear c0 c1 c2 c3
      generalize wr.alloc (.cells #[.int .i64 x0, .int .i64 x1, .int .i64 x2, .int .i64 x3] 150) = W1 at *
      generalize wr.heap.size = z1 at *
      go_wp2_with fail
      with_reducible refine (HFX.out _ z1 (HKW.out.trans HKX.out) (HXC.out _ _ HBX.out.1 HBX.out.2.1 HBX.out.2.2.1 HBX.out.2.2.2.1)).mono ?_
      rintro e W2 ⟨rfl, k2⟩
      have HK2 := Lib.hid (HK.out.trans (HKX.out.trans k2))
      have e0 := k2.cell HBX.out.1 (fun h => h)
      have e1 := k2.cell HBX.out.2.1 (fun h => h)
      have e2 := k2.cell HBX.out.2.2.1 (fun h => h)
      have e3 := k2.cell HBX.out.2.2.2.1 (fun h => h)
      have z0 := HK2.out.cell HB0.out.1 (fun h => h)
      have zz1 := HK2.out.cell HB0.out.2.1 (fun h => h)
      have zz2 := HK2.out.cell HB0.out.2.2.1 (fun h => h)
      have zz3 := HK2.out.cell HB0.out.2.2.2.1 (fun h => h)
      have zf : ∀ o, W2.frozen? ⟨zb, o, none⟩ = false := fun o => (HK2.out.frozen (World.block_lt_of_cell? _ _ HB0.out.1) (fun h => h) o).trans (HB0.out.2.2.2.2 o)
      clear k2
      cases hx : p x with
      | true =>
        have HR : Hid (l.find? p = some x) := Lib.hid (by
          rw [List.find?_eq_some_iff_getElem]
          refine ⟨hx, k, by have := HL.out; omega, ?_, fun j hj => ?_⟩
          · have := HM.out; rw [List.getElem?_eq_getElem (by have := HL.out; omega)] at this; exact Option.some.inj this
          · rw [HN.out j _ hj (List.getElem?_eq_getElem (by have := HL.out; omega))]; rfl)
        simp only [Bool.not_true]
        have HKF : Hid (∀ V, Keep (fun j => j = zb) W2 V → Keep (fun _ => False) w V) := Lib.hid (fun V kv => (HK0.out.trans HK2.out).trans' kv (fun j e => .inr (by have := HZ.out; omega)))
        have HN4 : Hid (((((W2.setCell ⟨zb, 0, none⟩ (.int .i64 x0)).setCell ⟨zb, 1, none⟩ (.int .i64 x1)).setCell ⟨zb, 2, none⟩ (.int .i64 x2)).setCell ⟨zb, 3, none⟩ (.int .i64 x3)).cell? ⟨zb, 0, none⟩ = some (.int .i64 x0) ∧ ((((W2.setCell ⟨zb, 0, none⟩ (.int .i64 x0)).setCell ⟨zb, 1, none⟩ (.int .i64 x1)).setCell ⟨zb, 2, none⟩ (.int .i64 x2)).setCell ⟨zb, 3, none⟩ (.int .i64 x3)).cell? ⟨zb, 1, none⟩ = some (.int .i64 x1) ∧ ((((W2.setCell ⟨zb, 0, none⟩ (.int .i64 x0)).setCell ⟨zb, 1, none⟩ (.int .i64 x1)).setCell ⟨zb, 2, none⟩ (.int .i64 x2)).setCell ⟨zb, 3, none⟩ (.int .i64 x3)).cell? ⟨zb, 2, none⟩ = some (.int .i64 x2) ∧ ((((W2.setCell ⟨zb, 0, none⟩ (.int .i64 x0)).setCell ⟨zb, 1, none⟩ (.int .i64 x1)).setCell ⟨zb, 2, none⟩ (.int .i64 x2)).setCell ⟨zb, 3, none⟩ (.int .i64 x3)).cell? ⟨zb, 3, none⟩ = some (.int .i64 x3)) := Lib.hid (by
          refine ⟨?_, ?_, ?_, ?_⟩
          · rw [cell_set_off (by decide), cell_set_off (by decide), cell_set_off (by decide)]; exact cell_set_same z0
          · rw [cell_set_off (by decide), cell_set_off (by decide)]; exact cell_set_same (by rw [cell_set_off (by decide)]; exact zz1)
          · rw [cell_set_off (by decide)]; exact cell_set_same (by rw [cell_set_off (by decide), cell_set_off (by decide)]; exact zz2)
          · exact cell_set_same (by rw [cell_set_off (by decide), cell_set_off (by decide), cell_set_off (by decide)]; exact zz3))
        have HKS : Hid (Keep (fun j => j = zb) W2 ((((W2.setCell ⟨zb, 0, none⟩ (.int .i64 x0)).setCell ⟨zb, 1, none⟩ (.int .i64 x1)).setCell ⟨zb, 2, none⟩ (.int .i64 x2)).setCell ⟨zb, 3, none⟩ (.int .i64 x3))) := Lib.hid (((((Keep.refl (fun j => j = zb) W2).setCell (p := ⟨zb, 0, none⟩) _ (.inl rfl)).setCell (p := ⟨zb, 1, none⟩) _ (.inl rfl)).setCell (p := ⟨zb, 2, none⟩) _ (.inl rfl)).setCell (p := ⟨zb, 3, none⟩) _ (.inl rfl))
        go_wp2_with fail
        generalize (((W2.setCell ⟨zb, 0, none⟩ (.int .i64 x0)).setCell ⟨zb, 1, none⟩ (.int .i64 x1)).setCell ⟨zb, 2, none⟩ (.int .i64 x2)).setCell ⟨zb, 3, none⟩ (.int .i64 x3) = W3 at *
        obtain ⟨g0, g1, g2, g3⟩ := HN4.out
        refine bodyPost_ret (v := .tuple #[.agg #[.int .i64 x0, .int .i64 x1, .int .i64 x2, .int .i64 x3], .bool true]) (by simp [results, Tryz.results119, go_sem, g0, g1, g2, g3]) rfl ?_
        exact ⟨cdV ⟨⟨x0, x1, x2⟩, x3⟩, by rw [HR.out]; rfl, fun y hy => by rw [HR.out] at hy; cases hy; exact HXE.out.symm, ⟨x0, x1, x2, x3, rfl⟩, HKF.out _ HKS.out⟩
      | false =>
        simp only [Bool.not_false]
        have HNN : Hid (∀ j x, j < k + 1 → l[j]? = some x → p x = false) := Lib.hid (fun j y hj hm => by
          by_cases e : j = k
          · subst e
            rw [HM.out] at hm
            cases hm
            exact hx
          · exact HN.out j y (by omega) hm)
        clear e0 e1 e2 e3 z0 zz1 zz2 zz3 zf
        go_wp2_with fail
        go_roundg (gk - 1)
        case rel => exact ⟨k + 1, by omega, by go_num, HNN, HK2.out⟩
        case measure => omega
    · have hkz : ¬ (k : Int) < (ln : Int) := by omega
      have HR : Hid (l.find? p = none) := Lib.hid (by
        rw [List.find?_eq_none]
        intro y hy
        obtain ⟨j, hj⟩ := List.mem_iff_getElem?.1 hy
        rw [HN.out j y (by have := (List.getElem?_eq_some_iff.1 hj).1; have := HL.out; omega) hj]
        decide)
      have z0 := HK.out.cell HB0.out.1 (fun h => h)
      have zz1 := HK.out.cell HB0.out.2.1 (fun h => h)
      have zz2 := HK.out.cell HB0.out.2.2.1 (fun h => h)
      have zz3 := HK.out.cell HB0.out.2.2.2.1 (fun h => h)
      have zf : ∀ o, wr.frozen? ⟨zb, o, none⟩ = false := fun o => (HK.out.frozen (World.block_lt_of_cell? _ _ HB0.out.1) (fun h => h) o).trans (HB0.out.2.2.2.2 o)
      have HKF : Hid (∀ V, Keep (fun j => j = zb) wr V → Keep (fun _ => False) w V) := Lib.hid (fun V kv => HKW.out.trans' kv (fun j e => .inr (by have := HZ.out; omega)))
      have HN4 : Hid (((((wr.setCell ⟨zb, 0, none⟩ (.int .i64 0)).setCell ⟨zb, 1, none⟩ (.int .i64 0)).setCell ⟨zb, 2, none⟩ (.int .i64 0)).setCell ⟨zb, 3, none⟩ (.int .i64 0)).cell? ⟨zb, 0, none⟩ = some (.int .i64 0) ∧ ((((wr.setCell ⟨zb, 0, none⟩ (.int .i64 0)).setCell ⟨zb, 1, none⟩ (.int .i64 0)).setCell ⟨zb, 2, none⟩ (.int .i64 0)).setCell ⟨zb, 3, none⟩ (.int .i64 0)).cell? ⟨zb, 1, none⟩ = some (.int .i64 0) ∧ ((((wr.setCell ⟨zb, 0, none⟩ (.int .i64 0)).setCell ⟨zb, 1, none⟩ (.int .i64 0)).setCell ⟨zb, 2, none⟩ (.int .i64 0)).setCell ⟨zb, 3, none⟩ (.int .i64 0)).cell? ⟨zb, 2, none⟩ = some (.int .i64 0) ∧ ((((wr.setCell ⟨zb, 0, none⟩ (.int .i64 0)).setCell ⟨zb, 1, none⟩ (.int .i64 0)).setCell ⟨zb, 2, none⟩ (.int .i64 0)).setCell ⟨zb, 3, none⟩ (.int .i64 0)).cell? ⟨zb, 3, none⟩ = some (.int .i64 0)) := Lib.hid (by
        refine ⟨?_, ?_, ?_, ?_⟩
        · rw [cell_set_off (by decide), cell_set_off (by decide), cell_set_off (by decide)]; exact cell_set_same z0
        · rw [cell_set_off (by decide), cell_set_off (by decide)]; exact cell_set_same (by rw [cell_set_off (by decide)]; exact zz1)
        · rw [cell_set_off (by decide)]; exact cell_set_same (by rw [cell_set_off (by decide), cell_set_off (by decide)]; exact zz2)
        · exact cell_set_same (by rw [cell_set_off (by decide), cell_set_off (by decide), cell_set_off (by decide)]; exact zz3))
      have HKS : Hid (Keep (fun j => j = zb) wr ((((wr.setCell ⟨zb, 0, none⟩ (.int .i64 0)).setCell ⟨zb, 1, none⟩ (.int .i64 0)).setCell ⟨zb, 2, none⟩ (.int .i64 0)).setCell ⟨zb, 3, none⟩ (.int .i64 0))) := Lib.hid (((((Keep.refl (fun j => j = zb) wr).setCell (p := ⟨zb, 0, none⟩) _ (.inl rfl)).setCell (p := ⟨zb, 1, none⟩) _ (.inl rfl)).setCell (p := ⟨zb, 2, none⟩) _ (.inl rfl)).setCell (p := ⟨zb, 3, none⟩) _ (.inl rfl))
      go_wp2_with fail
      generalize (((wr.setCell ⟨zb, 0, none⟩ (.int .i64 0)).setCell ⟨zb, 1, none⟩ (.int .i64 0)).setCell ⟨zb, 2, none⟩ (.int .i64 0)).setCell ⟨zb, 3, none⟩ (.int .i64 0) = W3 at *
      obtain ⟨g0, g1, g2, g3⟩ := HN4.out
      refine bodyPost_ret (v := .tuple #[.agg #[.int .i64 0, .int .i64 0, .int .i64 0, .int .i64 0], .bool false]) (by simp [results, Tryz.results119, go_sem, g0, g1, g2, g3]) rfl ?_
      exact ⟨cdV ⟨⟨0, 0, 0⟩, 0⟩, by rw [HR.out]; rfl, (by rw [HR.out]; intro y hy; cases hy), ⟨0, 0, 0, 0, rfl⟩, HKF.out _ HKS.out⟩
end Go.Proofs.YtplkmbfeeegaiaaGreatDoor

/-
  copy within a row that the call itself made, elements of k cells.
-/
namespace Go.Proofs.YtplkmbfeeegaiaaGreatDoor
open Go.RowKit

theorem run_copy_zero {P : Program} (w : World) (dT sT ty elem : TypeId) (k : Nat) (dp sp : Option Addr) (dLen dCap sLen sCap : Nat) (hu : P.underlying dT = some (.slice elem)) (hs : (P.info? elem).map (·.size) = some k) (hn : Nat.min sLen dLen = 0) :
    (Builtin.copy_ #[dT, sT] ty #[.slice dp dLen dCap, .slice sp sLen sCap]).run P w = .ok (goInt 0) w := by
  cases hq : P.info? elem with
  | none => simp [hq] at hs
  | some i =>
    have hl : ∀ a : Addr, (loadCells a 0).run P w = .ok #[] w := fun a => run_loadCells_list (P := P) w a [] (fun j v hj => by simp at hj)
    cases sp with
    | none =>
      cases dp <;> simp [Builtin.copy_, run_underlying hu, Builtin.lenOf, Builtin.firstCells, sizeOf, typeInfo, hq, hn, storeCells]
    | some a =>
      cases dp <;> simp [Builtin.copy_, run_underlying hu, Builtin.lenOf, Builtin.firstCells, sizeOf, typeInfo, hq, hn, storeCells, hl]
theorem run_copy_k {P : Program} (w : World) (dT sT ty elem : TypeId) (k g o dLen dCap : Nat) (a : Addr) (sLen sCap : Nat) (cur : Array Value) (t : TypeId) (cs : List Value) (m : Nat)
    (hu : P.underlying dT = some (.slice elem)) (hs : (P.info? elem).map (·.size) = some k)
    (hg : w.heap[g]? = some (.cells cur t (0, 0))) (hn : Nat.min sLen dLen = m) (hc : cs.length = m * k)
    (hsrc : ∀ j v, cs[j]? = some v → w.cell? (a.add j) = some v) (hfit : o + cs.length ≤ cur.size) (h1 : ∀ v ∈ cs, v.oneCell' = true) :
    (Builtin.copy_ #[dT, sT] ty #[.slice (some ⟨g, o, none⟩) dLen dCap, .slice (some a) sLen sCap]).run P w =
      .ok (goInt m) (w.setRow g (cur.toList.take o ++ cs ++ cur.toList.drop (o + cs.length)).toArray) := by
  have hl := run_loadCells_list (P := P) w a cs hsrc
  have hst := run_storeCells_at P g o t cs 0 cur w hg (by simpa using hfit) h1
  cases hq : P.info? elem with
  | none => simp [hq] at hs
  | some i =>
    have hi : i.size = k := by simpa [hq] using hs
    simp [Builtin.copy_, run_underlying hu, Builtin.lenOf, Builtin.firstCells, sizeOf, typeInfo, hq, hi, hn, ← hc, hl, hst]
theorem Keep.setRow (w : World) (g : Nat) (cs : Array Value) : Keep (fun j => j = g) w (w.setRow g cs) :=
  ⟨rfl, rfl, rfl, by simp [World.setRow], fun k _ hk => setRow_other w g k cs (fun e => hk e)⟩
theorem copy_within {P : Program} {W : World} {base : Nat} {e : TypeId} {k g cap n : Nat} {xs : List Value} (h : W.ownsRow base e k (.slice (some ⟨g, 0, none⟩) n cap) n xs) (h1 : ∀ u ∈ xs, u.oneCell' = true)
    (dT sT ty elem : TypeId) (hu : P.underlying dT = some (.slice elem)) (hs : (P.info? elem).map (·.size) = some k)
    (dp sp : Option Addr) (dLen dCap sLen sCap o so m : Nat) (hm : Nat.min sLen dLen = m) (hpos : 0 < m → dp = some ⟨g, o, none⟩ ∧ sp = some ⟨g, so, none⟩) (ho : o + m * k ≤ n * k) (hso : so + m * k ≤ n * k) :
    ∃ W', (Builtin.copy_ #[dT, sT] ty #[.slice dp dLen dCap, .slice sp sLen sCap]).run P W = .ok (goInt m) W' ∧ W'.ownsRow base e k (.slice (some ⟨g, 0, none⟩) n cap) n (xs.take o ++ ((xs.drop so).take (m * k) ++ xs.drop (o + m * k))) ∧ Keep (fun j => j = g) W W' := by
  have h' := h
  obtain ⟨hlen, hrow⟩ := h
  rcases hrow with ⟨e0, _⟩ | ⟨g', cap', cur, e0, hb, hg, hn, hmax, hcur, htake⟩
  · cases e0
  · cases e0
    by_cases h0 : m = 0
    · subst h0
      refine ⟨W, run_copy_zero W dT sT ty elem k dp sp dLen dCap sLen sCap hu hs hm, ?_, Keep.refl _ W⟩
      simpa using h'
    · obtain ⟨rfl, rfl⟩ := hpos (by omega)
      have hcl : ((xs.drop so).take (m * k)).length = m * k := by rw [List.length_take, List.length_drop]; omega
      have hnc : n * k ≤ cap * k := Nat.mul_le_mul_right k hn
      have hfull : cur.toList = xs ++ cur.toList.drop (n * k) := by rw [← htake, List.take_append_drop]
      refine ⟨_, run_copy_k W dT sT ty elem k g o dLen dCap ⟨g, so, none⟩ sLen sCap cur e ((xs.drop so).take (m * k)) m hu hs hg hm hcl (fun j v hj => ?_) (by rw [hcl]; omega) (fun v hv => h1 v (List.mem_of_mem_drop (List.mem_of_mem_take hv))), ?_, Keep.setRow W g _⟩
      · have hj1 : j < m * k := by have := (List.getElem?_eq_some_iff.1 hj).1; omega
        rw [List.getElem?_take_of_lt hj1, List.getElem?_drop] at hj
        rw [Addr.add_lit, h'.cellAt (so + j) (by omega)]
        exact hj
      · refine ⟨by simp only [List.length_append, List.length_take, List.length_drop]; omega, .inr ⟨g, cap, _, rfl, hb, setRow_heap W g cur _ e _ hg, hn, hmax, ?_, ?_⟩⟩
        · simp only [List.size_toArray, List.length_append, List.length_take, List.length_drop, Array.length_toList]
          omega
        · rw [hcl]
          show List.take (n * k) (cur.toList.take o ++ (xs.drop so).take (m * k) ++ cur.toList.drop (o + m * k)) = _
          generalize (xs.drop so).take (m * k) = cs at *
          generalize cur.toList.drop (n * k) = D at hfull
          have e1 : (xs ++ D).take o = xs.take o := List.take_append_of_le_length (by omega)
          have e2 : (xs ++ D).drop (o + m * k) = xs.drop (o + m * k) ++ D := List.drop_append_of_le_length (by omega)
          rw [hfull, e1, e2]
          have e : xs.take o ++ cs ++ (xs.drop (o + m * k) ++ D) = (xs.take o ++ (cs ++ xs.drop (o + m * k))) ++ D := by simp
          rw [e, List.take_append_of_le_length (by simp only [List.length_append, List.length_take, List.length_drop]; omega)]
          exact List.take_of_length_le (by simp only [List.length_append, List.length_take, List.length_drop]; omega)
end Go.Proofs.YtplkmbfeeegaiaaGreatDoor
