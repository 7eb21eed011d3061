/-
  Several texts in one, each under its own heading below (merged by a program of ours): the contracts of the functions that the law reaches, part 5 of 5.
-/
import Derived.Test.YtplkmbfeeegaiaaDoorM1
import Derived.Test.YtplkmbfeeegaiaaDoorM2
import Derived.Test.YtplkmbfeeegaiaaDoorM3
import Derived.Test.YtplkmbfeeegaiaaDoorM4
import Derived.Test.YtplkmbfeeegaiaaDoorRows
import Derived.Test.YtplkmbfeeegaiaaDoorTie
import Derived.Test.YtplkmbfeeegaiaaDoorCards
import Derived.Lib.LaidTab
import Derived.Stop.LaidErr
import Derived.SizedLaws
import Derived.Deep.Slices
import Derived.ChangeSame
import Derived.ProofKit
import Derived.OpenShut
import Derived.LaidMore
import Derived.Stop.Joined
import Derived.SevenTiedAt
import Derived.Deep.Fields
import Derived.Lib.SmallJoins

/-
  The law's pick, the reference's With.
-/
namespace Go.Proofs.YtplkmbfeeegaiaaDoor
open Go.RowKit Go.Shelf

set_option maxRecDepth 100000 in
set_option maxHeartbeats 400000 in
theorem pick13_any (c n : Int) (w : World) (hc : I64 c) (hn : 1 ≤ n ∧ n ≤ 9223372036854775807) : Calls Tryd.prog 45 #[.int .i64 c, .int .i64 n] w fun e w' => e = .returned (.int .i64 (pk c n)) ∧ w = w' := by
  unfold I64 at hc
  by_cases h : c < 0
  · have HP : Hid (pk c n = (-(c + 1)) % n) := Lib.hid (by unfold pk; rw [if_pos h])
    have h0 : 0 ≤ -(c + 1) := by omega
    have h1 : -(c + 1) ≤ 9223372036854775807 := by omega
    go_enter Tryd.func45, Tryd.ntmps45
    go_wp2
    go_ret
    refine ⟨?_, rfl⟩
    show Ending.returned (.int .i64 (-(c + 1).tmod n)) = _
    rw [HP.out, ← Int.neg_tmod, Int.tmod_eq_emod_of_nonneg (by omega)]
  · have HP : Hid (pk c n = c % n) := Lib.hid (by unfold pk; rw [if_neg h])
    go_enter Tryd.func45, Tryd.ntmps45
    go_wp2
    go_ret
    exact ⟨by rw [HP.out]; rfl, rfl⟩

/-- With, k members read. -/
def anyHi (l : List Mb) (m : Mb) : Bool := l.any (fun x => decide (m.node < x.node))
def withL (l : List Mb) (m : Mb) : List Mb := if anyHi l m then moreM l m else l
theorem moreM_hi {l : List Mb} {m x : Mb} (h : m.node < x.node) : moreM (l ++ [x]) m = moreM l m ++ [x] := by
  unfold moreM loM hiM
  rw [List.filter_append, List.filter_append, List.filter_cons_of_neg (by simp; omega), List.filter_cons_of_pos (by simpa using h)]
  simp
theorem moreM_lo {l : List Mb} {m : Mb} (h : ∀ x ∈ l, x.node < m.node) : moreM l m = l ++ [m] := by
  unfold moreM loM hiM
  rw [List.filter_eq_self.2 (fun x hx => by simpa using h x hx), List.filter_eq_nil_iff.2 (fun x hx => by have := h x hx; simp; omega)]
theorem anyHi_snoc (l : List Mb) (m x : Mb) : anyHi (l ++ [x]) m = (anyHi l m || decide (m.node < x.node)) := by
  unfold anyHi
  simp
theorem anyHi_false {l : List Mb} {m : Mb} (h : anyHi l m = false) (hm : ∀ x ∈ l, x.node ≠ m.node) : ∀ x ∈ l, x.node < m.node := fun x hx => by
  have h1 := List.any_eq_false.1 h x hx
  have h2 := hm x hx
  simp only [decide_eq_true_eq] at h1
  omega
theorem withL_done {l : List Mb} {m x : Mb} (h : anyHi l m = true) (hx : m.node < x.node) : withL (l ++ [x]) m = withL l m ++ [x] := by
  unfold withL
  rw [anyHi_snoc, h, Bool.true_or, if_pos rfl, if_pos rfl, moreM_hi hx]
theorem withL_here {l : List Mb} {m x : Mb} (h : anyHi l m = false) (hm : ∀ x ∈ l, x.node ≠ m.node) (hx : m.node < x.node) : withL (l ++ [x]) m = withL l m ++ [m] ++ [x] := by
  unfold withL
  rw [anyHi_snoc, h, Bool.false_or, if_pos (by simpa using hx), if_neg (by simp), moreM_hi hx, moreM_lo (anyHi_false h hm)]
theorem withL_lo {l : List Mb} {m x : Mb} (h : anyHi l m = false) (hx : ¬ m.node < x.node) : withL (l ++ [x]) m = withL l m ++ [x] := by
  unfold withL
  rw [anyHi_snoc, h, Bool.false_or, if_neg (by simpa using hx), if_neg (by simp)]
theorem withL_len (l : List Mb) (m : Mb) (hs : l.Pairwise (fun a b => a.node < b.node)) (hm : ∀ x ∈ l, x.node ≠ m.node) : (withL l m).length ≤ l.length + 1 := by
  unfold withL
  split
  · rw [moreM_len hs hm]
    exact Nat.le_refl _
  · omega
theorem withL_end {l : List Mb} {m : Mb} (hm : ∀ x ∈ l, x.node ≠ m.node) : (if anyHi l m then withL l m else withL l m ++ [m]) = moreM l m := by
  by_cases h : anyHi l m = true
  · rw [if_pos h]
    unfold withL
    rw [if_pos h]
  · rw [if_neg h]
    have h' : anyHi l m = false := by simpa using h
    unfold withL
    rw [if_neg h, moreM_lo (anyHi_false h' hm)]
set_option maxRecDepth 100000 in
set_option maxHeartbeats 8000000 in
theorem with_any (v : Value) (l : List Mb) (m : Mb) (w : World) (h : Mbs w v l) (hs : l.Pairwise (fun a b => a.node < b.node)) (hm : ∀ x ∈ l, x.node ≠ m.node) (hl : l.length ≤ 1000) :
    Calls Tryd.prog 63 #[v, mbV m] w (OwnPost (moreM l m) w) := by
  obtain ⟨-, -, a, c, b, off, rfl, hc, ha, hcell⟩ := h
  obtain ⟨ln, hln⟩ : ∃ n, l.length = n := ⟨_, rfl⟩
  rw [hln] at hc ha hl ⊢
  have HC := Lib.hid hcell
  have HA := Lib.hid ha
  have HS := Lib.hid hs
  have HM := Lib.hid hm
  have HLN := Lib.hid hln
  clear hcell ha hs hm hln
  obtain ⟨m0, m1, m2⟩ := m
  have HX := Lib.hid (Box3.new w (.int .i64 m0) (.int .i64 m1) (.int .i64 m2) 25)
  have HK0 : Hid (Keep (fun _ => False) w (w.alloc (.cells #[.int .i64 m0, .int .i64 m1, .int .i64 m2] 25))) := Lib.hid ((Keep.refl _ w).alloc _)
  go_enter Tryd.func63, Tryd.ntmps63
  go_upto_region 4 with (fail)
  generalize w.alloc (.cells #[.int .i64 m0, .int .i64 m1, .int .i64 m2] 25) = W0 at *
  generalize hz : w.heap.size = z at HX ⊢
  have HZ := Lib.hid hz
  clear hz
  have HW0 : Hid (OwnB W0 (withL (l.take 0) ⟨m0, m1, m2⟩) (.slice none 0 0) W0) := Lib.hid (OwnB.nil (Keep.refl _ W0))
  go_loopg [5, 6, 7] ln (fun gh v5 v6 v7 wr => ∃ (k : Nat) (d : Bool), gh + k = ln ∧ v6 = .bool d ∧ v7 = .int .i64 k ∧ anyHi (l.take k) ⟨m0, m1, m2⟩ = d ∧ OwnB W0 (withL (l.take k) ⟨m0, m1, m2⟩) v5 wr)
  case atStart => exact ⟨0, false, by omega, rfl, rfl, rfl, HW0.out⟩
  case round =>
    obtain ⟨k, d, hk, rfl, rfl, hd, hown⟩ := hrel
    have HD := Lib.hid hd
    have HOW := Lib.hid hown
    have HKK := Lib.hid hown.1
    clear hd hown
    by_cases hlt : k < ln
    · obtain ⟨x, hx⟩ : ∃ x, l[k]? = some x := ⟨_, List.getElem?_eq_getElem (by have := HLN.out; omega)⟩
      obtain rfl := HA.out (by omega)
      obtain ⟨c0, c1, c2⟩ := HC.out k x hx
      have c0 := (HK0.out.trans HKK.out).cell c0 (fun h => h)
      have c1 := (HK0.out.trans HKK.out).cell c1 (fun h => h)
      have c2 := (HK0.out.trans HKK.out).cell c2 (fun h => h)
      obtain ⟨b0, b1, b2, -⟩ := HX.out.kept HKK.out
      have HXX := Lib.hid hx
      have hkz : (k : Int) < (ln : Int) := by omega
      have hk0 : (0 : Int) ≤ (k : Int) := by omega
      clear hx
      obtain ⟨x0, x1, x2⟩ := x
      simp only [] at c0 c1 c2
      have HTK : Hid (l.take (k + 1) = l.take k ++ [⟨x0, x1, x2⟩]) := Lib.hid (by rw [List.take_add_one, HXX.out]; rfl)
      have HNE : Hid (∀ y ∈ l.take k, y.node ≠ m0) := Lib.hid (fun y hy => HM.out y (List.mem_of_mem_take hy))
      have HPW : Hid ((l.take k).Pairwise (fun a b => a.node < b.node)) := Lib.hid (HS.out.sublist (List.take_sublist _ _))
      have HWL : Hid ((withL (l.take k) ⟨m0, m1, m2⟩).length ≤ k + 1) := Lib.hid (by
        have h1 := withL_len (l.take k) ⟨m0, m1, m2⟩ HPW.out HNE.out
        have h2 : (l.take k).length ≤ k := List.length_take_le _ _
        omega)
      have hxm : x0 ≠ m0 := HM.out _ (List.mem_of_getElem? HXX.out)
      cases d with
      | true =>
        have hgt : m0 < x0 := by
          obtain ⟨y, hy, hy2⟩ := List.any_eq_true.1 HD.out
          obtain ⟨j, hj⟩ := List.mem_iff_getElem?.1 hy
          obtain ⟨j1, j2⟩ := List.getElem?_eq_some_iff.1 hj
          simp only [List.length_take] at j1
          rw [List.getElem_take] at j2
          obtain ⟨k1, k2⟩ := List.getElem?_eq_some_iff.1 HXX.out
          have h5 := List.pairwise_iff_getElem.1 HS.out j k (by omega) k1 (by omega)
          rw [j2, k2] at h5
          simp only [decide_eq_true_eq] at hy2 h5
          omega
        have HW : Hid (withL (l.take (k + 1)) ⟨m0, m1, m2⟩ = withL (l.take k) ⟨m0, m1, m2⟩ ++ [⟨x0, x1, x2⟩]) := Lib.hid (by rw [HTK.out, withL_done HD.out hgt])
        have HDN : Hid (anyHi (l.take (k + 1)) ⟨m0, m1, m2⟩ = true) := Lib.hid (by rw [HTK.out, anyHi_snoc, HD.out]; rfl)
        clear hgt hxm
        go_wp2_with fail
        go_quiet (fail)
        clear c0 c1 c2 b0 b1 b2
        have HOW1 := Lib.hid (HOW.out.keep ((Keep.refl (fun _ => False) wr).drewN nq))
        clear HOW HKK
        generalize wr.drewN nq = Y0 at *
        have c0 := (HK0.out.trans HOW1.out.1).cell (HC.out k _ HXX.out).1 (fun h => h)
        have c1 := (HK0.out.trans HOW1.out.1).cell (HC.out k _ HXX.out).2.1 (fun h => h)
        have c2 := (HK0.out.trans HOW1.out.1).cell (HC.out k _ HXX.out).2.2 (fun h => h)
        simp only [] at c0 c1 c2
        obtain ⟨v', Y1, hr, hn, -, -⟩ := HOW1.out.snoc ⟨x0, x1, x2⟩ (by have := HWL.out; omega)
        simp only [] at hr
        rw [← HW.out] at hn
        have HR := Lib.hid hr
        have HN := Lib.hid hn
        clear hr hn
        go_wp2_with (at_builtin; refine wpList_app rfl (.tmp 30) (.tmp 35) 22 rfl rfl rfl HR.out ?_)
        clear c0 c1 c2
        go_roundg (ln - (k + 1))
        case rel => exact ⟨k + 1, true, by omega, rfl, by go_num, HDN.out, HN.out⟩
        case measure => omega
      | false =>
        by_cases hgt : m0 < x0
        · have HW : Hid (withL (l.take (k + 1)) ⟨m0, m1, m2⟩ = withL (l.take k) ⟨m0, m1, m2⟩ ++ [⟨m0, m1, m2⟩] ++ [⟨x0, x1, x2⟩]) := Lib.hid (by rw [HTK.out, withL_here HD.out HNE.out hgt])
          have HDN : Hid (anyHi (l.take (k + 1)) ⟨m0, m1, m2⟩ = true) := Lib.hid (by rw [HTK.out, anyHi_snoc, HD.out]; simpa using hgt)
          clear hxm
          go_wp2_with fail
          go_quiet (fail)
          clear c0 c1 c2 b0 b1 b2
          have HOW1 := Lib.hid (HOW.out.keep ((Keep.refl (fun _ => False) wr).drewN nq))
          clear HOW HKK
          generalize wr.drewN nq = Y0 at *
          obtain ⟨b0, b1, b2, -⟩ := HX.out.kept HOW1.out.1
          obtain ⟨v', Y1, hr, hn, -, -⟩ := HOW1.out.snoc ⟨m0, m1, m2⟩ (by have := HWL.out; omega)
          simp only [] at hr
          have HR := Lib.hid hr
          have HN := Lib.hid hn
          clear hr hn
          have c0 := (HK0.out.trans HN.out.1).cell (HC.out k _ HXX.out).1 (fun h => h)
          have c1 := (HK0.out.trans HN.out.1).cell (HC.out k _ HXX.out).2.1 (fun h => h)
          have c2 := (HK0.out.trans HN.out.1).cell (HC.out k _ HXX.out).2.2 (fun h => h)
          simp only [] at c0 c1 c2
          obtain ⟨v2, Y2, hr2, hn2, -, -⟩ := HN.out.snoc ⟨x0, x1, x2⟩ (by rw [List.length_append]; have := HWL.out; simp; omega)
          simp only [] at hr2
          rw [← HW.out] at hn2
          have HR2 := Lib.hid hr2
          have HN2 := Lib.hid hn2
          clear hr2 hn2
          go_wp2_with (first | (at_builtin; refine wpList_app rfl (.tmp 26) (.tmp 28) 22 rfl rfl rfl HR.out ?_) | (at_builtin; refine wpList_app rfl (.tmp 30) (.tmp 35) 22 rfl rfl rfl HR2.out ?_))
          clear c0 c1 c2 b0 b1 b2
          go_roundg (ln - (k + 1))
          case rel => exact ⟨k + 1, true, by omega, rfl, by go_num, HDN.out, HN2.out⟩
          case measure => omega
        · have HW : Hid (withL (l.take (k + 1)) ⟨m0, m1, m2⟩ = withL (l.take k) ⟨m0, m1, m2⟩ ++ [⟨x0, x1, x2⟩]) := Lib.hid (by rw [HTK.out, withL_lo HD.out hgt])
          have HDN : Hid (anyHi (l.take (k + 1)) ⟨m0, m1, m2⟩ = false) := Lib.hid (by rw [HTK.out, anyHi_snoc, HD.out]; simpa using hgt)
          go_wp2_with fail
          go_quiet (fail)
          clear c0 c1 c2 b0 b1 b2
          have HOW1 := Lib.hid (HOW.out.keep ((Keep.refl (fun _ => False) wr).drewN nq))
          clear HOW HKK
          generalize wr.drewN nq = Y0 at *
          have c0 := (HK0.out.trans HOW1.out.1).cell (HC.out k _ HXX.out).1 (fun h => h)
          have c1 := (HK0.out.trans HOW1.out.1).cell (HC.out k _ HXX.out).2.1 (fun h => h)
          have c2 := (HK0.out.trans HOW1.out.1).cell (HC.out k _ HXX.out).2.2 (fun h => h)
          simp only [] at c0 c1 c2
          obtain ⟨v', Y1, hr, hn, -, -⟩ := HOW1.out.snoc ⟨x0, x1, x2⟩ (by have := HWL.out; omega)
          simp only [] at hr
          rw [← HW.out] at hn
          have HR := Lib.hid hr
          have HN := Lib.hid hn
          clear hr hn
          go_wp2_with (at_builtin; refine wpList_app rfl (.tmp 30) (.tmp 35) 22 rfl rfl rfl HR.out ?_)
          clear c0 c1 c2
          go_roundg (ln - (k + 1))
          case rel => exact ⟨k + 1, false, by omega, rfl, by go_num, HDN.out, HN.out⟩
          case measure => omega
    · obtain rfl : k = ln := by omega
      have HTL : Hid (l.take k = l) := Lib.hid (List.take_of_length_le (by have := HLN.out; omega))
      have hkz : ¬ ((k : Int) < (k : Int)) := by omega
      have HLE := Lib.hid (withL_end (l := l) (m := ⟨m0, m1, m2⟩) HM.out)
      have HWL := Lib.hid (withL_len l ⟨m0, m1, m2⟩ HS.out HM.out)
      rw [HTL.out] at HD HOW
      cases d with
      | true =>
        have hle := HLE.out
        rw [if_pos HD.out] at hle
        rw [hle] at HOW
        go_wp2_with fail
        go_ret
        exact ⟨_, rfl, ⟨HK0.out.trans HOW.out.1, ownsRow_lo HOW.out.2 HK0.out.size⟩⟩
      | false =>
        have hle := HLE.out
        rw [if_neg (by rw [HD.out]; simp)] at hle
        obtain ⟨b0, b1, b2, -⟩ := HX.out.kept HKK.out
        obtain ⟨v', Y1, hr, hn, -, -⟩ := HOW.out.snoc ⟨m0, m1, m2⟩ (by have := HWL.out; have := HLN.out; omega)
        simp only [] at hr
        rw [hle] at hn
        have HR := Lib.hid hr
        have HN := Lib.hid hn
        clear hr hn hle
        go_wp2_with (at_builtin; refine wpList_app rfl (.tmp 39) (.tmp 41) 22 rfl rfl rfl HR.out ?_)
        go_ret
        exact ⟨_, rfl, ⟨HK0.out.trans HN.out.1, ownsRow_lo HN.out.2 HK0.out.size⟩⟩
end Go.Proofs.YtplkmbfeeegaiaaDoor

/-
  The law's Members.
-/
namespace Go.Proofs.YtplkmbfeeegaiaaDoor
open Go.RowKit Go.Shelf

def mkM (x : Int) : Mb := ⟨pk x 24, pk (x.tdiv 24) 4, 1 + pk (x.tdiv 96) 4⟩
def memS (l : List Mb) (x : Int) : List Mb := if hasN l (mkM x).node then l else moreM l (mkM x)
def memW (xs : List Int) (k : Nat) : List Mb := (xs.take k).foldl memS []
def mem13 (xs : List Int) : List Mb := if memW xs (min xs.length 8) = [] then [⟨5, 0, 2⟩] else memW xs (min xs.length 8)
theorem memW_next {xs : List Int} {k : Nat} {x : Int} (h : xs[k]? = some x) : memW xs (k + 1) = memS (memW xs k) x := by
  unfold memW
  rw [List.take_add_one, h, List.foldl_append]
  rfl
theorem mkM_ok (x : Int) : okMb (mkM x) := by
  have h1 := pk_bd x 24 (by decide)
  have h2 := pk_bd (x.tdiv 24) 4 (by decide)
  have h3 := pk_bd (x.tdiv 96) 4 (by decide)
  unfold okMb mkM
  simp only []
  omega
/-- What a list of Members is. -/
structure MemW (l : List Mb) (k : Nat) : Prop where
  asc : l.Pairwise (fun a b => a.node < b.node)
  ok : ∀ m ∈ l, okMb m
  len : l.length ≤ k
theorem memW_ok (xs : List Int) : ∀ k, MemW (memW xs k) k
  | 0 => ⟨List.Pairwise.nil, fun _ h => by simp [memW] at h, by simp [memW]⟩
  | k + 1 => by
    have ih := memW_ok xs k
    cases hx : xs[k]? with
    | none =>
      have e : memW xs (k + 1) = memW xs k := by unfold memW; rw [List.take_add_one, hx]; simp
      rw [e]
      exact ⟨ih.asc, ih.ok, by have := ih.len; omega⟩
    | some x =>
      rw [memW_next hx]
      unfold memS
      by_cases hn : hasN (memW xs k) (mkM x).node = true
      · rw [if_pos hn]
        exact ⟨ih.asc, ih.ok, by have := ih.len; omega⟩
      · rw [if_neg hn]
        have hne := hasN_false (by simpa using hn)
        have hv : VL (moreM (memW xs k) (mkM x)) := by
          by_cases hnil : memW xs k = []
          · rw [hnil, show moreM [] (mkM x) = [mkM x] from rfl]
            exact ⟨fun m hm => by simp only [List.mem_singleton] at hm; rw [hm]; exact mkM_ok x, by simp, by simp⟩
          · exact moreM_ok ⟨ih.ok, ih.asc, hnil⟩ (mkM_ok x)
        exact ⟨hv.asc, hv.ok, by rw [moreM_len ih.asc hne]; have := ih.len; omega⟩
theorem mem13_vl (xs : List Int) : VL (mem13 xs) ∧ (mem13 xs).length ≤ 8 := by
  have h := memW_ok xs (min xs.length 8)
  unfold mem13
  by_cases hn : memW xs (min xs.length 8) = []
  · rw [if_pos hn]
    exact ⟨⟨fun m hm => by simp only [List.mem_singleton] at hm; rw [hm]; unfold okMb; simp, by simp, by simp⟩, by simp⟩
  · rw [if_neg hn]
    exact ⟨⟨h.ok, h.asc, hn⟩, by have := h.len; omega⟩
/-- What the free operations of Members' region answer. -/
def memF (x : Int) (B : Nat) (t : Nat) (v : Value) (W : World) : Prop :=
  (t = 22 → v = .int .i64 (mkM x).node) ∧ (t = 28 → v = .int .i64 (mkM x).region) ∧ (t = 34 → v = .int .i64 (pk (x.tdiv 96) 4)) ∧ (t = 35 → v = .int .i64 (mkM x).weight) ∧
  (t = 36 → v = mbV (mkM x)) ∧ (t = 5 → ∃ z, v = ptr z ∧ B ≤ z ∧ Box3 W z (.int .i64 0) (.int .i64 0) (.int .i64 0))
section
variable {x : Int} {B : Nat} {v : Value} {W : World}
theorem memF_22 (h : v = .int .i64 (mkM x).node) : memF x B 22 v W := ⟨fun _ => h, fun e => absurd e (by decide), fun e => absurd e (by decide), fun e => absurd e (by decide), fun e => absurd e (by decide), fun e => absurd e (by decide)⟩
theorem memF_28 (h : v = .int .i64 (mkM x).region) : memF x B 28 v W := ⟨fun e => absurd e (by decide), fun _ => h, fun e => absurd e (by decide), fun e => absurd e (by decide), fun e => absurd e (by decide), fun e => absurd e (by decide)⟩
theorem memF_34 (h : v = .int .i64 (pk (x.tdiv 96) 4)) : memF x B 34 v W := ⟨fun e => absurd e (by decide), fun e => absurd e (by decide), fun _ => h, fun e => absurd e (by decide), fun e => absurd e (by decide), fun e => absurd e (by decide)⟩
theorem memF_35 (h : v = .int .i64 (mkM x).weight) : memF x B 35 v W := ⟨fun e => absurd e (by decide), fun e => absurd e (by decide), fun e => absurd e (by decide), fun _ => h, fun e => absurd e (by decide), fun e => absurd e (by decide)⟩
theorem memF_36 (h : v = mbV (mkM x)) : memF x B 36 v W := ⟨fun e => absurd e (by decide), fun e => absurd e (by decide), fun e => absurd e (by decide), fun e => absurd e (by decide), fun _ => h, fun e => absurd e (by decide)⟩
theorem memF_5 (h : ∃ z, v = ptr z ∧ B ≤ z ∧ Box3 W z (.int .i64 0) (.int .i64 0) (.int .i64 0)) : memF x B 5 v W := ⟨fun e => absurd e (by decide), fun e => absurd e (by decide), fun e => absurd e (by decide), fun e => absurd e (by decide), fun e => absurd e (by decide), fun _ => h⟩
end
theorem memF_keep {x : Int} {B : Nat} (t : Nat) (v : Value) (w w' : World) (h : memF x B t v w) (k : Keep (fun _ => False) w w') : memF x B t v w' := by
  obtain ⟨h1, h2, h3, h4, h5, h6⟩ := h
  refine ⟨h1, h2, h3, h4, h5, fun e => ?_⟩
  obtain ⟨z, q1, q2, q3⟩ := h6 e
  exact ⟨z, q1, q2, q3.kept k⟩
def MemPost (l : List Mb) (w : World) (e : Ending) (w' : World) : Prop := ∃ v, e = .returned v ∧ Mbs w' v l ∧ Keep (fun _ => False) w w'
theorem okMb_i64 {m : Mb} (h : okMb m) : I64 m.node ∧ I64 m.region ∧ I64 m.weight := by
  unfold okMb at h
  unfold I64
  omega
theorem tdiv_bd13 {x : Int} (h : I64 x) {y : Int} (hy : 1 ≤ y) : I64 (x.tdiv y) := by
  unfold I64 at *
  by_cases h0 : 0 ≤ x
  · rw [Int.tdiv_eq_ediv_of_nonneg h0]
    have h1 : 0 ≤ x / y := Int.ediv_nonneg h0 (by omega)
    have h2 := Int.ediv_le_self y h0
    omega
  · have e : x.tdiv y = -((-x) / y) := by
      rw [← Int.tdiv_eq_ediv_of_nonneg (by omega : 0 ≤ -x), Int.neg_tdiv, Int.neg_neg]
    rw [e]
    have h1 : 0 ≤ (-x) / y := Int.ediv_nonneg (by omega) (by omega)
    have h2 := Int.ediv_le_self y (by omega : 0 ≤ -x)
    omega
set_option maxRecDepth 100000 in
set_option maxHeartbeats 8000000 in
theorem members13_any (v : Value) (xs : List Int) (w : World) (h : Its w v xs) : Calls Tryd.prog 42 #[v] w (MemPost (mem13 xs) w) := by
  obtain ⟨hn, hbd, a, c, b, off, rfl, hc, ha, hcell⟩ := h
  obtain ⟨ln, hln⟩ : ∃ n, xs.length = n := ⟨_, rfl⟩
  rw [hln] at hn hc ha ⊢
  have HC := Lib.hid hcell
  have HA := Lib.hid ha
  have HBD := Lib.hid hbd
  have HLN := Lib.hid hln
  clear hcell ha hbd hln
  obtain ⟨n8, hn8⟩ : ∃ n, min ln 8 = n := ⟨_, rfl⟩
  go_enter Tryd.func42, Tryd.ntmps42
  go_upto_region 3 with (fail)
  have HW0 : Hid (OwnB w (memW xs 0) (.slice none 0 0) w) := Lib.hid (OwnB.nil (Keep.refl _ w))
  go_loopg [3, 4] n8 (fun gh v3 v4 wr => ∃ k : Nat, gh + k = n8 ∧ v4 = .int .i64 k ∧ OwnB w (memW xs k) v3 wr)
  case atStart => exact ⟨0, by omega, rfl, HW0.out⟩
  case round =>
    obtain ⟨k, hk, rfl, hown⟩ := hrel
    have HOW := Lib.hid hown
    have HKK := Lib.hid hown.1
    clear hown
    by_cases hlt : k < n8
    · obtain ⟨x, hx⟩ : ∃ x, xs[k]? = some x := ⟨_, List.getElem?_eq_getElem (by have := HLN.out; omega)⟩
      obtain rfl := HA.out (by omega)
      have hxb := HBD.out x (List.mem_of_getElem? hx)
      have HXX := Lib.hid hx
      have HXB := Lib.hid hxb
      have hkz : (k : Int) < (ln : Int) := by omega
      have hk8 : (k : Int) < 8 := by omega
      have hk0 : (0 : Int) ≤ (k : Int) := by omega
      have h24 : I64 (x.tdiv 24) := tdiv_bd13 hxb (by decide)
      have h96 : I64 (x.tdiv 96) := tdiv_bd13 hxb (by decide)
      have hw24 : IntKind.i64.wrap (x.tdiv 24) = x.tdiv 24 := wrapI h24
      have hw96 : IntKind.i64.wrap (x.tdiv 96) = x.tdiv 96 := wrapI h96
      have hp96 := pk_bd (x.tdiv 96) 4 (by decide)
      have hw1 : IntKind.i64.wrap (1 + pk (x.tdiv 96) 4) = 1 + pk (x.tdiv 96) 4 := wrapI (by unfold I64; omega)
      have HW1 := Lib.hid hw1
      have H24 := Lib.hid h24
      have H96 := Lib.hid h96
      clear hx hxb h24 h96 hp96 hw1
      go_upto_region 5 with (fail)
      have c0 : ∀ p : KA (fun _ => False) wr, p.val.cell? ⟨b, off + k, none⟩ = some (.int .i64 x) := fun p => (HKK.out.trans p.k).cell (HC.out k x HXX.out) (fun h => h)
      refine wp_region_free [0, 1, 2, 3, 5, 6, 7, 8, 9, 11, 12, 13, 14, 15] [⟨4, 22, []⟩, ⟨10, 28, []⟩, ⟨16, 34, []⟩, ⟨17, 35, [34]⟩, ⟨18, 36, [22, 28, 35]⟩, ⟨19, 5, []⟩] [(false, 20)] (inKA (fun _ => False) wr) (memF x wr.heap.size) (Keep (fun _ => False)) (by kernel_rfl) (by kernel_rfl) (inKA.of (Keep.refl _ wr).drew) memF_keep (fun w w' hw hk => by obtain ⟨p, rfl⟩ := hw; exact inKA.of (p.k.trans hk)) ?_
      iterate 14 (refine headW_step rfl (fun K hK => ?_); go_simp; refine hK _ ?_; clear hK K)
      clear c0
      refine ⟨?_, ?_, ?_⟩
      · intro h hh
        simp only [List.mem_cons, List.not_mem_nil, or_false] at hh
        rcases hh with rfl | rfl | rfl | rfl | rfl | rfl <;> simp
      · clear hw24 hw96
        refine freeW_step rfl (fun vs W hC hS K hK => ?_) (freeW_step rfl (fun vs W hC hS K hK => ?_) (freeW_step rfl (fun vs W hC hS K hK => ?_) (freeW_step rfl (fun vs W hC hS K hK => ?_) (freeW_step rfl (fun vs W hC hS K hK => ?_) (freeW_step rfl (fun vs W hC hS K hK => ?_) trivial)))))
        · simp only [putL, List.foldl]
          have HP := Lib.hid (pick13_any x 24 W HXB.out (by decide))
          go_simp
          refine HP.out.mono ?_
          rintro e W2 ⟨rfl, rfl⟩
          exact hK _ _ (memF_22 rfl) (Keep.refl _ W)
        · simp only [putL, List.foldl]
          have HP := Lib.hid (pick13_any (x.tdiv 24) 4 W H24.out (by decide))
          go_simp
          refine HP.out.mono ?_
          rintro e W2 ⟨rfl, rfl⟩
          exact hK _ _ (memF_28 rfl) (Keep.refl _ W)
        · simp only [putL, List.foldl]
          have HP := Lib.hid (pick13_any (x.tdiv 96) 4 W H96.out (by decide))
          go_simp
          refine HP.out.mono ?_
          rintro e W2 ⟨rfl, rfl⟩
          exact hK _ _ (memF_34 rfl) (Keep.refl _ W)
        · have e1 := (hS 34 (by simp)).2.2.1 rfl
          simp only [putL, List.foldl]
          generalize vs 34 = v34 at *
          subst e1
          have hw1 := HW1.out
          go_simp
          exact hK _ _ (memF_35 rfl) (Keep.refl _ W)
        · have e1 := (hS 22 (by simp)).1 rfl
          have e2 := (hS 28 (by simp)).2.1 rfl
          have e3 := (hS 35 (by simp)).2.2.2.1 rfl
          simp only [putL, List.foldl]
          generalize vs 22 = v22 at *
          generalize vs 28 = v28 at *
          generalize vs 35 = v35 at *
          subst e1 e2 e3
          go_simp
          exact hK _ _ (memF_36 rfl) (Keep.refl _ W)
        · obtain ⟨p, rfl⟩ := hC
          simp only [putL, List.foldl]
          have hsz := p.k.size
          go_simp
          exact hK _ _ (memF_5 ⟨p.val.heap.size, rfl, hsz, Box3.new _ _ _ _ _⟩) ((Keep.refl _ p.val).alloc _)
      · intro vs W hC hS
        obtain ⟨p, rfl⟩ := hC
        have e1 := (hS ⟨4, 22, []⟩ (by simp)).1 rfl
        have e2 := (hS ⟨10, 28, []⟩ (by simp)).2.1 rfl
        have e3 := (hS ⟨16, 34, []⟩ (by simp)).2.2.1 rfl
        have e4 := (hS ⟨17, 35, [34]⟩ (by simp)).2.2.2.1 rfl
        have e5 := (hS ⟨18, 36, [22, 28, 35]⟩ (by simp)).2.2.2.2.1 rfl
        obtain ⟨z9, e6, hz9, hb9⟩ := (hS ⟨19, 5, []⟩ (by simp)).2.2.2.2.2 rfl
        simp only [] at e1 e2 e3 e4 e5 e6
        simp only [List.map, putL, List.foldl]
        generalize vs 22 = v22 at *
        generalize vs 28 = v28 at *
        generalize vs 34 = v34 at *
        generalize vs 35 = v35 at *
        generalize vs 36 = v36 at *
        generalize vs 5 = v5 at *
        subst e1 e2 e3 e4 e5 e6
        clear hS hw24 hw96
        have HKP := Lib.hid p.k
        have HBP := Lib.hid hb9
        have HZ9 := Lib.hid hz9
        have HMK := Lib.hid (mkM_ok x)
        have HNX := Lib.hid (memW_next HXX.out)
        have HMW := Lib.hid (memW_ok xs k)
        unfold memS at HNX
        have HSZ : Hid (w.heap.size ≤ wr.heap.size) := Lib.hid HKK.out.size
        clear hz9 hb9
        generalize p.val = V at *
        generalize hm : mkM x = m at *
        generalize pk (x.tdiv 96) 4 = p96 at *
        clear hm
        obtain ⟨m0, m1, m2⟩ := m
        obtain ⟨y0, y1, y2, yf⟩ := HBP.out
        refine walkW_do rfl (inKA.of HKP.out) (fun K hK => ?_)
        go_simp
        refine hK _ _ ?_; clear hK K
        clear y0 y1 y2 yf
        have kq : Keep (fun j => j = z9) V (((V.setCell ⟨z9, 0, none⟩ (.int .i64 m0)).setCell ⟨z9, 1, none⟩ (.int .i64 m1)).setCell ⟨z9, 2, none⟩ (.int .i64 m2)) := (((Keep.refl (fun j => j = z9) V).setCell (p := ⟨z9, 0, none⟩) _ (.inl rfl)).setCell (p := ⟨z9, 1, none⟩) _ (.inl rfl)).setCell (p := ⟨z9, 2, none⟩) _ (.inl rfl)
        have HBQ := Lib.hid (((HBP.out.set0 (.int .i64 m0)).set1 (.int .i64 m1)).set2 (.int .i64 m2))
        have HKQ : Hid (Keep (fun _ => False) wr (((V.setCell ⟨z9, 0, none⟩ (.int .i64 m0)).setCell ⟨z9, 1, none⟩ (.int .i64 m1)).setCell ⟨z9, 2, none⟩ (.int .i64 m2))) := Lib.hid (HKP.out.trans' kq (fun j e => .inr (by have h5 : j = z9 := e; have := HZ9.out; omega)))
        clear kq HBP HKP
        generalize ((V.setCell ⟨z9, 0, none⟩ (.int .i64 m0)).setCell ⟨z9, 1, none⟩ (.int .i64 m1)).setCell ⟨z9, 2, none⟩ (.int .i64 m2) = V5 at *
        refine ⟨inKA.of HKQ.out, ?_⟩
        have HOV := Lib.hid (HOW.out.keep HKQ.out)
        clear HOW HKQ HKK
        generalize hl : memW xs k = l at *
        have HLK := Lib.hid hl
        clear hl
        obtain ⟨ua, uc, rfl⟩ := own_form HOV.out.2
        have HMB : Hid (Mbs V5 (.slice ua l.length uc) l) := Lib.hid (mbs_owns HOV.out.2 (by have := HMW.out.len; omega) (fun y hy => okMb_i64 (HMW.out.ok y hy)))
        obtain ⟨hln', hbd', a', c', b', off', hv, hc', ha', hcell'⟩ := HMB.out
        obtain ⟨h1, -, h3⟩ := Value.slice.inj hv
        subst h1 h3
        have HCL := Lib.hid hcell'
        have HAL := Lib.hid ha'
        have hl8 : l.length ≤ 8 := by have := HMW.out.len; omega
        obtain ⟨lq, hlq⟩ : ∃ n, l.length = n := ⟨_, rfl⟩
        have HLQ := Lib.hid hlq
        rw [hlq] at hl8 hc' HAL ⊢
        clear hln' hbd' hv ha' hcell' hlq
        go_upto_region 8 with (fail)
        go_loopg [6, 7] lq (fun gq v6 v7 wq => ∃ j : Nat, gq + j = lq ∧ v6 = .bool (hasN (l.take j) m0) ∧ v7 = .int .i64 j ∧ Keep (fun _ => False) V5 wq)
        case atStart => exact ⟨0, by omega, rfl, rfl, Keep.refl _ _⟩
        case round =>
          obtain ⟨j, hj, rfl, rfl, hkeep⟩ := hrel
          have HKJ := Lib.hid hkeep
          clear hkeep
          by_cases hjl : j < lq
          · obtain ⟨y, hy⟩ : ∃ y, l[j]? = some y := ⟨_, List.getElem?_eq_getElem (by have := HLQ.out; omega)⟩
            obtain rfl := HAL.out (by omega)
            have c0 := HKJ.out.cell (HCL.out j y hy).1 (fun h => h)
            obtain ⟨b0, -, -, -⟩ := HBQ.out.kept HKJ.out
            have HNJ : Hid (hasN (l.take (j + 1)) m0 = (hasN (l.take j) m0 || decide (y.node = m0))) := Lib.hid (by
              unfold hasN
              rw [List.take_add_one, hy]
              simp)
            have hjz : (j : Int) < (lq : Int) := by omega
            have hj0 : (0 : Int) ≤ (j : Int) := by omega
            clear hy
            obtain ⟨n0, n1, n2⟩ := y
            simp only [] at c0 HNJ
            generalize hasN (l.take j) m0 = d at *
            cases d with
            | true =>
              go_wp2_with fail
              go_quiet (fail)
              clear c0 b0
              have HKN := Lib.hid (HKJ.out.trans ((Keep.refl (fun _ => False) wr).drewN nq))
              clear HKJ
              generalize wr.drewN nq = Y0 at *
              go_wp2_with fail
              go_roundg (lq - (j + 1))
              case rel => exact ⟨j + 1, by omega, by rw [HNJ.out]; rfl, by go_num, HKN.out⟩
              case measure => omega
            | false =>
              by_cases hnm : n0 = m0
              · go_wp2_with fail
                go_quiet (fail)
                clear c0 b0
                have HKN := Lib.hid (HKJ.out.trans ((Keep.refl (fun _ => False) wr).drewN nq))
                clear HKJ
                generalize wr.drewN nq = Y0 at *
                go_wp2_with fail
                go_roundg (lq - (j + 1))
                case rel => exact ⟨j + 1, by omega, by rw [HNJ.out]; simp [hnm], by go_num, HKN.out⟩
                case measure => omega
              · go_wp2_with fail
                go_quiet (fail)
                clear c0 b0
                have HKN := Lib.hid (HKJ.out.trans ((Keep.refl (fun _ => False) wr).drewN nq))
                clear HKJ
                generalize wr.drewN nq = Y0 at *
                go_wp2_with fail
                go_roundg (lq - (j + 1))
                case rel => exact ⟨j + 1, by omega, by rw [HNJ.out]; simp [hnm], by go_num, HKN.out⟩
                case measure => omega
          · obtain rfl : j = lq := by omega
            have HTL : Hid (l.take j = l) := Lib.hid (List.take_of_length_le (by have := HLQ.out; omega))
            have hjz : ¬ ((j : Int) < (j : Int)) := by omega
            have HOJ := Lib.hid (HOV.out.keep HKJ.out)
            have HBJ := Lib.hid (HBQ.out.kept HKJ.out)
            rw [HTL.out]
            obtain ⟨d, hd⟩ : ∃ d, hasN l m0 = d := ⟨_, rfl⟩
            have HD := Lib.hid hd
            rw [hd]
            clear hd
            cases d with
            | true =>
              have HN : Hid (OwnB w (memW xs (k + 1)) (.slice ua j uc) wr) := Lib.hid (by
                have h1 := HNX.out
                rw [if_pos HD.out] at h1
                rw [h1]
                have h2 := HOJ.out
                rwa [HLQ.out] at h2)
              go_wp2_with fail
              go_roundg (n8 - (k + 1))
              case rel => exact ⟨k + 1, by omega, by go_num, HN.out⟩
              case measure => omega
            | false =>
              obtain ⟨b0, b1, b2, -⟩ := HBJ.out
              have HWI := Lib.hid (with_any (.slice ua j uc) l ⟨m0, m1, m2⟩ wr (by have h2 := HMB.out.kept HKJ.out; rwa [HLQ.out] at h2) HMW.out.asc (hasN_false HD.out) (by have := HLQ.out; omega))
              go_wp2_with fail
              clear b0 b1 b2
              with_reducible refine HWI.out.mono ?_
              rintro e W9 ⟨v9, rfl, k9, own9⟩
              have HN : Hid (OwnB w (memW xs (k + 1)) v9 W9) := Lib.hid (by
                have h1 := HNX.out
                rw [if_neg (by rw [HD.out]; simp)] at h1
                rw [h1]
                exact ⟨HOJ.out.1.trans k9, ownsRow_lo own9 HOJ.out.1.size⟩)
              clear k9 own9
              go_wp2_with fail
              go_roundg (n8 - (k + 1))
              case rel => exact ⟨k + 1, by omega, by go_num, HN.out⟩
              case measure => omega
    · obtain rfl : k = n8 := by omega
      obtain ⟨lq, hlq⟩ : ∃ n, (memW xs k).length = n := ⟨_, rfl⟩
      have HMW := Lib.hid (memW_ok xs k)
      obtain ⟨ua, uc, rfl⟩ := own_form HOW.out.2
      have HMB : Hid (Mbs wr (.slice ua (memW xs k).length uc) (memW xs k)) := Lib.hid (mbs_owns HOW.out.2 (by have := HMW.out.len; omega) (fun y hy => okMb_i64 (HMW.out.ok y hy)))
      have HM13 : Hid (mem13 xs = if memW xs k = [] then [⟨5, 0, 2⟩] else memW xs k) := Lib.hid (by unfold mem13; rw [HLN.out, hn8])
      have HLQ := Lib.hid hlq
      have HNL := Lib.hid (mbs_one wr 5 0 2 (by unfold I64; decide))
      have HKL : Hid (Keep (fun _ => False) wr (wr.alloc (.cells #[.int .i64 5, .int .i64 0, .int .i64 2] 25))) := Lib.hid ((Keep.refl _ wr).alloc _)
      have hc8 : ¬ ((k : Int) < (ln : Int) ∧ (k : Int) < 8) := by omega
      rw [hlq] at HMB ⊢
      clear hlq
      by_cases hk8 : (k : Int) < (ln : Int)
      · have hk9 : ¬ ((k : Int) < 8) := by omega
        by_cases hz : lq = 0
        · subst hz
          go_wp2_with fail
          go_ret
          refine ⟨_, rfl, ?_, HKK.out.trans HKL.out⟩
          rw [HM13.out, if_pos (List.eq_nil_of_length_eq_zero HLQ.out)]
          exact HNL.out
        · go_wp2_with fail
          go_ret
          refine ⟨_, rfl, ?_, HKK.out⟩
          rw [HM13.out, if_neg (fun e => hz (by rw [← HLQ.out, e]; rfl))]
          exact HMB.out
      · by_cases hz : lq = 0
        · subst hz
          go_wp2_with fail
          go_ret
          refine ⟨_, rfl, ?_, HKK.out.trans HKL.out⟩
          rw [HM13.out, if_pos (List.eq_nil_of_length_eq_zero HLQ.out)]
          exact HNL.out
        · go_wp2_with fail
          go_ret
          refine ⟨_, rfl, ?_, HKK.out⟩
          rw [HM13.out, if_neg (fun e => hz (by rw [← HLQ.out, e]; rfl))]
          exact HMB.out
end Go.Proofs.YtplkmbfeeegaiaaDoor

/-
  The plain law of Reshard: rings that are valid, the concrete rings of sane.
-/
namespace Go.Proofs.YtplkmbfeeegaiaaDoor

section
variable (P : Int → Nat → Int) (Q : Nat → Int)
theorem ok_new {l : List Mb} (h : VL l) {ep : Int} (he : 1 ≤ ep ∧ ep ≤ 1000000) : okRing ep l (ownersL P Q l) :=
  ⟨he.1, he.2, h, (owners_ok P Q h).1, (owners_ok P Q h).2.1⟩
theorem ok_neg {ep : Int} {l : List Mb} {ow : List Int} (h : okRing ep l ow) : ∀ n ∈ ow, n ≠ -1 := fun n hn => by
  have := okRing_nodes h n hn
  omega
theorem ok_change {ep : Int} {l l' : List Mb} {ow : List Int} (h : okRing ep l ow) (hv : VL l') (he : ep < 1000000) : okRing (ep + 1) l' (changeL P Q l' ow) :=
  ⟨by have := h.1; omega, by omega, hv, change_len P Q hv h.2.2.2.1, (change_ok P Q hv h.2.2.2.1 (ok_neg h)).1⟩
theorem ok_self {ep : Int} {l : List Mb} {ow : List Int} (h : okRing ep l ow) : changeL P Q l ow = ow :=
  change_same P Q h.2.2.2.1 h.2.2.2.2 (ok_neg h)
end
/-- Slots counted: everything lies with the nodes named. -/
theorem cnt_sum {ns : List Int} (hn : ns.Nodup) : ∀ (ow : List Int), (∀ x ∈ ow, x ∈ ns) → sumF (cnt ow) ns = ow.length
  | [], _ => by
    have : ∀ ns : List Int, sumF (cnt []) ns = 0 := fun ns => by
      induction ns with
      | nil => rfl
      | cons a ns ih => simp only [sumF, ih]; simp [cnt]
    rw [this]; rfl
  | x :: ow, h => by
    have ih := cnt_sum hn ow (fun y hy => h y (List.mem_cons_of_mem _ hy))
    have key : ∀ ns : List Int, ns.Nodup → sumF (cnt (x :: ow)) ns = sumF (cnt ow) ns + if x ∈ ns then 1 else 0 := fun ns => by
      induction ns with
      | nil => intro _; simp [sumF]
      | cons a ns ih2 =>
        intro hn'
        simp only [List.nodup_cons] at hn'
        simp only [sumF, ih2 hn'.2, cnt_cons']
        by_cases e : a = x
        · subst e
          rw [if_pos rfl, if_neg hn'.1, if_pos List.mem_cons_self]
          omega
        · rw [if_neg e]
          by_cases e2 : x ∈ ns
          · rw [if_pos e2, if_pos (List.mem_cons_of_mem _ e2)]; omega
          · rw [if_neg e2, if_neg (by simp only [List.mem_cons, e2, or_false]; exact fun h => e h.symm)]; omega
    rw [key ns hn, ih, if_pos (h x List.mem_cons_self), List.length_cons]
    omega

/-- The rings of sane. -/
def sl1 : List Mb := [⟨0, 0, 1⟩, ⟨1, 0, 1⟩]
def sl3 : List Mb := [⟨0, 0, 1⟩]
def sl6 : List Mb := [⟨0, 0, 1⟩, ⟨1, 0, 1⟩, ⟨2, 0, 2⟩]
def sl7 : List Mb := [⟨1, 0, 1⟩, ⟨7, 0, 1⟩]
theorem sl1_vl : VL sl1 := (validL_iff _).1 (by decide)
theorem sl3_vl : VL sl3 := (validL_iff _).1 (by decide)
theorem sl6_vl : VL sl6 := (validL_iff _).1 (by decide)
theorem sl7_vl : VL sl7 := (validL_iff _).1 (by decide)
theorem sl6_lim : limitL sl6 0 = 20 ∧ limitL sl6 1 = 20 := by constructor <;> decide
theorem sane_leave {ow : List Int} (h : okRing 2 sl3 ow) (hm : ∀ n ∈ ow, n ∈ sl3.map Mb.node) : cnt ow 0 = 64 := by
  have := cnt_sum (ns := [0]) (by simp) ow (fun x hx => by have := hm x hx; simpa [sl3] using this)
  rw [h.2.2.2.1] at this
  simp only [sumF] at this
  omega
theorem sane_join {ow : List Int} (h : okRing 2 sl6 ow) (hm : ∀ n ∈ ow, n ∈ sl6.map Mb.node) : cnt ow 0 ≤ 20 ∧ 24 ≤ cnt ow 2 := by
  have h1 := h.2.2.2.2 0
  have h2 := h.2.2.2.2 1
  rw [sl6_lim.1] at h1
  rw [sl6_lim.2] at h2
  have := cnt_sum (ns := [0, 1, 2]) (by decide) ow (fun x hx => by have := hm x hx; simpa [sl6] using this)
  rw [h.2.2.2.1] at this
  simp only [sumF] at this
  omega
end Go.Proofs.YtplkmbfeeegaiaaDoor

/-
  Moves where a ring has no 64 owners; moves that came out of Moves; moves of one node's slots.
-/
namespace Go.Proofs.YtplkmbfeeegaiaaDoor
open Go.RowKit Go.Shelf

theorem moves_rep {n s : Int} (hne : n ≠ s) (ow : List Int) : ∀ k, k ≤ ow.length → ((movesK ow (ow.map (repF n s)) k).length : Int) = cnt (ow.take k) n
  | 0, _ => by simp [movesK, cnt]
  | k + 1, hk => by
    have ih := moves_rep hne ow k (by omega)
    obtain ⟨x, hx⟩ : ∃ x, ow[k]? = some x := ⟨_, List.getElem?_eq_getElem (by omega)⟩
    have hy : (ow.map (repF n s))[k]? = some (repF n s x) := by rw [List.getElem?_map, hx]; rfl
    rw [cnt_take_succ hx]
    by_cases e : x = n
    · subst e
      rw [movesK_next hx hy (by unfold repF; rw [if_pos rfl]; exact fun h => hne h.symm), List.length_append, List.length_singleton]
      simp only [if_true]
      omega
    · rw [movesK_stay hx hy (by unfold repF; rw [if_neg e]), if_neg (fun h => e h.symm)]
      omega
theorem moves_rep64 {n s : Int} (hne : n ≠ s) {ow : List Int} (h : ow.length = 64) : ((movesK ow (ow.map (repF n s)) 64).length : Int) = cnt ow n := by
  have := moves_rep hne ow 64 (by omega)
  rwa [List.take_of_length_le (by omega)] at this
theorem moves_slot {a b : List Int} : ∀ m ∈ movesK a b 64, 0 ≤ m.slot ∧ m.slot < 64 := fun m hm => by
  obtain ⟨s, hs, -, rfl⟩ := mem_movesK.1 hm
  simp only []
  omega
theorem movesK_bd {a b : List Int} (ha : ∀ x ∈ a, 0 ≤ x ∧ x < 24) (hb : ∀ x ∈ b, 0 ≤ x ∧ x < 24) : ∀ m ∈ movesK a b 64, I64 m.slot ∧ I64 m.frm ∧ I64 m.to_ := fun m hm => by
  obtain ⟨s, hs, -, rfl⟩ := mem_movesK.1 hm
  have key : ∀ l : List Int, (∀ x ∈ l, 0 ≤ x ∧ x < 24) → 0 ≤ l.getD s 0 ∧ l.getD s 0 < 24 := fun l hl => by
    rw [List.getD_eq_getElem?_getD]
    cases h : l[s]? with
    | none => simp
    | some x => exact hl x (List.mem_of_getElem? h)
  have h1 := key a ha
  have h2 := key b hb
  simp only []
  unfold I64
  omega
theorem mvs_owns {W : World} {lo : Nat} {v : Value} {l : List Mv} (h : W.ownsRow lo 60 3 v l.length (flatV l)) (hl : l.length ≤ 1000000) (hb : ∀ m ∈ l, I64 m.slot ∧ I64 m.frm ∧ I64 m.to_) : Mvs W v l := by
  have hb' : ∀ m ∈ l.map mvMb, I64 m.node ∧ I64 m.region ∧ I64 m.weight := fun m hm => by
    obtain ⟨x, hx, rfl⟩ := List.mem_map.1 hm
    exact hb x hx
  unfold Mvs
  unfold flatV at h
  have hll : (l.map mvMb).length = l.length := List.length_map _
  rw [← hll] at h hl
  generalize l.map mvMb = l at *
  rcases h.2 with ⟨rfl, hx⟩ | ⟨g, cap, cur, rfl, _, _, hc, r⟩
  · have : l = [] := List.eq_nil_of_length_eq_zero hx
    subst this
    exact ⟨by simp, by simp, none, 0, 0, 0, rfl, by simp, fun h => by simp at h, fun j x hj => by simp at hj⟩
  · refine ⟨by omega, hb', some ⟨g, 0, none⟩, cap, g, 0, rfl, hc, fun _ => rfl, fun j x hj => ?_⟩
    have key : ∀ r, r < 3 → ∀ u, (encMb x)[r]? = some u → W.cell? ⟨g, 0 + (j * 3 + r), none⟩ = some u := fun r hr u hu => by
      have h1 := flatB_get l j x r hj hr
      rw [hu] at h1
      have h3 := h.cells (g := g) rfl _ _ h1
      rwa [Addr.add_lit] at h3
    exact ⟨key 0 (by decide) _ rfl, by have := key 1 (by decide) _ rfl; rwa [← Nat.add_assoc] at this, by have := key 2 (by decide) _ rfl; rwa [← Nat.add_assoc] at this⟩
set_option maxRecDepth 100000 in
set_option maxHeartbeats 8000000 in
theorem moves_none (va vb : Value) (ea eb : Int) (la lb : List Mb) (oa ob : List Int) (w : World) (ha : Rng w va ea la oa) (hb : Rng w vb eb lb ob) (hla : oa.length = 64) (hlb : ob.length ≠ 64) :
    Calls Tryd.prog 44 #[va, vb] w (MvPost [] w) := by
  obtain ⟨-, am, ao, rfl, hma, hia⟩ := ha
  obtain ⟨-, bm, bo, rfl, hmb, hib⟩ := hb
  obtain ⟨ma, mn, mc, rfl⟩ : ∃ a n c, am = .slice a n c := by obtain ⟨a, c, b, off, h, _⟩ := hma.at_; exact ⟨_, _, _, h⟩
  obtain ⟨na, nn, nc, rfl⟩ : ∃ a n c, bm = .slice a n c := by obtain ⟨a, c, b, off, h, _⟩ := hmb.at_; exact ⟨_, _, _, h⟩
  obtain ⟨-, -, aa, ac, ab, af, rfl, hac, haa, hacell⟩ := hia
  obtain ⟨-, -, ba, bc, bb, bf, rfl, hbc, hba, hbcell⟩ := hib
  obtain rfl := haa (by omega)
  obtain ⟨bl, hbl⟩ : ∃ n, ob.length = n := ⟨_, rfl⟩
  have HLA := Lib.hid hla
  rw [hla] at hac ⊢
  rw [hbl] at hbc hlb ⊢
  clear haa hba hacell hbcell hla hma hmb
  have HX := Lib.hid (Box3.new w (.int .i64 ea) (.slice ma mn mc) (.slice (some ⟨ab, af, none⟩) 64 ac) 31)
  have HY := Lib.hid (Box3.new (w.alloc (.cells #[.int .i64 ea, .slice ma mn mc, .slice (some ⟨ab, af, none⟩) 64 ac] 31)) (.int .i64 eb) (.slice na nn nc) (.slice ba bl bc) 31)
  have HKA : Hid (Keep (fun _ => False) w (w.alloc (.cells #[.int .i64 ea, .slice ma mn mc, .slice (some ⟨ab, af, none⟩) 64 ac] 31))) := Lib.hid ((Keep.refl _ w).alloc _)
  have HKB : Hid (Keep (fun _ => False) (w.alloc (.cells #[.int .i64 ea, .slice ma mn mc, .slice (some ⟨ab, af, none⟩) 64 ac] 31)) ((w.alloc (.cells #[.int .i64 ea, .slice ma mn mc, .slice (some ⟨ab, af, none⟩) 64 ac] 31)).alloc (.cells #[.int .i64 eb, .slice na nn nc, .slice ba bl bc] 31))) := Lib.hid ((Keep.refl _ _).alloc _)
  have HX0 := Lib.hid (HX.out.kept HKB.out)
  rw [World.size_alloc] at HY
  have HK0 := Lib.hid (HKA.out.trans HKB.out)
  clear HX HKA HKB
  go_enter Tryd.func44, Tryd.ntmps44
  go_wp2_with fail
  generalize ((w.alloc (.cells #[.int .i64 ea, .slice ma mn mc, .slice (some ⟨ab, af, none⟩) 64 ac] 31)).alloc (.cells #[.int .i64 eb, .slice na nn nc, .slice ba bl bc] 31)) = W0 at *
  generalize hz : w.heap.size = z at HX0 HY ⊢
  have HZ := Lib.hid hz
  clear hz
  obtain ⟨x0, x1, x2, -⟩ := HX0.out
  obtain ⟨y0, y1, y2, -⟩ := HY.out
  have hbz : ¬ (bl : Int) = 64 := by omega
  have hbe : ((bl : Int) == 64) = false := by simpa using hbz
  go_wp2_with fail
  go_ret
  exact ⟨none, 0, rfl, by simpa [flatV, flatB] using World.ownsRow_nil W0 w.heap.size 60 3, HK0.out⟩
end Go.Proofs.YtplkmbfeeegaiaaDoor

/-
  What sane calls, on its rings.
-/
namespace Go.Proofs.YtplkmbfeeegaiaaDoor
open Go.RowKit Go.Shelf

theorem RingRes.good {ep : Int} {l : List Mb} {ow : List Int} {w : World} {e : Ending} {w' : World} (h : RingRes true ep l ow w e w') : RingPost ep l ow w e w' := by
  obtain ⟨ep', l', ow', err, am, nm, cm, ao, no, co, h1, -, h3, h4, h5, h6, h7, h8⟩ := h
  obtain ⟨rfl, rfl, rfl, rfl⟩ := h1 rfl
  subst h3 h4
  exact ⟨am, cm, ao, co, h5, h6, h7, h8⟩
def NonePost (w : World) (e : Ending) (w' : World) : Prop := ∃ am cm ao co, e = .returned (.tuple #[.agg #[.int .i64 0, .slice am 0 cm, .slice ao 0 co], .int .i64 120]) ∧ Keep (fun _ => False) w w'
theorem RingRes.none' {ep : Int} {l : List Mb} {ow : List Int} {w : World} {e : Ending} {w' : World} (h : RingRes false ep l ow w e w') : NonePost w e w' := by
  obtain ⟨ep', l', ow', err, am, nm, cm, ao, no, co, -, h1, h3, h4, h5, h6, h7, h8⟩ := h
  obtain ⟨rfl, rfl, rfl, rfl⟩ := h1 rfl
  subst h3 h4
  exact ⟨am, cm, ao, co, h5, h8⟩
theorem okRing.obd {ep : Int} {l : List Mb} {ow : List Int} (h : okRing ep l ow) : ∀ x ∈ ow, I64 x := fun x hx => by
  have := okRing_nodes h x hx
  unfold I64
  omega
/-- A valid ring that came out of a call. -/
def GoodPost (ep : Int) (l : List Mb) (ow : List Int) (w : World) (e : Ending) (w' : World) : Prop := ∃ am cm ao co, e = .returned (.tuple #[.agg #[.int .i64 ep, .slice am l.length cm, .slice ao 64 co], .int .i64 0]) ∧ Rng w' (.agg #[.int .i64 ep, .slice am l.length cm, .slice ao 64 co]) ep l ow ∧ Keep (fun _ => False) w w'
theorem RingPost.use {ep : Int} {l : List Mb} {ow : List Int} {w : World} {e : Ending} {w' : World} (h : RingPost ep l ow w e w') (hv : VL l) (hep : I64 ep) (ho : ow.length = 64) (hob : ∀ x ∈ ow, I64 x) : GoodPost ep l ow w e w' := by
  obtain ⟨am, cm, ao, co, rfl, h2, h3, h4⟩ := h
  have h5 := its_owns h3 (by omega) hob
  rw [ho] at h5 ⊢
  exact ⟨am, cm, ao, co, rfl, ⟨hep, _, _, rfl, mbs_owns h2 (by have := hv.len; omega) hv.bd, h5⟩, h4⟩
theorem NewPost.use {ep : Int} {l : List Mb} {w : World} {e : Ending} {w' : World} (h : NewPost ep l w e w') (hv : VL l) (hep : I64 ep) : GoodPost ep l (ownersL PN QS l) w e w' := by
  obtain ⟨vm, vo, rfl, h2, h3, -, h4⟩ := h
  obtain ⟨am, cm, rfl⟩ := own_form h2
  obtain ⟨ao, co, rfl⟩ := own_form h3
  have h5 := its_owns h3 (by rw [(owners_ok PN QS hv).1]; decide) hv.obd
  have hl := (owners_ok PN QS hv).1
  rw [hl] at h5 ⊢
  exact ⟨am, cm, ao, co, rfl, ⟨hep, _, _, rfl, mbs_owns h2 (by have := hv.len; omega) hv.bd, h5⟩, h4⟩

def so1 : List Int := ownersL PN QS sl1
def so3 : List Int := changeL PN QS sl3 so1
def so6 : List Int := changeL PN QS sl6 so1
def so7 : List Int := so1.map (repF 0 7)
theorem so1_ok : okRing 1 sl1 so1 := ok_new PN QS sl1_vl (by decide)
theorem so3_ok : okRing 2 sl3 so3 := ok_change PN QS so1_ok sl3_vl (by decide)
theorem so6_ok : okRing 2 sl6 so6 := ok_change PN QS so1_ok sl6_vl (by decide)
theorem so7_len : so7.length = 64 := by unfold so7; rw [List.length_map]; exact so1_ok.2.2.2.1
theorem so7_bd : ∀ x ∈ so7, 0 ≤ x ∧ x < 24 := fun x hx => by
  obtain ⟨y, hy, rfl⟩ := List.mem_map.1 hx
  have := okRing_nodes so1_ok y hy
  unfold repF
  split <;> omega
theorem so3_load : cnt so3 0 = 64 := sane_leave so3_ok (change_ok PN QS sl3_vl so1_ok.2.2.2.1 (ok_neg so1_ok)).2
theorem so6_load : cnt so6 0 ≤ 20 ∧ 24 ≤ cnt so6 2 := sane_join so6_ok (change_ok PN QS sl6_vl so1_ok.2.2.2.1 (ok_neg so1_ok)).2
theorem so7_moves : ((movesK so1 so7 64).length : Int) = cnt so1 0 := moves_rep64 (by decide) so1_ok.2.2.2.1
section
variable {v : Value} {W : World}
theorem sane_new (vl : Value) (h : Mbs W vl sl1) (hT : Tab W) : Calls Tryd.prog 17 #[.int .i64 1, vl] W (GoodPost 1 sl1 so1 W) :=
  (new_ok 1 vl sl1 W h sl1_vl hT (by decide)).mono (fun _ _ h => h.use sl1_vl (by unfold I64; decide))
theorem sane_change (vl : Value) (h : Rng W v 1 sl1 so1) (hl : Mbs W vl sl1) (hT : Tab W) : Calls Tryd.prog 43 #[v, vl] W (GoodPost 2 sl1 so1 W) :=
  (changeR_ok v vl 1 sl1 sl1 so1 W h ((validRB_iff _ _ _).2 so1_ok) (by decide) hl sl1_vl hT).mono (fun _ _ h => by
    rw [ok_self PN QS so1_ok] at h
    exact h.use sl1_vl (by unfold I64; decide) so1_ok.2.2.2.1 so1_ok.obd)
theorem sane_leave1 (h : Rng W v 1 sl1 so1) (hT : Tab W) : Calls Tryd.prog 60 #[v, .int .i64 1] W (GoodPost 2 sl3 so3 W) :=
  (leave_any v 1 sl1 so1 1 W h (by decide) hT).mono (fun _ _ h => by
    have e1 : leaveOk 1 sl1 so1 1 = true := by
      unfold leaveOk chOk
      rw [(validRB_iff _ _ _).2 so1_ok]
      decide
    rw [e1, show sl1.filter (notN 1) = sl3 by decide] at h
    exact h.good.use sl3_vl (by unfold I64; decide) so3_ok.2.2.2.1 so3_ok.obd)
theorem sane_leave0 (h : Rng W v 2 sl3 so3) (hT : Tab W) : Calls Tryd.prog 60 #[v, .int .i64 0] W (NonePost W) :=
  (leave_any v 2 sl3 so3 0 W h (by decide) hT).mono (fun _ _ h => by
    have e1 : leaveOk 2 sl3 so3 0 = false := by
      unfold leaveOk chOk
      rw [show sl3.filter (notN 0) = [] by decide, show validL [] = false by decide]
      simp
    rw [e1] at h
    exact h.none')
theorem sane_join1 (h : Rng W v 1 sl1 so1) (hT : Tab W) : Calls Tryd.prog 61 #[v, mbV ⟨1, 0, 1⟩] W (NonePost W) :=
  (join_any v 1 sl1 so1 ⟨1, 0, 1⟩ W h (by unfold I64; decide) (by decide) hT).mono (fun _ _ h => by
    have e1 : joinOk 1 sl1 so1 ⟨1, 0, 1⟩ = false := by
      unfold joinOk
      rw [show hasN sl1 1 = true by decide]
      rfl
    rw [e1] at h
    exact h.none')
theorem sane_join2 (h : Rng W v 1 sl1 so1) (hT : Tab W) : Calls Tryd.prog 61 #[v, mbV ⟨2, 0, 2⟩] W (GoodPost 2 sl6 so6 W) :=
  (join_any v 1 sl1 so1 ⟨2, 0, 2⟩ W h (by unfold I64; decide) (by decide) hT).mono (fun _ _ h => by
    have e0 : moreM sl1 ⟨2, 0, 2⟩ = sl6 := by decide
    have e1 : joinOk 1 sl1 so1 ⟨2, 0, 2⟩ = true := by
      unfold joinOk chOk
      rw [(validRB_iff _ _ _).2 so1_ok, e0]
      decide
    rw [e1, e0] at h
    exact h.good.use sl6_vl (by unfold I64; decide) so6_ok.2.2.2.1 so6_ok.obd)
theorem sane_replace (h : Rng W v 1 sl1 so1) (hT : Tab W) : Calls Tryd.prog 62 #[v, .int .i64 0, .int .i64 7] W (GoodPost 2 sl7 so7 W) :=
  (replace_ok v 1 sl1 so1 0 7 ⟨0, 0, 1⟩ 0 W h ((validRB_iff _ _ _).2 so1_ok) (by decide) rfl rfl (by decide) (by decide) (by decide) hT).mono (fun _ _ h => by
    have e0 : moreM (sl1.filter (notN 0)) ⟨7, 0, 1⟩ = sl7 := by decide
    simp only [e0] at h
    exact h.use sl7_vl (by unfold I64; decide) so7_len (fun x hx => by have := so7_bd x hx; unfold I64; omega))
end
end Go.Proofs.YtplkmbfeeegaiaaDoor

/-
  sane of the law.
-/
namespace Go.Proofs.YtplkmbfeeegaiaaDoor
open Go.RowKit Go.Shelf

theorem sane_apply : applyL so1 (movesK so1 so7 64) = so7 := by
  have h : so1.length = 64 := so1_ok.2.2.2.1
  have h2 := apply_moves (a := so1) (b := so7) (by rw [h, so7_len]) (ms := movesK so1 so7 so1.length) (List.Perm.refl _)
  rwa [h] at h2
set_option maxRecDepth 100000 in
set_option maxHeartbeats 8000000 in
theorem sane13_any (w : World) (hT : Tab w) : Calls Tryd.prog 41 #[] w fun e w' => e = .returned (.bool true) ∧ Keep (fun _ => False) w w' := by
  have HT := Lib.hid hT
  clear hT
  have i1 : Mbs (w.alloc (.cells #[.int .i64 0, .int .i64 0, .int .i64 1, .int .i64 1, .int .i64 0, .int .i64 1] 25)) (.slice (some ⟨w.heap.size, 0, none⟩) 2 2) sl1 := mbs_owns (lo := w.heap.size) (World.ownsRow_lit w #[.int .i64 0, .int .i64 0, .int .i64 1, .int .i64 1, .int .i64 0, .int .i64 1] 2 (Nat.le_refl _) (by decide) rfl) (by decide) (by unfold I64; decide)
  have k1 : Keep (fun _ => False) w (w.alloc (.cells #[.int .i64 0, .int .i64 0, .int .i64 1, .int .i64 1, .int .i64 0, .int .i64 1] 25)) := (Keep.refl _ w).alloc _
  have H1 := Lib.hid (sane_new _ i1 (HT.out.kept k1))
  have K1 := Lib.hid k1
  clear i1 k1
  go_enter Tryd.func41, Tryd.ntmps41
  go_wp2_with fail
  with_reducible refine H1.out.mono ?_
  rintro e W1 ⟨am, cm, ao, co, rfl, hr, k⟩
  rw [show sl1.length = 2 from rfl] at hr ⊢
  have K2 := Lib.hid (K1.out.trans k)
  have HR1 := Lib.hid hr
  clear H1 K1 hr k
  go_wp2_with fail
  have HB1 := Lib.hid (Box3.new W1 (.int .i64 1) (.slice am 2 cm) (.slice ao 64 co) 31)
  have k : Keep (fun _ => False) W1 (W1.alloc (.cells #[.int .i64 1, .slice am 2 cm, .slice ao 64 co] 31)) := (Keep.refl _ W1).alloc _
  have KV := Lib.hid (K2.out.trans k)
  replace HR1 := Lib.hid (HR1.out.kept k)
  clear k K2
  generalize W1.alloc (.cells #[.int .i64 1, .slice am 2 cm, .slice ao 64 co] 31) = V1 at *
  generalize W1.heap.size = z1 at *
  have HMS : Hid (Mbs V1 (.slice am 2 cm) sl1) := Lib.hid (by
    obtain ⟨-, vm, vo, e, hm, -⟩ := HR1.out
    cases e
    exact hm)
  with_reducible refine (sane_change _ HR1.out HMS.out (HT.out.kept KV.out)).mono ?_
  clear HMS
  rintro e W3 ⟨am3, cm3, ao3, co3, rfl, hr, k⟩
  rw [show sl1.length = 2 from rfl] at hr ⊢
  have ka : Keep (fun _ => False) W3 (W3.alloc (.cells #[.int .i64 2, .slice am3 2 cm3, .slice ao3 64 co3] 31)) := (Keep.refl _ W3).alloc _
  replace KV := Lib.hid (KV.out.trans (k.trans ka))
  replace HB1 := Lib.hid (HB1.out.kept (k.trans ka))
  replace HR1 := Lib.hid (HR1.out.kept (k.trans ka))
  have HR3 := Lib.hid (hr.kept ka)
  have HB3 := Lib.hid (Box3.new W3 (.int .i64 2) (.slice am3 2 cm3) (.slice ao3 64 co3) 31)
  clear k ka hr
  go_upto_region 3 with (fail)
  generalize W3.alloc (.cells #[.int .i64 2, .slice am3 2 cm3, .slice ao3 64 co3] 31) = V3 at *
  generalize W3.heap.size = z3 at *
  obtain ⟨x0, x1, x2, -⟩ := HB1.out
  go_wp2_with fail
  clear x0 x1 x2
  with_reducible refine (sane_leave1 HR1.out (HT.out.kept KV.out)).mono ?_
  rintro e W5 ⟨am5, cm5, ao5, co5, rfl, hr, k⟩
  rw [show sl3.length = 1 from rfl] at hr ⊢
  have ka : Keep (fun _ => False) W5 (W5.alloc (.cells #[.int .i64 2, .slice am5 1 cm5, .slice ao5 64 co5] 31)) := (Keep.refl _ W5).alloc _
  replace KV := Lib.hid (KV.out.trans (k.trans ka))
  replace HB1 := Lib.hid (HB1.out.kept (k.trans ka))
  replace HR1 := Lib.hid (HR1.out.kept (k.trans ka))
  replace HB3 := Lib.hid (HB3.out.kept (k.trans ka))
  replace HR3 := Lib.hid (HR3.out.kept (k.trans ka))
  have HR5 := Lib.hid (hr.kept ka)
  have HB5 := Lib.hid (Box3.new W5 (.int .i64 2) (.slice am5 1 cm5) (.slice ao5 64 co5) 31)
  clear k ka hr
  go_upto_region 4 with (fail)
  generalize W5.alloc (.cells #[.int .i64 2, .slice am5 1 cm5, .slice ao5 64 co5] 31) = V5 at *
  generalize W5.heap.size = z5 at *
  obtain ⟨x0, x1, x2, -⟩ := HB5.out
  go_wp2_with fail
  clear x0 x1 x2
  with_reducible refine (sane_leave0 HR5.out (HT.out.kept KV.out)).mono ?_
  rintro e W7 ⟨am7, cm7, ao7, co7, rfl, k⟩
  have ka : Keep (fun _ => False) W7 (W7.alloc (.cells #[.int .i64 0, .slice am7 0 cm7, .slice ao7 0 co7] 31)) := (Keep.refl _ W7).alloc _
  replace KV := Lib.hid (KV.out.trans (k.trans ka))
  replace HB1 := Lib.hid (HB1.out.kept (k.trans ka))
  replace HR1 := Lib.hid (HR1.out.kept (k.trans ka))
  replace HB3 := Lib.hid (HB3.out.kept (k.trans ka))
  replace HR3 := Lib.hid (HR3.out.kept (k.trans ka))
  replace HB5 := Lib.hid (HB5.out.kept (k.trans ka))
  replace HR5 := Lib.hid (HR5.out.kept (k.trans ka))
  have HB7 := Lib.hid (Box3.new W7 (.int .i64 0) (.slice am7 0 cm7) (.slice ao7 0 co7) 31)
  clear k ka
  go_upto_region 5 with (fail)
  generalize W7.alloc (.cells #[.int .i64 0, .slice am7 0 cm7, .slice ao7 0 co7] 31) = V7 at *
  generalize W7.heap.size = z7 at *
  obtain ⟨x0, x1, x2, -⟩ := HB1.out
  go_wp2_with fail
  clear x0 x1 x2
  with_reducible refine (sane_join1 HR1.out (HT.out.kept KV.out)).mono ?_
  rintro e W9 ⟨am9, cm9, ao9, co9, rfl, k⟩
  have ka : Keep (fun _ => False) W9 (W9.alloc (.cells #[.int .i64 0, .slice am9 0 cm9, .slice ao9 0 co9] 31)) := (Keep.refl _ W9).alloc _
  replace KV := Lib.hid (KV.out.trans (k.trans ka))
  replace HB1 := Lib.hid (HB1.out.kept (k.trans ka))
  replace HR1 := Lib.hid (HR1.out.kept (k.trans ka))
  replace HB3 := Lib.hid (HB3.out.kept (k.trans ka))
  replace HR3 := Lib.hid (HR3.out.kept (k.trans ka))
  replace HB5 := Lib.hid (HB5.out.kept (k.trans ka))
  replace HR5 := Lib.hid (HR5.out.kept (k.trans ka))
  replace HB7 := Lib.hid (HB7.out.kept (k.trans ka))
  have HB9 := Lib.hid (Box3.new W9 (.int .i64 0) (.slice am9 0 cm9) (.slice ao9 0 co9) 31)
  clear k ka
  go_upto_region 6 with (fail)
  generalize W9.alloc (.cells #[.int .i64 0, .slice am9 0 cm9, .slice ao9 0 co9] 31) = V9 at *
  generalize W9.heap.size = z9 at *
  obtain ⟨x0, x1, x2, -⟩ := HB1.out
  go_wp2_with fail
  clear x0 x1 x2
  with_reducible refine (sane_join2 HR1.out (HT.out.kept KV.out)).mono ?_
  rintro e W11 ⟨am11, cm11, ao11, co11, rfl, hr, k⟩
  rw [show sl6.length = 3 from rfl] at hr ⊢
  have ka : Keep (fun _ => False) W11 (W11.alloc (.cells #[.int .i64 2, .slice am11 3 cm11, .slice ao11 64 co11] 31)) := (Keep.refl _ W11).alloc _
  replace KV := Lib.hid (KV.out.trans (k.trans ka))
  replace HB1 := Lib.hid (HB1.out.kept (k.trans ka))
  replace HR1 := Lib.hid (HR1.out.kept (k.trans ka))
  replace HB3 := Lib.hid (HB3.out.kept (k.trans ka))
  replace HR3 := Lib.hid (HR3.out.kept (k.trans ka))
  replace HB5 := Lib.hid (HB5.out.kept (k.trans ka))
  replace HR5 := Lib.hid (HR5.out.kept (k.trans ka))
  replace HB7 := Lib.hid (HB7.out.kept (k.trans ka))
  replace HB9 := Lib.hid (HB9.out.kept (k.trans ka))
  have HR11 := Lib.hid (hr.kept ka)
  have HB11 := Lib.hid (Box3.new W11 (.int .i64 2) (.slice am11 3 cm11) (.slice ao11 64 co11) 31)
  clear k ka hr
  go_upto_region 7 with (fail)
  generalize W11.alloc (.cells #[.int .i64 2, .slice am11 3 cm11, .slice ao11 64 co11] 31) = V11 at *
  generalize W11.heap.size = z11 at *
  obtain ⟨x0, x1, x2, -⟩ := HB1.out
  go_wp2_with fail
  clear x0 x1 x2
  with_reducible refine (sane_replace HR1.out (HT.out.kept KV.out)).mono ?_
  rintro e W13 ⟨am13, cm13, ao13, co13, rfl, hr, k⟩
  rw [show sl7.length = 2 from rfl] at hr ⊢
  have ka : Keep (fun _ => False) W13 (W13.alloc (.cells #[.int .i64 2, .slice am13 2 cm13, .slice ao13 64 co13] 31)) := (Keep.refl _ W13).alloc _
  replace KV := Lib.hid (KV.out.trans (k.trans ka))
  replace HB1 := Lib.hid (HB1.out.kept (k.trans ka))
  replace HR1 := Lib.hid (HR1.out.kept (k.trans ka))
  replace HB3 := Lib.hid (HB3.out.kept (k.trans ka))
  replace HR3 := Lib.hid (HR3.out.kept (k.trans ka))
  replace HB5 := Lib.hid (HB5.out.kept (k.trans ka))
  replace HR5 := Lib.hid (HR5.out.kept (k.trans ka))
  replace HB7 := Lib.hid (HB7.out.kept (k.trans ka))
  replace HB9 := Lib.hid (HB9.out.kept (k.trans ka))
  replace HB11 := Lib.hid (HB11.out.kept (k.trans ka))
  replace HR11 := Lib.hid (HR11.out.kept (k.trans ka))
  have HR13 := Lib.hid (hr.kept ka)
  have HB13 := Lib.hid (Box3.new W13 (.int .i64 2) (.slice am13 2 cm13) (.slice ao13 64 co13) 31)
  clear k ka hr
  go_upto_region 8 with (fail)
  generalize W13.alloc (.cells #[.int .i64 2, .slice am13 2 cm13, .slice ao13 64 co13] 31) = V13 at *
  generalize W13.heap.size = z13 at *
  obtain ⟨x0, x1, x2, -⟩ := HB13.out
  obtain ⟨a0, a1, a2, -⟩ := HB1.out
  go_wp2_with fail
  clear x0 x1 x2 a0 a1 a2
  have hl1 : so1.length = 64 := so1_ok.2.2.2.1
  with_reducible refine (moves_any _ _ 1 2 sl1 sl7 so1 so7 V13 HR1.out HR13.out hl1 so7_len).mono ?_
  rintro e W15 ⟨a15, c15, rfl, hmv, k⟩
  obtain ⟨n15, hn15⟩ : ∃ n, (movesK so1 so7 64).length = n := ⟨_, rfl⟩
  have HMV : Hid (Mvs W15 (.slice a15 n15 c15) (movesK so1 so7 64)) := Lib.hid (by
    rw [← hn15]
    exact mvs_owns hmv (by have := movesK_len so1 so7 64; omega) (movesK_bd (okRing_nodes so1_ok) so7_bd))
  have HN15 : Hid ((n15 : Int) = cnt so1 0) := Lib.hid (by rw [← hn15]; exact so7_moves)
  have hlt15 : n15 ≤ 64 := by rw [← hn15]; exact movesK_len so1 so7 64
  rw [hn15]
  replace KV := Lib.hid (KV.out.trans k)
  replace HB1 := Lib.hid (HB1.out.kept k)
  replace HR1 := Lib.hid (HR1.out.kept k)
  replace HB3 := Lib.hid (HB3.out.kept k)
  replace HR3 := Lib.hid (HR3.out.kept k)
  replace HB5 := Lib.hid (HB5.out.kept k)
  replace HR5 := Lib.hid (HR5.out.kept k)
  replace HB11 := Lib.hid (HB11.out.kept k)
  replace HR11 := Lib.hid (HR11.out.kept k)
  replace HB13 := Lib.hid (HB13.out.kept k)
  replace HR13 := Lib.hid (HR13.out.kept k)
  clear hmv k hn15
  go_upto_region 11 with (fail)
  clear HB7 HB9
  have r10 : ∀ p : KA (fun _ => False) W15, p.val.cell? ⟨z1, 0, none⟩ = some (.int .i64 1) := fun p => (HB1.out.kept p.k).1
  have r11 : ∀ p : KA (fun _ => False) W15, p.val.cell? ⟨z1, 1, none⟩ = some (.slice am 2 cm) := fun p => (HB1.out.kept p.k).2.1
  have r12 : ∀ p : KA (fun _ => False) W15, p.val.cell? ⟨z1, 2, none⟩ = some (.slice ao 64 co) := fun p => (HB1.out.kept p.k).2.2.1
  have r130 : ∀ p : KA (fun _ => False) W15, p.val.cell? ⟨z13, 0, none⟩ = some (.int .i64 2) := fun p => (HB13.out.kept p.k).1
  have r131 : ∀ p : KA (fun _ => False) W15, p.val.cell? ⟨z13, 1, none⟩ = some (.slice am13 2 cm13) := fun p => (HB13.out.kept p.k).2.1
  have r132 : ∀ p : KA (fun _ => False) W15, p.val.cell? ⟨z13, 2, none⟩ = some (.slice ao13 64 co13) := fun p => (HB13.out.kept p.k).2.2.1
  refine wp_region_walk [(false, 0), (false, 1), (false, 2), (false, 3), (true, 4), (false, 5), (false, 6), (false, 7), (false, 8), (false, 9), (false, 10), (false, 11), (false, 12), (false, 13), (false, 14), (false, 15), (false, 16), (false, 17), (false, 18), (false, 19), (false, 20), (false, 21), (false, 22), (false, 23), (false, 24), (false, 25), (false, 26), (false, 27), (false, 28), (false, 29), (false, 30), (false, 31), (false, 32), (false, 33), (true, 34), (true, 35), (false, 36), (false, 37), (false, 38), (false, 39), (false, 40), (true, 41), (true, 42), (true, 44), (true, 45), (false, 43), (false, 46), (false, 47), (false, 48), (true, 49), (false, 50), (false, 51), (false, 52), (false, 53), (false, 54), (false, 55)] (inKA (fun _ => False) W15) (by kernel_rfl) (by kernel_rfl) ?_
  have J0 : Hid (Keep (fun _ => False) W15 W15.drew) := Lib.hid (Keep.refl _ W15).drew
  generalize W15.drew = X0 at *
  obtain ⟨x0, x1, x2, -⟩ := HB3.out.kept J0.out
  iterate 4 (refine walkW_do rfl (inKA.of J0.out) (fun K hK => ?_); go_simp; refine hK _ _ ?_; clear hK K)
  iterate 1 (refine walkW_read rfl (fun K hK => ?_); go_simp; refine hK _ ?_; clear hK K)
  iterate 1 (refine walkW_do rfl (inKA.of J0.out) (fun K hK => ?_); go_simp; refine hK _ _ ?_; clear hK K)
  clear x0 x1 x2
  have hl1 : so1.length = 64 := so1_ok.2.2.2.1
  have HM6 : Hid (Calls Tryd.prog 44 _ X0 (MvPost [] X0)) := Lib.hid (by have h := moves_any _ _ 1 2 sl1 sl1 so1 so1 X0 (HR1.out.kept J0.out) (HR3.out.kept J0.out) hl1 hl1; rw [movesK_self] at h; exact h)
  refine walkW_do rfl (inKA.of J0.out) (fun K hK => ?_)
  go_simp
  refine HM6.out.mono ?_
  rintro e X1 ⟨q6, d6, rfl, -, k6⟩
  refine hK _ _ ?_; clear hK K
  have J1 := Lib.hid (J0.out.trans k6)
  simp only [List.length_nil]
  iterate 4 (refine walkW_do rfl (inKA.of J1.out) (fun K hK => ?_); go_simp; refine hK _ _ ?_; clear hK K)
  obtain ⟨x0, x1, x2, -⟩ := HB5.out.kept J1.out
  iterate 1 (refine walkW_do rfl (inKA.of J1.out) (fun K hK => ?_); go_simp; refine hK _ _ ?_; clear hK K)
  clear x0 x1 x2
  have HL5 := Lib.hid (load_any _ 2 sl3 so3 X1 (HR5.out.kept J1.out) 0)
  rw [so3_load] at HL5
  refine walkW_do rfl (inKA.of J1.out) (fun K hK => ?_)
  go_simp
  refine HL5.out.mono ?_
  rintro e X2 ⟨rfl, k7⟩
  refine hK _ _ ?_; clear hK K
  have J2 := Lib.hid (J1.out.trans k7)
  iterate 3 (refine walkW_do rfl (inKA.of J2.out) (fun K hK => ?_); go_simp; refine hK _ _ ?_; clear hK K)
  obtain ⟨x0, x1, x2, -⟩ := HB11.out.kept J2.out
  iterate 1 (refine walkW_do rfl (inKA.of J2.out) (fun K hK => ?_); go_simp; refine hK _ _ ?_; clear hK K)
  clear x0 x1 x2
  have HL6 := Lib.hid (load_any _ 2 sl6 so6 X2 (HR11.out.kept J2.out) 0)
  obtain ⟨hc0, hc2⟩ := so6_load
  obtain ⟨e0, he0⟩ : ∃ c, cnt so6 0 = c := ⟨_, rfl⟩
  obtain ⟨e2, he2⟩ : ∃ c, cnt so6 2 = c := ⟨_, rfl⟩
  have HE2 := Lib.hid he2
  rw [he0] at hc0 HL6
  rw [he2] at hc2
  clear he0 he2
  refine walkW_do rfl (inKA.of J2.out) (fun K hK => ?_)
  go_simp
  refine HL6.out.mono ?_
  rintro e X3 ⟨rfl, k8⟩
  refine hK _ _ ?_; clear hK K
  have J3 := Lib.hid (J2.out.trans k8)
  iterate 3 (refine walkW_do rfl (inKA.of J3.out) (fun K hK => ?_); go_simp; refine hK _ _ ?_; clear hK K)
  obtain ⟨x0, x1, x2, -⟩ := HB11.out.kept J3.out
  iterate 1 (refine walkW_do rfl (inKA.of J3.out) (fun K hK => ?_); go_simp; refine hK _ _ ?_; clear hK K)
  clear x0 x1 x2
  have HL7 := Lib.hid (load_any _ 2 sl6 so6 X3 (HR11.out.kept J3.out) 2)
  rw [HE2.out] at HL7
  refine walkW_do rfl (inKA.of J3.out) (fun K hK => ?_)
  go_simp
  refine HL7.out.mono ?_
  rintro e X4 ⟨rfl, k9⟩
  refine hK _ _ ?_; clear hK K
  have J4 := Lib.hid (J3.out.trans k9)
  iterate 3 (refine walkW_do rfl (inKA.of J4.out) (fun K hK => ?_); go_simp; refine hK _ _ ?_; clear hK K)
  have HC7 : Hid (∃ b7 o7, am13 = some ⟨b7, o7, none⟩ ∧ 2 ≤ cm13 ∧ X4.cell? ⟨b7, o7 + 3, none⟩ = some (.int .i64 7)) := Lib.hid (by
    obtain ⟨-, vm, vo, e, hm, -⟩ := HR13.out.kept J4.out
    cases e
    obtain ⟨-, -, a, c, b, off, hv, hc, ha, hcell⟩ := hm
    cases hv
    exact ⟨b, off, ha (by decide), hc, (hcell 1 ⟨7, 0, 1⟩ rfl).1⟩)
  obtain ⟨b7, o7, rfl, hcm, c7⟩ := HC7.out
  obtain ⟨x0, x1, x2, -⟩ := HB13.out.kept J4.out
  iterate 8 (refine walkW_do rfl (inKA.of J4.out) (fun K hK => ?_); go_simp; refine hK _ _ ?_; clear hK K)
  clear x0 x1 x2
  clear c7 HC7
  iterate 2 (refine walkW_read rfl (fun K hK => ?_); go_simp; refine hK _ ?_; clear hK K)
  obtain ⟨x0, x1, x2, -⟩ := HB1.out.kept J4.out
  iterate 1 (refine walkW_do rfl (inKA.of J4.out) (fun K hK => ?_); go_simp; refine hK _ _ ?_; clear hK K)
  clear x0 x1 x2
  have HL8 := Lib.hid (load_any _ 1 sl1 so1 X4 (HR1.out.kept J4.out) 0)
  rw [← HN15.out] at HL8
  refine walkW_do rfl (inKA.of J4.out) (fun K hK => ?_)
  go_simp
  refine HL8.out.mono ?_
  rintro e X5 ⟨rfl, k10⟩
  refine hK _ _ ?_; clear hK K
  have J5 := Lib.hid (J4.out.trans k10)
  iterate 3 (refine walkW_do rfl (inKA.of J5.out) (fun K hK => ?_); go_simp; refine hK _ _ ?_; clear hK K)
  iterate 4 (refine walkW_read rfl (fun K hK => ?_); go_simp; refine hK _ ?_; clear hK K)
  have HAP : Hid (Calls Tryd.prog 46 _ X5 (CloneI so7 X5)) := Lib.hid (by have h := apply_any _ _ 1 sl1 so1 (movesK so1 so7 64) X5 (HR1.out.kept J5.out) hl1 (HMV.out.kept J5.out) moves_slot; rw [sane_apply] at h; exact h)
  refine walkW_do rfl (inKA.of J5.out) (fun K hK => ?_)
  go_simp
  refine HAP.out.mono ?_
  rintro e X6 ⟨q7, d7, rfl, hown, k11⟩
  refine hK _ _ ?_; clear hK K
  have J6 := Lib.hid (J5.out.trans k11)
  have h64 := so7_len
  have HI7 : Hid (Its X6 (.slice q7 so7.length d7) so7) := Lib.hid (its_owns hown (by rw [h64]; decide) (fun x hx => by have := so7_bd x hx; unfold I64; omega))
  rw [h64] at HI7 ⊢
  have HI8 : Hid (Its X6 (.slice ao13 64 co13) so7) := Lib.hid (by obtain ⟨-, vm, vo, e, -, hi⟩ := HR13.out.kept J6.out; cases e; exact hi)
  have HSI := Lib.hid (sameInts_any _ _ so7 so7 X6 HI7.out HI8.out)
  rw [decide_eq_true (rfl : so7 = so7)] at HSI
  clear hown
  refine walkW_do rfl (inKA.of J6.out) (fun K hK => ?_)
  go_simp
  refine HSI.out.mono ?_
  rintro e X7 ⟨rfl, k12⟩
  refine hK _ _ ?_; clear hK K
  have J7 := Lib.hid (J6.out.trans k12)
  iterate 2 (refine walkW_do rfl (inKA.of J7.out) (fun K hK => ?_); go_simp; refine hK _ _ ?_; clear hK K)
  iterate 1 (refine walkW_read rfl (fun K hK => ?_); go_simp; refine hK _ ?_; clear hK K)
  iterate 1 (refine walkW_do rfl (inKA.of J7.out) (fun K hK => ?_); go_simp; refine hK _ _ ?_; clear hK K)
  have HMN : Hid (Calls Tryd.prog 44 _ X7 (MvPost [] X7)) := Lib.hid (moves_none _ _ 1 0 sl1 [] so1 [] X7 (HR1.out.kept J7.out) (nil_rng X7) hl1 (by decide))
  refine walkW_do rfl (inKA.of J7.out) (fun K hK => ?_)
  go_simp
  refine HMN.out.mono ?_
  rintro e X8 ⟨q8, d8, rfl, -, k13⟩
  refine hK _ _ ?_; clear hK K
  have J8 := Lib.hid (J7.out.trans k13)
  simp only [List.length_nil]
  iterate 4 (refine walkW_do rfl (inKA.of J8.out) (fun K hK => ?_); go_simp; refine hK _ _ ?_; clear hK K)
  refine ⟨inKA.of J8.out, ?_⟩
  go_wp2_with fail
  go_ret
  exact ⟨by simp, KV.out.trans J8.out⟩
end Go.Proofs.YtplkmbfeeegaiaaDoor

/-
  New and Change on lists that are valid, for the laws of Reshard.
-/
namespace Go.Proofs.YtplkmbfeeegaiaaDoor
open Go.RowKit Go.Shelf

theorem good_new {W : World} (vl : Value) (l : List Mb) (h : Mbs W vl l) (hv : VL l) (hT : Tab W) : Calls Tryd.prog 17 #[.int .i64 1, vl] W (GoodPost 1 l (ownersL PN QS l) W) :=
  (new_ok 1 vl l W h hv hT (by decide)).mono (fun _ _ h => h.use hv (by unfold I64; decide))
theorem good_change {W : World} (v vl : Value) (ep : Int) (l l' : List Mb) (ow : List Int) (h : Rng W v ep l ow) (ho : okRing ep l ow) (he : ep < 1000000) (hl : Mbs W vl l') (hv : VL l') (hT : Tab W) : Calls Tryd.prog 43 #[v, vl] W (GoodPost (ep + 1) l' (changeL PN QS l' ow) W) :=
  (changeR_ok v vl ep l l' ow W h ((validRB_iff _ _ _).2 ho) he hl hv hT).mono (fun _ _ h => by
    have h2 := ok_change PN QS ho hv he
    exact h.use hv (by have := ho.1; unfold I64; omega) h2.2.2.2.1 h2.obd)
/-- A valid ring that came out of a call, in blocks of its own. -/
def FreshPost (ep : Int) (l : List Mb) (ow : List Int) (w : World) (e : Ending) (w' : World) : Prop := ∃ am cm ao co, e = .returned (.tuple #[.agg #[.int .i64 ep, .slice am l.length cm, .slice ao 64 co], .int .i64 0]) ∧ Rng w' (.agg #[.int .i64 ep, .slice am l.length cm, .slice ao 64 co]) ep l ow ∧ ((∀ b, (Value.slice am l.length cm).ownBlock = some b → w.heap.size ≤ b) ∧ ∀ b, (Value.slice ao 64 co).ownBlock = some b → w.heap.size ≤ b) ∧ Keep (fun _ => False) w w'
theorem RingPost.fresh {ep : Int} {l : List Mb} {ow : List Int} {w : World} {e : Ending} {w' : World} (h : RingPost ep l ow w e w') (hv : VL l) (hep : I64 ep) (ho : ow.length = 64) (hob : ∀ x ∈ ow, I64 x) : FreshPost ep l ow w e w' := by
  obtain ⟨am, cm, ao, co, rfl, h2, h3, h4⟩ := h
  have h5 := its_owns h3 (by omega) hob
  rw [ho] at h3 h5 ⊢
  exact ⟨am, cm, ao, co, rfl, ⟨hep, _, _, rfl, mbs_owns h2 (by have := hv.len; omega) hv.bd, h5⟩, ⟨fun b hb => (h2.lt b hb).1, fun b hb => (h3.lt b hb).1⟩, h4⟩
theorem fresh_change {W : World} (v vl : Value) (ep : Int) (l l' : List Mb) (ow : List Int) (h : Rng W v ep l ow) (ho : okRing ep l ow) (he : ep < 1000000) (hl : Mbs W vl l') (hv : VL l') (hT : Tab W) : Calls Tryd.prog 43 #[v, vl] W (FreshPost (ep + 1) l' (changeL PN QS l' ow) W) :=
  (changeR_ok v vl ep l l' ow W h ((validRB_iff _ _ _).2 ho) he hl hv hT).mono (fun _ _ h => by
    have h2 := ok_change PN QS ho hv he
    exact h.fresh hv (by have := ho.1; unfold I64; omega) h2.2.2.2.1 h2.obd)
theorem Rng.keep {W W' : World} {A : Nat → Prop} {ep : Int} {a b : Value} {l : List Mb} {ow : List Int} (h : Rng W (.agg #[.int .i64 ep, a, b]) ep l ow) (k : Keep A W W') (ha : ∀ j, a.ownBlock = some j → ¬ A j) (hb : ∀ j, b.ownBlock = some j → ¬ A j) : Rng W' (.agg #[.int .i64 ep, a, b]) ep l ow := by
  obtain ⟨vm, vo, e, h1, h2⟩ := h.at_
  cases e
  exact ⟨h.bd, _, _, rfl, h1.keep k ha, h2.keep k hb⟩
/-- Members, then New. -/
theorem members_mbs {W : World} (v : Value) (xs : List Int) (h : Its W v xs) : Calls Tryd.prog 42 #[v] W fun e w' => ∃ a c, e = .returned (.slice a (mem13 xs).length c) ∧ Mbs w' (.slice a (mem13 xs).length c) (mem13 xs) ∧ Keep (fun _ => False) W w' :=
  (members13_any v xs W h).mono (fun _ _ h => by
    obtain ⟨v', rfl, h1, h2⟩ := h
    obtain ⟨a, c, b, off, rfl, hr⟩ := h1.at_
    exact ⟨a, c, rfl, h1, h2⟩)
end Go.Proofs.YtplkmbfeeegaiaaDoor

/-
  Append of moves; the moves of a ring to the next, turned and doubled.
-/
namespace Go.Proofs.YtplkmbfeeegaiaaDoor
open Go.RowKit Go.Shelf

theorem flatV_append (a b : List Mv) : flatV (a ++ b) = flatV a ++ flatV b := by
  unfold flatV
  rw [List.map_append, flatB_append]
/-- More moves behind an own row, none too. -/
theorem app_mvs0 (W : World) (ty lo : Nat) (v src : Value) (l ys : List Mv) (hown : W.ownsRow lo 60 3 v l.length (flatV l)) (hs : Mvs W src ys) (hn : l.length + ys.length ≤ 100000) (hlo : lo ≤ W.heap.size) :
    ∃ v' w', (Builtin.append_ #[55, 55] ty #[v, src]).run Tryd.prog W = .ok v' w' ∧ w'.ownsRow lo 60 3 v' (l ++ ys).length (flatV (l ++ ys)) ∧
      Keep (fun k => v.ownBlock = some k) W w' := by
  obtain ⟨hn2, hb, a, c, b, off, rfl, hc, ha, hcell⟩ := hs
  rw [List.length_map] at hc ha ⊢
  obtain ⟨i0, hi, hz0, hz1, hz2⟩ := info_parts infoMv
  cases a with
  | none =>
    have : ys = [] := by
      apply List.eq_nil_of_length_eq_zero
      rcases Nat.eq_zero_or_pos ys.length with h | h
      · exact h
      · exact absurd (ha h) (by simp)
    subst this
    exact ⟨v, W, run_append_owned_cap W lo 55 ty 60 i0 3 Tryd.underlying55 hi v l.length _ hown c, by rw [List.append_nil]; exact hown, Keep.refl _ W⟩
  | some ad =>
    obtain ⟨v', w', r1, r2, r3, r4, r5⟩ := run_append_own_at (P := Tryd.prog) W lo 55 ty 60 i0 _ 3 24 Tryd.underlying55 hi hz0 hz1 hz2 rfl (by decide) v l.length (flatV l) hown ad ys.length c (flatV ys) (by unfold flatV; rw [flatB_len, List.length_map])
      (by
        intro j u hj
        have hpos : 0 < ys.length := by
          rcases Nat.eq_zero_or_pos ys.length with h | h
          · have : ys = [] := List.eq_nil_of_length_eq_zero h
            subst this
            simp [flatV, flatB] at hj
          · exact h
        have e := ha hpos
        cases e
        rw [Addr.add_lit]
        exact flatB_cells hcell j u hj)
      (by
        intro u hu
        unfold flatV flatB at hu
        obtain ⟨m, _, hu⟩ := List.mem_flatMap.1 hu
        simp only [encMb, List.mem_cons, List.not_mem_nil, or_false] at hu
        rcases hu with rfl | rfl | rfl <;> rfl) (by unfold maxLen; omega) (by omega) hlo
    refine ⟨v', w', r1, ?_, Keep.of_grown r3⟩
    rw [flatV_append, List.length_append]
    exact r2
/-- A part of a slice of moves. -/
theorem Mvs.cut {W : World} {a : Option Addr} {n c : Nat} {l : List Mv} (h : Mvs W (.slice a n c) l) {q : Nat} (hq : q ≤ n) : Mvs W (.slice a q c) (l.take q) ∧ (l.take q).length = q ∧ n ≤ c := by
  obtain ⟨h1, h2, h3⟩ := Mbs.cut h hq
  rw [← List.map_take] at h1 h2
  exact ⟨h1, by rwa [List.length_map] at h2, h3⟩
theorem Mvs.len {W : World} {a : Option Addr} {n c : Nat} {l : List Mv} (h : Mvs W (.slice a n c) l) : l.length = n := by
  obtain ⟨-, -, a', c', b, off, e, -⟩ := h
  have := (Value.slice.inj e).2.1
  rw [List.length_map] at this
  exact this.symm
/-- The rest of a slice of moves. -/
theorem Mvs.rest {W : World} {b off n c : Nat} {l : List Mv} (h : Mvs W (.slice (some ⟨b, off, none⟩) n c) l) {q : Nat} (hq : q ≤ n) : Mvs W (.slice (some ⟨b, off + q * 3, none⟩) (n - q) (c - q)) (l.drop q) := by
  have hl := h.len
  obtain ⟨h1, h2, a', c', b', off', e, hc, ha, hcell⟩ := h
  rw [List.length_map] at e hc ha h1
  obtain ⟨e1, e2, e3⟩ := Value.slice.inj e
  subst e3
  unfold Mvs
  rw [List.map_drop]
  refine ⟨by rw [List.length_drop, List.length_map]; omega, fun m hm => h2 m (List.mem_of_mem_drop hm), some ⟨b, off + q * 3, none⟩, c - q, b, off + q * 3, by rw [List.length_drop, List.length_map, ← hl], by rw [List.length_drop, List.length_map]; omega, fun _ => rfl, fun j x hj => ?_⟩
  rw [List.getElem?_drop] at hj
  have hpos : 0 < l.length := by
    have := (List.getElem?_eq_some_iff.1 hj).1
    rw [List.length_map] at this
    omega
  have e5 := ha hpos
  rw [← e1] at e5
  cases e5
  have := hcell _ _ hj
  rwa [show off + (q + j) * 3 = off + q * 3 + j * 3 by omega] at this
theorem Mvs.rest0 {W : World} {g n c : Nat} {l : List Mv} (h : Mvs W (.slice (some ⟨g, 0, none⟩) n c) l) {q : Nat} (hq : q ≤ n) : Mvs W (.slice (if c = q then some ⟨g, 0, none⟩ else some ⟨g, q * 3, none⟩) (n - q) (c - q)) (l.drop q) := by
  have hl := h.len
  split
  · rename_i e
    have hc : n ≤ c := (h.cut (Nat.le_refl n)).2.2
    have : l.drop q = [] := List.drop_of_length_le (by omega)
    rw [this, show n - q = 0 by omega, show c - q = 0 by omega]
    exact ⟨by simp, by simp, some ⟨g, 0, none⟩, 0, 0, 0, rfl, by simp, fun h => by simp at h, fun j x hj => by simp at hj⟩
  · have := h.rest hq
    rwa [Nat.zero_add] at this
theorem mvs_nil (W : World) : Mvs W (.slice none 0 0) [] := ⟨by simp, by simp, none, 0, 0, 0, rfl, by simp, fun h => by simp at h, fun j x hj => by simp at hj⟩
/-- A list of moves turned is another order of it. -/
theorem turn_perm {α : Type} (l : List α) (k : Nat) : (l.drop k ++ l.take k).Perm l := by
  have h := List.perm_append_comm (l₁ := l.drop k) (l₂ := l.take k)
  rwa [List.take_append_drop] at h
theorem apply_turned {a b : List Int} (ha : a.length = 64) (hb : b.length = 64) (k : Nat) : applyL a ((movesK a b 64).drop k ++ (movesK a b 64).take k) = b :=
  apply_moves (by omega) (by rw [ha]; exact turn_perm _ k)
theorem apply_doubled {a b : List Int} (ha : a.length = 64) (hb : b.length = 64) (k : Nat) : applyL a (((movesK a b 64).drop k ++ (movesK a b 64).take k) ++ movesK a b 64) = b := by
  rw [applyL_append, apply_turned ha hb]
  have h := apply_again (a := a) (b := b) (by omega)
  rwa [ha] at h
/-- What a move says of its slot. -/
theorem moves_at {a b : List Int} {k : Nat} {s : Nat} (hs : s < k) : (∃ m ∈ movesK a b k, m.slot = s) ↔ b.getD s 0 ≠ a.getD s 0 := by
  constructor
  · rintro ⟨m, hm, e⟩
    obtain ⟨q, _, h2, rfl⟩ := mem_movesK.1 hm
    simp only [] at e
    obtain rfl : q = s := by omega
    exact h2
  · intro h
    exact ⟨⟨s, a.getD s 0, b.getD s 0⟩, mem_movesK.2 ⟨s, hs, h, rfl⟩, rfl⟩
theorem moves_says {a b : List Int} {k : Nat} {m : Mv} {s : Nat} (hm : m ∈ movesK a b k) (e : m.slot = s) : m.frm = a.getD s 0 ∧ m.to_ = b.getD s 0 := by
  obtain ⟨q, _, h2, rfl⟩ := mem_movesK.1 hm
  simp only [] at e ⊢
  obtain rfl : q = s := by omega
  exact ⟨rfl, rfl⟩

/-! ### what a valid ring's slices are -/
theorem cnt_len (ow : List Int) (n : Int) : cnt ow n ≤ ow.length := by
  unfold cnt
  have := List.count_le_length (a := n) (l := ow)
  omega
theorem Rng.owners {W : World} {ep : Int} {a b : Option Addr} {n c m d : Nat} {l : List Mb} {ow : List Int} (h : Rng W (.agg #[.int .i64 ep, .slice a n c, .slice b m d]) ep l ow) (ho : ow.length = 64) : ∃ ob off, b = some ⟨ob, off, none⟩ ∧ m = 64 ∧ 64 ≤ d ∧ ∀ (j : Nat) (x : Int), ow[j]? = some x → W.cell? ⟨ob, off + j, none⟩ = some (.int .i64 x) := by
  obtain ⟨vm, vo, e, h1, h2⟩ := h.at_
  cases e
  obtain ⟨-, -, a', c', ob, off, e, hc, ha, hcell⟩ := h2
  obtain ⟨rfl, rfl, rfl⟩ := Value.slice.inj e
  exact ⟨ob, off, ha (by omega), ho, by omega, hcell⟩
theorem Mbs.nodes {W : World} {a : Option Addr} {n c : Nat} {l : List Mb} (h : Mbs W (.slice a n c) l) (hne : 0 < l.length) : ∃ b off, a = some ⟨b, off, none⟩ ∧ n = l.length ∧ n ≤ c ∧ ∀ (j : Nat) (m : Mb), l[j]? = some m → W.cell? ⟨b, off + j * 3, none⟩ = some (.int .i64 m.node) := by
  obtain ⟨-, -, a', c', b, off, e, hc, ha, hcell⟩ := h
  obtain ⟨rfl, rfl, rfl⟩ := Value.slice.inj e
  exact ⟨b, off, ha hne, rfl, hc, fun j m hj => (hcell j m hj).1⟩
/-- What the law of few finds of a node's limit, members read up to i. -/
def limK (l : List Mb) (n : Int) (i : Nat) : Int := if (l.take i).any (fun m => decide (m.node = n)) then limitL l n else 0
theorem limK_zero (l : List Mb) (n : Int) : limK l n 0 = 0 := by simp [limK]
theorem limK_hit {l : List Mb} {n : Int} {i : Nat} {m : Mb} (h : l[i]? = some m) (e : m.node = n) : limK l n (i + 1) = limitL l n := by
  unfold limK
  rw [List.take_add_one, h, List.any_append]
  simp [e]
theorem limK_miss {l : List Mb} {n : Int} {i : Nat} {m : Mb} (h : l[i]? = some m) (e : m.node ≠ n) : limK l n (i + 1) = limK l n i := by
  unfold limK
  rw [List.take_add_one, h, List.any_append]
  simp [e]
theorem limK_all {l : List Mb} {n : Int} {i : Nat} (h : l.length ≤ i) : limK l n i = limitL l n := by
  unfold limK
  rw [List.take_of_length_le h]
  by_cases e : ∃ m ∈ l, m.node = n
  · rw [if_pos (by rw [List.any_eq_true]; obtain ⟨m, hm, e⟩ := e; exact ⟨m, hm, decide_eq_true e⟩)]
  · rw [limitL_none (fun m hm e' => e ⟨m, hm, e'⟩)]
    split <;> rfl
theorem limK_bd (l : List Mb) (n : Int) (i : Nat) : 0 ≤ limK l n i ∧ limK l n i ≤ 1280 := by
  unfold limK
  have := limitL_nn l n
  split <;> omega
theorem sumK_bd {f : Nat → Int} {B : Int} (h : ∀ n, 0 ≤ f n ∧ f n ≤ B) : ∀ k : Nat, 0 ≤ sumK f k ∧ sumK f k ≤ B * k
  | 0 => by simp [sumK]
  | k + 1 => by
    have ih := sumK_bd h k
    have := h k
    simp only [sumK]
    rw [Int.natCast_add, Int.mul_add]
    omega
theorem kept_min (P : Int → Nat → Int) (Q : Nat → Int) {ep : Int} {l l' : List Mb} {ow : List Int} (h : okRing ep l ow) (hv : VL l') (n : Nat) : keptC ow (changeL P Q l' ow) n 64 = min (cnt ow n) (limitL l' n) := by
  have hl := h.2.2.2.1
  rw [kept_change P Q hv hl (ok_neg h) (by omega) (Nat.le_refl _), keepR_cnt (fun n => (limitL_nn l' n).1) (by omega) (by omega), List.take_of_length_le (by omega)]
  omega
end Go.Proofs.YtplkmbfeeegaiaaDoor

/-
  As G10; one of the free operations, a read, may also come beside the rest's first ones (a late store is not ordered against it).
-/
namespace Go.Proofs.YtplkmbfeeegaiaaDoor
open Go Go.RowKit

section
variable {P : Program} {md : Region.Mode} {ops : Array Oper} {C : World → Prop} {S : Nat → Value → World → Prop} {R : World → World → Prop}

def freeOk3 (md : Region.Mode) (ops : Array Oper) (hs : List FO) (op : Nat) (ts : List (Bool × Nat)) : Nat → Array Bool → Bool
  | 0, listed => (hs.all fun h => listed.getD h.idx false) && walkB md ops ts listed
  | f + 1, listed => (f == 0 && ((hs.all fun h => (h.idx == op && !listed.getD h.idx false) || (!(h.idx == op) && listed.getD h.idx false)) && walkB md ops ((true, op) :: ts) listed)) || (!(Region.ready md ops listed).isEmpty && (Region.ready md ops listed).all fun i => (hs.any fun h => h.idx == i) && freeOk3 md ops hs op ts f (listed.setIfInBounds i true))
/-- The read that may wait, behind all others. -/
def optW (P : Program) (ops : Array Oper) (C : World → Prop) (S : Nat → Value → World → Prop) (a1 : Act) (hs : List FO) (opt : FO) : Prop :=
  ∃ o, ops[opt.idx]? = some o ∧ o.dst = some opt.slot ∧ ∀ vs w, C w → (∀ h ∈ hs, h.idx ≠ opt.idx → S h.slot (vs h.slot) w) → ∀ K : Value → Prop, (∀ v, S opt.slot v w → K v) →
    if Region.wanted o (yielded ops (putL ((hs.filter fun h => !(h.idx == opt.idx)).map FO.slot) vs a1).tmps) then ∃ v, (∀ w, C w → o.quietAt P (putL ((hs.filter fun h => !(h.idx == opt.idx)).map FO.slot) vs a1) (fun w'' => w'' = w) w v) ∧ K v else K undef

theorem wpC_free3 {Q : Act → World → Prop} {hs : List FO} {opt : FO} {ts : List (Bool × Nat)} {a1 : Act} (hmem : opt ∈ hs) (hsel : Region.noSelect ops = true) (hsp : specOk md ops hs = true) (hsz : ∀ h ∈ hs, h.slot < a1.tmps.size)
    (hS : ∀ t v w w', S t v w → R w w' → S t v w') (hR : ∀ w w', C w → R w w' → C w') (hst : freeW P ops C S R a1 hs) (hop : optW P ops C S a1 hs opt)
    (hfin : ∀ vs w, C w → (∀ h ∈ hs, S h.slot (vs h.slot) w) → walkW P ops Q ts C (putL (hs.map FO.slot) vs a1) w) :
    ∀ (f : Nat) (listed : Array Bool) (a : Act) (w : World), freeOk3 md ops hs opt.idx ts f listed = true → FreeInv hs C S a1 listed a w → wpC P md ops C Q (f + ts.length) listed a w
  | 0, listed, a, w, hB, inv => by
    rw [Nat.zero_add]
    simp only [freeOk3, Bool.and_eq_true, List.all_eq_true] at hB
    have ha : a = putL (hs.map FO.slot) (fun t => a.tmps.getD t undef) a1 := by
      obtain ⟨p1, p2⟩ := putL_size (fun t => a.tmps.getD t undef) (hs.map FO.slot) a1
      have ht : a.tmps = (putL (hs.map FO.slot) (fun t => a.tmps.getD t undef) a1).tmps := by
        apply Array.ext_getElem?
        intro t
        by_cases htl : t < a1.tmps.size
        · rw [putL_get _ t _ _ htl]
          by_cases hm : t ∈ hs.map FO.slot
          · rw [if_pos hm, Array.getElem?_eq_getElem (by rw [inv.size]; exact htl)]
            congr 1
            simp [inv.size, htl]
          · rw [if_neg hm]
            exact inv.other t (fun h hh e => absurd (List.mem_map.2 ⟨h, hh, e⟩) hm)
        · rw [Array.getElem?_eq_none (by rw [inv.size]; omega), Array.getElem?_eq_none (by rw [p1]; omega)]
      have hd : a.defers = (putL (hs.map FO.slot) (fun t => a.tmps.getD t undef) a1).defers := inv.defers.trans p2.symm
      generalize putL (hs.map FO.slot) (fun t => a.tmps.getD t undef) a1 = b at ht hd
      cases a
      cases b
      simp only at ht hd
      rw [ht, hd]
    refine wpC_walk hsel ts C listed a w hB.2 ?_
    have h := hfin (fun t => a.tmps.getD t undef) w inv.cls (fun h hh => inv.spec h hh (hB.1 h hh))
    rwa [← ha] at h
  | f + 1, listed, a, w, hB, inv => by
    rw [freeOk3, Bool.or_eq_true] at hB
    rcases hB with hB | hB
    · -- the last one may wait: it is read ahead of the rest
      simp only [Bool.and_eq_true, List.all_eq_true, Bool.or_eq_true, Bool.not_eq_true', beq_iff_eq, beq_eq_false_iff_ne] at hB
      obtain ⟨hf, hl, hw⟩ := hB
      subst hf
      have hspec := hsp
      simp only [specOk, List.all_eq_true, Bool.and_eq_true, beq_iff_eq] at hspec
      have hslot : ∀ h ∈ hs, h.idx = opt.idx → h.slot = opt.slot := fun h hh e => by
        have h1 := (hspec h hh).2 opt hmem
        have h2 : (h.idx == opt.idx) = true := by simp [e]
        rw [h2] at h1
        simpa using h1.symm
      have hidx : ∀ h ∈ hs, h.slot = opt.slot → h.idx = opt.idx := fun h hh e => by
        have h1 := (hspec h hh).2 opt hmem
        have h2 : (h.slot == opt.slot) = true := by simp [e]
        rw [h2] at h1
        simpa using h1
      have ha : a = putL ((hs.filter fun h => !(h.idx == opt.idx)).map FO.slot) (fun t => a.tmps.getD t undef) a1 := by
        obtain ⟨p1, p2⟩ := putL_size (fun t => a.tmps.getD t undef) ((hs.filter fun h => !(h.idx == opt.idx)).map FO.slot) a1
        have ht : a.tmps = (putL ((hs.filter fun h => !(h.idx == opt.idx)).map FO.slot) (fun t => a.tmps.getD t undef) a1).tmps := by
          apply Array.ext_getElem?
          intro t
          by_cases htl : t < a1.tmps.size
          · rw [putL_get _ t _ _ htl]
            by_cases hm : t ∈ (hs.filter fun h => !(h.idx == opt.idx)).map FO.slot
            · rw [if_pos hm, Array.getElem?_eq_getElem (by rw [inv.size]; exact htl)]
              congr 1
              simp [inv.size, htl]
            · rw [if_neg hm]
              refine inv.other t (fun h hh e => ?_)
              rcases hl h hh with ⟨_, h2⟩ | ⟨h1, _⟩
              · exact h2
              · exact absurd (List.mem_map.2 ⟨h, List.mem_filter.2 ⟨hh, by simpa using h1⟩, e⟩) hm
          · rw [Array.getElem?_eq_none (by rw [inv.size]; omega), Array.getElem?_eq_none (by rw [p1]; omega)]
        have hd : a.defers = (putL ((hs.filter fun h => !(h.idx == opt.idx)).map FO.slot) (fun t => a.tmps.getD t undef) a1).defers := inv.defers.trans p2.symm
        generalize putL ((hs.filter fun h => !(h.idx == opt.idx)).map FO.slot) (fun t => a.tmps.getD t undef) a1 = b at ht hd
        cases a
        cases b
        simp only at ht hd
        rw [ht, hd]
      obtain ⟨o, ho, hdst, hr⟩ := hop
      have hvs : ∀ h ∈ hs, h.idx ≠ opt.idx → S h.slot ((fun t => a.tmps.getD t undef) h.slot) w := fun h hh hne => by
        rcases hl h hh with ⟨h1, _⟩ | ⟨_, h2⟩
        · exact absurd h1 hne
        · exact inv.spec h hh h2
      have hr := hr (fun t => a.tmps.getD t undef) w inv.cls hvs (fun v => S opt.slot v w) (fun v h => h)
      rw [← ha] at hr
      have hgo : ∀ v, S opt.slot v w → walkW P ops Q ts C (a.put o.dst v) w := fun v hv => by
        have h := hfin (fun t => if t = opt.slot then v else a.tmps.getD t undef) w inv.cls (fun h hh => by
          by_cases e : h.idx = opt.idx
          · have := hslot h hh e
            simp only [this, if_true]
            exact hv
          · simp only [if_neg (fun e' => e (hidx h hh e'))]
            exact hvs h hh e)
        have e : putL (hs.map FO.slot) (fun t => if t = opt.slot then v else a.tmps.getD t undef) a1 = a.put o.dst v := by
          obtain ⟨p1, p2⟩ := putL_size (fun t => if t = opt.slot then v else a.tmps.getD t undef) (hs.map FO.slot) a1
          rw [hdst]
          have ht : (putL (hs.map FO.slot) (fun t => if t = opt.slot then v else a.tmps.getD t undef) a1).tmps = (a.put (some opt.slot) v).tmps := by
            apply Array.ext_getElem?
            intro t
            by_cases htl : t < a1.tmps.size
            · rw [putL_get _ t _ _ htl]
              by_cases e : t = opt.slot
              · subst e
                rw [if_pos (List.mem_map.2 ⟨opt, hmem, rfl⟩), if_pos rfl]
                simp [Act.put, inv.size, htl]
              · have h1 : (a.put (some opt.slot) v).tmps[t]? = a.tmps[t]? := by
                  simp only [Act.put]
                  exact Array.getElem?_setIfInBounds_ne (fun e' => e e'.symm)
                rw [h1]
                by_cases hm : t ∈ hs.map FO.slot
                · rw [if_pos hm, if_neg e, Array.getElem?_eq_getElem (by rw [inv.size]; exact htl)]
                  congr 1
                  simp [inv.size, htl]
                · rw [if_neg hm]
                  exact (inv.other t (fun h hh e' => absurd (List.mem_map.2 ⟨h, hh, e'⟩) hm)).symm
            · rw [Array.getElem?_eq_none (by rw [p1]; omega), Array.getElem?_eq_none (by simp [Act.put, inv.size]; omega)]
          have hd : (putL (hs.map FO.slot) (fun t => if t = opt.slot then v else a.tmps.getD t undef) a1).defers = (a.put (some opt.slot) v).defers := p2.trans inv.defers.symm
          generalize putL (hs.map FO.slot) (fun t => if t = opt.slot then v else a.tmps.getD t undef) a1 = b1 at ht hd
          generalize a.put (some opt.slot) v = b2 at ht hd
          cases b1
          cases b2
          simp only at ht hd
          rw [ht, hd]
        rwa [e] at h
      rw [show 0 + 1 + ts.length = ((true, opt.idx) :: ts).length by simp; omega]
      refine wpC_walk hsel ((true, opt.idx) :: ts) C listed a w hw ?_
      by_cases hwn : Region.wanted o (yielded ops a.tmps) = true
      · rw [if_pos hwn] at hr
        obtain ⟨v, h2, h3⟩ := hr
        exact ⟨o, v, ho, .inl ⟨hwn, h2⟩, hgo v h3⟩
      · rw [if_neg hwn] at hr
        exact ⟨o, undef, ho, .inr ⟨by simpa using hwn, rfl⟩, hgo undef hr⟩
    simp only [Bool.and_eq_true, List.all_eq_true, List.any_eq_true, Bool.not_eq_true', beq_iff_eq] at hB
    obtain ⟨hne, hall⟩ := hB
    rw [show f + 1 + ts.length = (f + ts.length) + 1 by omega]
    refine ⟨inv.cls, fun h0 => (by rw [h0] at hne; simp at hne), fun i hi => ?_⟩
    obtain ⟨⟨h, hh, rfl⟩, hB2⟩ := hall i hi
    have hspec := hsp
    simp only [specOk, List.all_eq_true, Bool.and_eq_true] at hspec
    obtain ⟨⟨q1, q2⟩, q3⟩ := hspec h hh
    cases ho : ops[h.idx]? with
    | none => rw [ho] at q1; cases q1
    | some o =>
      rw [ho] at q1
      simp only [Bool.and_eq_true, List.all_eq_true, Bool.or_eq_true, Bool.not_eq_true', beq_iff_eq, Option.isNone_iff_eq_none] at q1
      obtain ⟨⟨g1, g2⟩, g3⟩ := q1
      obtain ⟨hun, oj, hoj, hwait⟩ := mem_ready.1 hi
      obtain rfl : oj = o := Option.some.inj (hoj.symm.trans ho)
      -- what it reads is listed
      have hdeps : ∀ d ∈ h.deps, ∃ k ∈ hs, k.slot = d ∧ listed.getD k.idx false = true := fun d hd => by
        obtain ⟨k, hk, e⟩ := List.any_eq_true.1 (q2 d hd)
        simp only [Bool.and_eq_true, beq_iff_eq] at e
        obtain ⟨oj', hoj', e', he', hb', hon'⟩ := Region.waitsFor_spec e.2
        obtain rfl : oj' = oj := Option.some.inj (hoj'.symm.trans ho)
        have := hwait e' he' hb'
        rw [hon'] at this
        exact ⟨k, hk, e.1, this⟩
      have hev : execOp a.eval oj = execOp (putL h.deps (fun t => a.tmps.getD t undef) a1).eval oj := by
        refine execOp_congr oj (fun cs b => Region.noSelect_spec hsel h.idx oj cs b ho) (fun x hx => ?_)
        cases x with
        | tmp t =>
          show a.tmps.getD t undef = (putL h.deps (fun t => a.tmps.getD t undef) a1).tmps.getD t undef
          by_cases htl : t < a1.tmps.size
          · have e2 : (putL h.deps (fun t => a.tmps.getD t undef) a1).tmps.getD t undef = if t ∈ h.deps then a.tmps.getD t undef else a1.tmps.getD t undef := by
              rw [Array.getD_eq_getD_getElem?, putL_get _ t _ _ htl]
              by_cases hnd : t ∈ h.deps
              · rw [if_pos hnd, if_pos hnd]; rfl
              · rw [if_neg hnd, if_neg hnd, Array.getD_eq_getD_getElem?]
            rw [e2]
            by_cases hnd : t ∈ h.deps
            · rw [if_pos hnd]
            · rw [if_neg hnd]
              refine getD_of_get? (inv.other t (fun k hk e => ?_))
              rcases g3 k hk with h3 | h3
              · exfalso
                have hmem : t ∈ tmpsOf oj := List.mem_filterMap.2 ⟨.tmp t, by simpa using hx, rfl⟩
                rw [e] at h3
                have : (tmpsOf oj).contains t = true := by simpa using hmem
                rw [this] at h3
                cases h3
              · rw [e] at h3
                exact absurd (by simpa using h3) hnd
          · rw [Array.getD_eq_getD_getElem?, Array.getD_eq_getD_getElem?, Array.getElem?_eq_none (by rw [inv.size]; exact Nat.le_of_not_lt htl), Array.getElem?_eq_none (by rw [(putL_size _ _ _).1]; exact Nat.le_of_not_lt htl)]
        | _ => rfl
      have hwp := freeW_mem hst h hh oj ho (fun t => a.tmps.getD t undef) w inv.cls (fun d hd => by
        obtain ⟨k, hk, e, hl⟩ := hdeps d hd
        have := inv.spec k hk hl
        rwa [e] at this) (fun v w' => S h.slot v w' ∧ R w w') (fun v w' h1 h2 => ⟨h1, h2⟩)
      -- the next state
      have hnext : ∀ u w', (S h.slot (((putL h.deps (fun t => a.tmps.getD t undef) a1).put oj.dst u).tmps.getD h.slot undef) w' ∧ R w w') → wpC P md ops C Q (f + ts.length) (listed.setIfInBounds h.idx true) (a.put oj.dst u) w' := fun u w' ⟨e2, e3⟩ => by
        rw [g2] at e2 ⊢
        have hsl := hsz h hh
        have huv : ((putL h.deps (fun t => a.tmps.getD t undef) a1).put (some h.slot) u).tmps.getD h.slot undef = u := by
          have hb : h.slot < (putL h.deps (fun t => a.tmps.getD t undef) a1).tmps.size := by rw [(putL_size _ _ _).1]; exact hsl
          generalize putL h.deps (fun t => a.tmps.getD t undef) a1 = b at hb
          simp [Act.put, hb]
        rw [huv] at e2
        have hlt : h.idx < listed.size := by
          rcases Nat.lt_or_ge h.idx listed.size with h' | h'
          · exact h'
          · simp [Array.getElem?_eq_none h'] at hun
        have hset : ∀ j, (listed.setIfInBounds h.idx true).getD j false = if j = h.idx then true else listed.getD j false := fun j => by
          by_cases e : j = h.idx
          · subst e; simp [hlt]
          · rw [if_neg e, getD_set_ne false (fun e' => e e'.symm)]
        refine wpC_free3 hmem hsel hsp hsz hS hR hst hop hfin f _ _ _ hB2 ⟨inv.defers, by simp [Act.put, inv.size], fun t ht => ?_, fun k hk hl => ?_, hR _ _ inv.cls e3⟩
        · have hne : h.slot ≠ t := fun e => by
            have := ht h hh e
            rw [hset, if_pos rfl] at this
            cases this
          have h1 : (a.put (some h.slot) u).tmps[t]? = a.tmps[t]? := by
            simp only [Act.put]
            exact Array.getElem?_setIfInBounds_ne hne
          rw [h1]
          refine inv.other t (fun k hk e => ?_)
          have := ht k hk e
          rw [hset] at this
          split at this
          · cases this
          · exact this
        · by_cases e : k.idx = h.idx
          · have e' : k.slot = h.slot := by
              have h1 := q3 k hk
              rw [beq_iff_eq] at h1
              have h2 : (h.idx == k.idx) = true := by simp [e]
              rw [h2] at h1
              have := h1.symm
              simp only [beq_iff_eq] at this
              exact this.symm
            rw [e']
            have : (a.put (some h.slot) u).tmps.getD h.slot undef = u := by
              simp [Act.put, inv.size, hsl]
            rw [this]
            exact e2
          · have e' : k.slot ≠ h.slot := fun e' => by
              have h1 := q3 k hk
              rw [beq_iff_eq] at h1
              have h2 : (h.slot == k.slot) = true := by simp [e']
              rw [h2] at h1
              simp only [beq_iff_eq] at h1
              exact e h1.symm
            rw [hset, if_neg e] at hl
            have h1 : (a.put (some h.slot) u).tmps.getD k.slot undef = a.tmps.getD k.slot undef := getD_of_get? (by
              simp only [Act.put]
              exact Array.getElem?_setIfInBounds_ne (fun e => e' e.symm))
            rw [h1]
            exact hS _ _ _ _ (inv.spec k hk hl) e3
      unfold wpOp
      simp only [ho]
      have hw : Region.wanted oj (yielded ops a.tmps) = true := by unfold Region.wanted; rw [g1]
      simp only [hw, if_true]
      refine .inl ?_
      unfold Oper.wp at hwp ⊢
      rw [hev]
      generalize (execOp (putL h.deps (fun t => a.tmps.getD t undef) a1).eval oj).run P w = r at *
      cases r with
      | ok n w' =>
        cases n <;> simp only [Oper.upon] at hwp ⊢
        case value u => exact hnext u w' hwp.2
        case skip => exact hnext _ w' hwp.2
        case defer d =>
          obtain ⟨e1, -⟩ := hwp
          exfalso
          have e2 := (putL_size (fun t => a.tmps.getD t undef) h.deps a1).2
          generalize putL h.deps (fun t => a.tmps.getD t undef) a1 = b at e1 e2
          have := congrArg List.length e1
          rw [g2] at this
          simp [Act.put, e2] at this
        case enter f' args =>
          refine Calls.mono hwp fun e w'' he => ?_
          cases e with
          | returned u => exact hnext u w'' he.2
          | panicked c => exact he
          | outgrown => exact he
        case row row args => exact Rows.mono hwp fun u w'' he => hnext u w'' he.2
      | halt x w' => cases x <;> simp only [Oper.upon] at hwp <;> exact hwp.elim

/-- The reads, the free operations, the rest. -/
def regionFreeOk3 (ops : Array Oper) (hs : List FO) (opt : FO) (ts : List (Bool × Nat)) : List Nat → Array Bool → Bool
  | [], listed => (hs.all fun h => !listed.getD h.idx false) && freeOk3 .any ops hs opt.idx ts hs.length listed
  | k :: rest, listed => (Region.ready .any ops listed).contains k && Region.free .any ops listed k && regionFreeOk3 ops hs opt ts rest (listed.setIfInBounds k true)
theorem wpC_reads3 {Q : Act → World → Prop} {hs : List FO} {opt : FO} {ts : List (Bool × Nat)} (hmem : opt ∈ hs) (hsel : Region.noSelect ops = true) (hsp : specOk .any ops hs = true)
    (hS : ∀ t v w w', S t v w → R w w' → S t v w') (hR : ∀ w w', C w → R w w' → C w') (w : World) (hC : C w) : ∀ (rs : List Nat) (listed : Array Bool) (a : Act), regionFreeOk3 ops hs opt ts rs listed = true →
    headW P ops C (fun a1 => (∀ h ∈ hs, h.slot < a1.tmps.size) ∧ freeW P ops C S R a1 hs ∧ optW P ops C S a1 hs opt ∧ ∀ vs w, C w → (∀ h ∈ hs, S h.slot (vs h.slot) w) → walkW P ops Q ts C (putL (hs.map FO.slot) vs a1) w) rs a → wpC P .any ops C Q (rs.length + (hs.length + ts.length)) listed a w
  | [], listed, a, hB, h => by
    simp only [regionFreeOk3, Bool.and_eq_true, List.all_eq_true, Bool.not_eq_true'] at hB
    obtain ⟨h1, h2, h3, h4⟩ := h
    rw [List.length_nil, Nat.zero_add]
    exact wpC_free3 hmem hsel hsp h1 hS hR h2 h3 h4 _ _ _ _ hB.2 ⟨rfl, rfl, fun _ _ => rfl, fun k hk hl => (by rw [hB.1 k hk] at hl; cases hl), hC⟩
  | k :: rest, listed, a, hB, h => by
    simp only [regionFreeOk3, Bool.and_eq_true] at hB
    obtain ⟨⟨hr, hf⟩, hB'⟩ := hB
    obtain ⟨o, v, ho, hy, h⟩ := h
    rw [List.length_cons, show rest.length + 1 + (hs.length + ts.length) = (rest.length + (hs.length + ts.length)) + 1 by omega]
    exact wpC_first ho (Region.noSelect_spec hsel) _ listed a w (Region.free_spec ho hf) (by simpa using hr) hy (wpC_reads3 hmem hsel hsp hS hR w hC rest _ _ hB' h)
def regFreeOk3 (ops : Array Oper) (rs : List Nat) (hs : List FO) (opt : FO) (ts : List (Bool × Nat)) : Bool := Region.noSelect ops && decide (rs.length + (hs.length + ts.length) = ops.size) && specOk .any ops hs && regionFreeOk3 ops hs opt ts rs (Array.replicate ops.size false)
theorem wp_region_free3 {id : Nat} {Q : Exit → Act → World → Prop} {a : Act} {w : World} {l : List Oper} (rs : List Nat) (hs : List FO) (opt : FO) (hmem : opt ∈ hs) (ts : List (Bool × Nat)) (C : World → Prop) (S : Nat → Value → World → Prop) (R : World → World → Prop) (hm : P.follows .mixedOrders = true) (hB : regFreeOk3 l.toArray rs hs opt ts = true) (hC : C w.drew)
    (hS : ∀ t v w w', S t v w → R w w' → S t v w') (hR : ∀ w w', C w → R w w' → C w')
    (h : headW P l.toArray C (fun a1 => (∀ h ∈ hs, h.slot < a1.tmps.size) ∧ freeW P l.toArray C S R a1 hs ∧ optW P l.toArray C S a1 hs opt ∧ ∀ vs w, C w → (∀ h ∈ hs, S h.slot (vs h.slot) w) → walkW P l.toArray (fun a w => Q .normal a w) ts C (putL (hs.map FO.slot) vs a1) w) rs a) : (Code.region id l.toArray true).wp P Q a w := by
  simp only [regFreeOk3, Bool.and_eq_true, decide_eq_true_eq] at hB
  obtain ⟨⟨⟨hsel, hlen⟩, hsp⟩, hB⟩ := hB
  refine wp_region_any hm (wpAny_of_wpC (C := C) (Q := fun a w => Q .normal a w) (fun _ _ h => h) _ _ _ _ ?_)
  rw [← hlen]
  exact wpC_reads3 hmem hsel hsp hS hR w.drew hC rs _ a (by rw [hlen]; exact hB) h
end
end Go.Proofs.YtplkmbfeeegaiaaDoor

/-
  A next ring that is made in a drawn region: what its operations answer.
-/
namespace Go.Proofs.YtplkmbfeeegaiaaDoor
open Go.RowKit Go.Shelf

/-- A next ring in slices of its own. -/
def NextV (B : Nat) (ep : Int) (l : List Mb) (ow : List Int) (n : Nat) (v : Value) (W : World) : Prop := ∃ a c b d, v = .tuple #[.agg #[.int .i64 ep, .slice a n c, .slice b 64 d], .int .i64 0] ∧ W.ownsRow B 25 3 (.slice a n c) n (flatB l) ∧ W.ownsRow B 3 1 (.slice b 64 d) 64 (ow.map (fun x => Value.int .i64 x))
def NextA (B : Nat) (ep : Int) (l : List Mb) (ow : List Int) (n : Nat) (v : Value) (W : World) : Prop := ∃ a c b d, v = .agg #[.int .i64 ep, .slice a n c, .slice b 64 d] ∧ W.ownsRow B 25 3 (.slice a n c) n (flatB l) ∧ W.ownsRow B 3 1 (.slice b 64 d) 64 (ow.map (fun x => Value.int .i64 x))
/-- The answers of a region's free operations: Members, Change, the tuple's copy, the box, the ring, the error. -/
def nextS (tm tc tv tb ta te : Nat) (B : Nat) (ep : Int) (l : List Mb) (ow : List Int) (n : Nat) (t : Nat) (v : Value) (W : World) : Prop :=
  (t = tm → ∃ a c, v = .slice a n c ∧ Mbs W v l) ∧ (t = tc ∨ t = tv → NextV B ep l ow n v W) ∧
  (t = tb → ∃ z, v = ptr z ∧ B ≤ z ∧ Box3 W z (.int .i64 0) (.slice none 0 0) (.slice none 0 0) ∧ BoxT W z 31) ∧
  (t = ta → NextA B ep l ow n v W) ∧ (t = te → v = .int .i64 0)
theorem nextS_keep {tm tc tv tb ta te : Nat} {B : Nat} {ep : Int} {l : List Mb} {ow : List Int} {n : Nat} (t : Nat) (v : Value) (w w' : World) (h : nextS tm tc tv tb ta te B ep l ow n t v w) (k : Keep (fun _ => False) w w') : nextS tm tc tv tb ta te B ep l ow n t v w' := by
  obtain ⟨h1, h2, h3, h4, h5⟩ := h
  refine ⟨fun e => ?_, fun e => ?_, fun e => ?_, fun e => ?_, h5⟩
  · obtain ⟨a, c, q1, q2⟩ := h1 e
    exact ⟨a, c, q1, q2.kept k⟩
  · obtain ⟨a, c, b, d, q1, q2, q3⟩ := h2 e
    exact ⟨a, c, b, d, q1, ownsRow_keep q2 k (fun _ _ h => h), ownsRow_keep q3 k (fun _ _ h => h)⟩
  · obtain ⟨z, q1, q2, q3, q4⟩ := h3 e
    exact ⟨z, q1, q2, q3.kept k, q4.kept k⟩
  · obtain ⟨a, c, b, d, q1, q2, q3⟩ := h4 e
    exact ⟨a, c, b, d, q1, ownsRow_keep q2 k (fun _ _ h => h), ownsRow_keep q3 k (fun _ _ h => h)⟩
def NextPost (ep : Int) (l : List Mb) (ow : List Int) (w : World) (e : Ending) (w' : World) : Prop := ∃ v, e = .returned v ∧ NextV w.heap.size ep l ow l.length v w' ∧ Keep (fun _ => False) w w'
theorem next_change {W : World} (v vl : Value) (ep : Int) (l l' : List Mb) (ow : List Int) (h : Rng W v ep l ow) (ho : okRing ep l ow) (he : ep < 1000000) (hl : Mbs W vl l') (hv : VL l') (hT : Tab W) : Calls Tryd.prog 43 #[v, vl] W (NextPost (ep + 1) l' (changeL PN QS l' ow) W) :=
  (changeR_ok v vl ep l l' ow W h ((validRB_iff _ _ _).2 ho) he hl hv hT).mono (fun _ _ h => by
    have h2 := ok_change PN QS ho hv he
    obtain ⟨am, cm, ao, co, rfl, h3, h4, h5⟩ := h
    rw [h2.2.2.2.1] at h4 ⊢
    exact ⟨_, rfl, ⟨am, cm, ao, co, rfl, h3, h4⟩, h5⟩)
theorem NextV.lo {B B' : Nat} {ep : Int} {l : List Mb} {ow : List Int} {n : Nat} {v : Value} {W : World} (h : NextV B ep l ow n v W) (hb : B' ≤ B) : NextV B' ep l ow n v W := by
  obtain ⟨a, c, b, d, q1, q2, q3⟩ := h
  exact ⟨a, c, b, d, q1, ownsRow_lo q2 hb, ownsRow_lo q3 hb⟩
/-- The next ring as the contracts want it. -/
theorem next_rng {B : Nat} {ep : Int} {l : List Mb} {ow : List Int} {a b : Option Addr} {n c d : Nat} {W : World} (hm : W.ownsRow B 25 3 (.slice a n c) n (flatB l)) (ho : W.ownsRow B 3 1 (.slice b 64 d) 64 (ow.map (fun x => Value.int .i64 x))) (hn : l.length = n) (hk : okRing ep l ow) : Rng W (.agg #[.int .i64 ep, .slice a n c, .slice b 64 d]) ep l ow := by
  have h1 := hk.1
  have h2 := hk.2.1
  have hv := hk.2.2.1
  subst hn
  refine ⟨by unfold I64; omega, _, _, rfl, mbs_owns hm (by have := hv.len; omega) hv.bd, ?_⟩
  rw [← hk.2.2.2.1] at ho
  have := its_owns ho (by rw [hk.2.2.2.1]; decide) hk.obd
  rwa [hk.2.2.2.1] at this
/-- The blocks of a ring lie in memory. -/
theorem Rng.low {W : World} {ep : Int} {a b : Option Addr} {n c m d : Nat} {l : List Mb} {ow : List Int} (h : Rng W (.agg #[.int .i64 ep, .slice a n c, .slice b m d]) ep l ow) (hl : 0 < l.length) (ho : 0 < ow.length) : (∀ j, (Value.slice a n c).ownBlock = some j → j < W.heap.size) ∧ ∀ j, (Value.slice b m d).ownBlock = some j → j < W.heap.size := by
  obtain ⟨vm, vo, e, h1, h2⟩ := h.at_
  cases e
  constructor
  · intro j hj
    obtain ⟨-, -, a', c', b', off, e, hc, ha, hcell⟩ := h1
    obtain ⟨rfl, rfl, rfl⟩ := Value.slice.inj e
    obtain rfl := ha hl
    cases hj
    exact World.block_lt_of_cell? _ _ (hcell 0 _ (List.getElem?_eq_getElem hl)).1
  · intro j hj
    obtain ⟨-, -, a', c', b', off, e, hc, ha, hcell⟩ := h2
    obtain ⟨rfl, rfl, rfl⟩ := Value.slice.inj e
    obtain rfl := ha ho
    cases hj
    exact World.block_lt_of_cell? _ _ (hcell 0 _ (List.getElem?_eq_getElem ho))
theorem Rng.its {W : World} {ep : Int} {v b : Value} {l : List Mb} {ow : List Int} (h : Rng W (.agg #[.int .i64 ep, v, b]) ep l ow) : Its W b ow := by
  obtain ⟨vm, vo, e, h1, h2⟩ := h.at_
  cases e
  exact h2
end Go.Proofs.YtplkmbfeeegaiaaDoor

/-
  The plain law of ReshardChain and ReshardKeys: what several changes make of the owners.
-/
namespace Go.Proofs.YtplkmbfeeegaiaaDoor

/-- Where a chain of changes stands. -/
structure ChainSt (o0 : List Int) (k : Nat) (ep : Int) (l : List Mb) (o : List Int) (all : List Mv) : Prop where
  ok : okRing ep l o
  ep_ : 1 ≤ ep ∧ ep ≤ 1 + k
  eq : applyL o0 all = o
  len : all.length ≤ 64 * k
  slot : ∀ m ∈ all, 0 ≤ m.slot ∧ m.slot < 64
  bd : ∀ m ∈ all, I64 m.slot ∧ I64 m.frm ∧ I64 m.to_
theorem ChainSt.first {l : List Mb} {o : List Int} (h : okRing 1 l o) : ChainSt o 0 1 l o [] :=
  ⟨h, by omega, rfl, by simp, fun m hm => by simp at hm, fun m hm => by simp at hm⟩
theorem ChainSt.next {P : Int → Nat → Int} {Q : Nat → Int} {o0 : List Int} {k : Nat} {ep : Int} {l l' : List Mb} {o : List Int} {all : List Mv} (h : ChainSt o0 k ep l o all) (hv : VL l') (hk : k < 100) :
    ChainSt o0 (k + 1) (ep + 1) l' (changeL P Q l' o) (all ++ movesK o (changeL P Q l' o) 64) := by
  have h2 := ok_change P Q h.ok hv (by have := h.ep_; omega)
  have ho := h.ok.2.2.2.1
  have ho2 := h2.2.2.2.1
  refine ⟨h2, by have := h.ep_; omega, ?_, ?_, fun m hm => ?_, fun m hm => ?_⟩
  · rw [applyL_append, h.eq]
    exact apply_moves (by omega) (by rw [ho])
  · have := movesK_len o (changeL P Q l' o) 64
    have := h.len
    rw [List.length_append]
    omega
  · rcases List.mem_append.1 hm with hm | hm
    · exact h.slot m hm
    · exact moves_slot m hm
  · rcases List.mem_append.1 hm with hm | hm
    · exact h.bd m hm
    · exact movesK_bd (okRing_nodes h.ok) (okRing_nodes h2) m hm
/-- A slot is named by a move exactly where its owner changes. -/
theorem named_iff {a b : List Int} {s : Nat} (hs : s < 64) : (movesK a b 64).any (fun m => decide (m.slot = s)) = (b.getD s 0 != a.getD s 0) := by
  rw [Bool.eq_iff_iff, List.any_eq_true, bne_iff_ne]
  rw [← moves_at (a := a) (b := b) (k := 64) hs]
  constructor
  · rintro ⟨m, hm, e⟩
    exact ⟨m, hm, by simpa using e⟩
  · rintro ⟨m, hm, e⟩
    exact ⟨m, hm, by simpa using e⟩
theorem any_next {l : List Mv} {k : Nat} {m : Mv} {s : Nat} (h : l[k]? = some m) : (l.take (k + 1)).any (fun m => decide (m.slot = s)) = ((l.take k).any (fun m => decide (m.slot = s)) || decide (m.slot = s)) := by
  rw [List.take_add_one, h, List.any_append]
  simp
end Go.Proofs.YtplkmbfeeegaiaaDoor

/-
  From a row's own condition to the walks: the table, the slices of integers.
-/
namespace Go.Proofs.YtplkmbfeeegaiaaDoor
open Go.ChangeShapes Go.WideShapes Go.ChangeAt Go.RowKit Go.Shelf

/-- What every row lists. -/
abbrev laid4 : List (String × DataW Unit) := [("math/bits.deBruijn32tab", Rows.laid_math_bits_deBruijn32tab), ("math/bits.deBruijn64tab", Rows.laid_math_bits_deBruijn64tab), ("internal/strconv.uint64pow10", Rows.laid_internal_strconv_uint64pow10), ("cachetier/wire.nibbles", Rows.laid_cachetier_wire_nibbles)]
theorem own : ownKnob Tryd.prog.godebug = none := by kernel_rfl
theorem laidOut : laidOutB Tryd.prog = true := by kernel_rfl
theorem gNib : Tryd.prog.globalNamed "cachetier/wire.nibbles" = some 0 := by kernel_rfl
theorem tNib : (Tryd.prog.globals[0]?).map (·.type) = some 105 := by kernel_rfl
theorem cellsI : Tryd.prog.cellsOf 3 = 1 := by kernel_rfl
theorem bytesI : Tryd.prog.bytesOf 3 = 8 := by kernel_rfl
theorem door_met (os : Os) (args : Array Value) : laidMetH Tryd.prog laid4 ((World.doorLaid Tryd.prog 400 os).forCall (fun _ _ => 0) ⟨#[], args, []⟩).memory :=
  laidMetH_of_parts3 (fuel := 8) (laidMet_of_run' 8 (by kernel_rfl) (by kernel_rfl)) (by kernel_rfl) (by kernel_rfl)
theorem tab_of_laid {W : World} (h : laidMetH Tryd.prog laid4 W) : Tab W := by
  rw [MakeChecks.laidMetH_plain _ _ _ (by kernel_rfl)] at h
  have h3 := h.tail.tail.tail
  have ht : Lib.TabIs Tryd.prog W "cachetier/wire.nibbles" .u32 (tabL.map (fun n : Nat => (n : Int))) := Lib.tabIs_of_head gNib tNib Tryd.underlying105 Tryd.underlying103 (by kernel_rfl) (by kernel_rfl) h3
  intro i hi
  have hc := ht.cell gNib i (by rw [List.length_map]; exact hi)
  rw [hc, List.getD_eq_getElem?_getD, List.getElem?_map, List.getD_eq_getElem?_getD]
  cases hx : tabL[i]? with
  | none => rfl
  | some x => rfl
theorem ints_open {H : Type} {enc : TypeId × Value → H} {w : World} {base fuel : Nat} {spare : Nat → Bool} {held : Bool} {a : Option Addr} {len cap : Nat} {x : DataW H × List MemPlace} (h : DataW.trod enc Tryd.prog w base spare held fuel 26 [.slice a len cap] = some x)
    (hs : ∀ el sp, x.1 = .slice el sp → (el.length + sp.length) * Tryd.prog.bytesOf 3 ≤ reachBytes) : ∃ xs, Its w (.slice a len cap) xs := by
  rcases open_ints Tryd.underlying26 Tryd.underlying3 cellsI h with ⟨hcs, _⟩ | ⟨ad, l, c, zs, hcs, _, hl, hm, hz, hx, hcell, hwz⟩
  · cases hcs
    exact ⟨[], Its.nil w⟩
  · cases hcs
    have hlz : len ≤ zs.length := by rw [hz]; split <;> omega
    have h1 := hs _ _ (by rw [hx])
    rw [bytesI] at h1
    simp only [lits, List.length_map, List.length_take, List.length_drop, reachBytes] at h1
    refine ⟨zs.take len, ⟨by rw [List.length_take]; omega, fun x hx => bounds_i64 (hwz x (List.mem_of_mem_take hx)), ?_⟩⟩
    have hll : (zs.take len).length = len := by rw [List.length_take]; omega
    obtain ⟨b, off, spot⟩ := ad
    refine ⟨some ⟨b, off, spot⟩, cap, b, off, by rw [hll], by rw [hll]; exact hl, fun h0 => ?_, fun j x hj => ?_⟩
    · have hspot : spot = none := by simpa [Addr.add] using World.cell?_spot (hcell 0 (by omega))
      rw [hspot]
    · have hj1 : j < len := by have := (List.getElem?_eq_some_iff.1 hj).1; omega
      have hspot : spot = none := by simpa [Addr.add] using World.cell?_spot (hcell 0 (by omega))
      subst hspot
      have hc := hcell j (by omega)
      rw [Addr.add_lit] at hc
      rw [hc]
      rw [List.getElem?_take_of_lt hj1] at hj
      rw [List.getD_eq_getElem?_getD, hj]
      rfl
end Go.Proofs.YtplkmbfeeegaiaaDoor

/-
  A slice of members that came in.
-/
namespace Go.Proofs.YtplkmbfeeegaiaaDoor
open Go.ChangeShapes Go.WideShapes Go.ChangeAt Go.RowKit Go.Shelf

theorem cellsMb : Tryd.prog.cellsOf 25 = 3 := by kernel_rfl
theorem mb_cells {H : Type} {enc : TypeId × Value → H} {w : World} {base n : Nat} {spare : Nat → Bool} {held : Bool} {a : Addr} {cs : List Value} {x : DataW H × List MemPlace} (hc : w.cells? base a (Tryd.prog.cellsOf 25) = some cs)
    (ht : DataW.trod enc Tryd.prog w base spare held n 25 cs = some x) (j : Nat) (hj : j < 3) : ∃ z, w.cell? (a.add j) = some (.int .i64 z) ∧ -9223372036854775808 ≤ z ∧ z ≤ 9223372036854775807 := by
  rw [cellsMb] at hc
  obtain ⟨_, hcl, hat⟩ := World.cells?_some hc
  obtain ⟨ys, n', _, _, _, hyl, hf⟩ := DataW.trod_struct Tryd.underlying25 ht
  have hyl' : ys.length = 3 := hyl
  have key : ∀ (f : Field), (#[({ name := "Node", type := 3, offset := 0, embedded := false, tag := "", pkgPath := "", byteOffset := 0 } : Field), { name := "Region", type := 3, offset := 1, embedded := false, tag := "", pkgPath := "", byteOffset := 8 }, { name := "Weight", type := 3, offset := 2, embedded := false, tag := "", pkgPath := "", byteOffset := 16 }] : Array Field)[j]? = some f → f.type = 3 → f.offset = j → ∃ z, w.cell? (a.add j) = some (.int .i64 z) ∧ -9223372036854775808 ≤ z ∧ z ≤ 9223372036854775807 := by
    intro f hfj h3 ho
    have h1 := hf j f hfj
    rw [h3, ho, cellsI] at h1
    have hys : ys[j]? = some (ys[j]'(by omega)) := List.getElem?_eq_getElem (by omega)
    rw [hys, List.drop_eq_getElem_cons (by omega)] at h1
    obtain ⟨z, hz, _, hwf⟩ := DataW.trod_int Tryd.underlying3 h1
    have hz' : cs[j]'(by omega) = .int .i64 z := by
      rw [List.take_succ_cons, List.take_zero] at hz
      exact (List.cons.inj hz).1
    refine ⟨z, ?_, bounds_i64 hwf⟩
    rw [hat j hj, List.getElem?_eq_getElem (by omega), hz']
  match j, hj with
  | 0, _ => exact key _ rfl rfl rfl
  | 1, _ => exact key _ rfl rfl rfl
  | 2, _ => exact key _ rfl rfl rfl

theorem mbs_open {H : Type} {enc : TypeId × Value → H} {w : World} {base fuel : Nat} {spare : Nat → Bool} {held : Bool} {a : Option Addr} {len cap : Nat} {x : DataW H × List MemPlace} (h : DataW.trod enc Tryd.prog w base spare held fuel 22 [.slice a len cap] = some x) (hlen : len ≤ 1000000000000000) : ∃ l, Mbs w (.slice a len cap) l ∧ l.length = len := by
  rcases Go.Deep.open_slice Tryd.underlying22 h with ⟨h0, _⟩ | ⟨ad, l, c, m, n, D, Pl, hcs, hb, hl, hm, hmm, hx, hi⟩
  · cases h0
    exact ⟨[], ⟨by simp, by simp, none, 0, 0, 0, rfl, by simp, fun h => by simp at h, fun j x hj => by simp at hj⟩, rfl⟩
  · cases hcs
    have hlm : len ≤ m := by rw [hmm]; split <;> omega
    have hc : ∀ i j, i < len → j < 3 → ∃ z, w.cell? (ad.add (i * 3 + j)) = some (.int .i64 z) ∧ -9223372036854775808 ≤ z ∧ z ≤ 9223372036854775807 := fun i j hi' hj => by
      obtain ⟨cs', h1, h2⟩ := hi i (by omega)
      obtain ⟨z, hz, hb⟩ := mb_cells h1 h2 j hj
      rw [cellsMb, Go.Deep.add_add] at hz
      exact ⟨z, hz, hb⟩
    obtain ⟨b, off, spot⟩ := ad
    by_cases hl0 : len = 0
    · subst hl0
      exact ⟨[], ⟨by simp, by simp, some ⟨b, off, spot⟩, cap, b, off, rfl, hl, fun h => by simp at h, fun j x hj => by simp at hj⟩, rfl⟩
    · obtain ⟨z0, hz0, _⟩ := hc 0 0 (by omega) (by omega)
      have hspot : spot = none := by simpa [Addr.add] using World.cell?_spot hz0
      subst hspot
      have hc2 : ∀ i, ∃ mb : Mb, i < len → (w.cell? ⟨b, off + i * 3, none⟩ = some (.int .i64 mb.node) ∧ w.cell? ⟨b, off + i * 3 + 1, none⟩ = some (.int .i64 mb.region) ∧ w.cell? ⟨b, off + i * 3 + 2, none⟩ = some (.int .i64 mb.weight)) ∧ I64 mb.node ∧ I64 mb.region ∧ I64 mb.weight := fun i => by
        by_cases hil : i < len
        · obtain ⟨z0, h0, b0⟩ := hc i 0 hil (by omega)
          obtain ⟨z1, h1, b1⟩ := hc i 1 hil (by omega)
          obtain ⟨z2, h2, b2⟩ := hc i 2 hil (by omega)
          rw [Addr.add_lit, ← Nat.add_assoc] at h0 h1 h2
          exact ⟨⟨z0, z1, z2⟩, fun _ => ⟨⟨h0, h1, h2⟩, b0, b1, b2⟩⟩
        · exact ⟨⟨0, 0, 0⟩, fun h => absurd h hil⟩
      obtain ⟨F, hF⟩ : ∃ F : Nat → Mb, ∀ i, i < len → (w.cell? ⟨b, off + i * 3, none⟩ = some (.int .i64 (F i).node) ∧ w.cell? ⟨b, off + i * 3 + 1, none⟩ = some (.int .i64 (F i).region) ∧ w.cell? ⟨b, off + i * 3 + 2, none⟩ = some (.int .i64 (F i).weight)) ∧ I64 (F i).node ∧ I64 (F i).region ∧ I64 (F i).weight := ⟨fun i => Classical.choose (hc2 i), fun i => Classical.choose_spec (hc2 i)⟩
      refine ⟨(List.range len).map F, ⟨by simpa using hlen, fun mb hmb => ?_, ?_⟩, by simp⟩
      · obtain ⟨i, hi', rfl⟩ := List.mem_map.1 hmb
        exact (hF i (List.mem_range.1 hi')).2
      · refine ⟨some ⟨b, off, none⟩, cap, b, off, by simp, by simpa using hl, fun _ => rfl, fun j mb hj => ?_⟩
        rw [List.getElem?_map] at hj
        cases hr : (List.range len)[j]? with
        | none => rw [hr] at hj; simp at hj
        | some j' =>
          rw [hr] at hj
          simp only [Option.map_some, Option.some.injEq] at hj
          obtain ⟨h1, h2⟩ := List.getElem?_eq_some_iff.1 hr
          have hjj : j' = j := by simpa using h2.symm
          have hjl : j < len := by simpa using h1
          subst hj
          rw [hjj]
          exact (hF j hjl).1
end Go.Proofs.YtplkmbfeeegaiaaDoor

/-
  A ring that came in.
-/
namespace Go.Proofs.YtplkmbfeeegaiaaDoor
open Go.ChangeShapes Go.WideShapes Go.ChangeAt Go.RowKit Go.Shelf

theorem cellsRg : Tryd.prog.cellsOf 31 = 3 := by kernel_rfl
set_option maxRecDepth 100000 in
theorem ring_fields {H : Type} {enc : TypeId × Value → H} {w : World} {base b0 : Nat} {spare : Nat → Bool} {held : Bool} {r : Reach} {v : Value} {d : DataW H} {p : List MemPlace}
    (hv : Value.okWide Tryd.prog w r b0 31 v) (h : DataW.Trod enc Tryd.prog w base spare held 31 v d p) :
    ∃ (ep : Int) (ma : Option Addr) (mn mc : Nat) (oa : Option Addr) (on oc n : Nat) (y0 y1 y2 : DataW H × List MemPlace), v = ringV ep (.slice ma mn mc) (.slice oa on oc) ∧ I64 ep ∧ d = .agg [y0.1, y1.1, y2.1] ∧ p = y0.2 ++ (y1.2 ++ y2.2) ∧
      DataW.trod enc Tryd.prog w base spare held n 3 [.int .i64 ep] = some y0 ∧ DataW.trod enc Tryd.prog w base spare held n 22 [.slice ma mn mc] = some y1 ∧ DataW.trod enc Tryd.prog w base spare held n 26 [.slice oa on oc] = some y2 := by
  obtain ⟨c0, c1, c2, y0, y1, y2, n, rfl, rfl, rfl, h0, h1, h2⟩ := Go.Joins.open_agg3 Tryd.underlying31 (by kernel_rfl) cellsRg hv h
  obtain ⟨ep, e0, _, w0⟩ := DataW.trod_int Tryd.underlying3 h0
  obtain ⟨ma, mn, mc, e1⟩ := Go.Joins.slice_form Tryd.underlying22 h1
  obtain ⟨oa, on, oc, e2⟩ := Go.Joins.slice_form Tryd.underlying26 h2
  obtain rfl := (List.cons.inj e0).1
  obtain rfl := (List.cons.inj e1).1
  obtain rfl := (List.cons.inj e2).1
  exact ⟨ep, ma, mn, mc, oa, on, oc, n, y0, y1, y2, rfl, bounds_i64 w0, rfl, rfl, h0, h1, h2⟩
end Go.Proofs.YtplkmbfeeegaiaaDoor

/-
  A ring that came in, as the walks want it.
-/
namespace Go.Proofs.YtplkmbfeeegaiaaDoor
open Go.ChangeShapes Go.WideShapes Go.ChangeAt Go.RowKit Go.Shelf

theorem bytesMb : Tryd.prog.bytesOf 25 = 24 := by kernel_rfl
theorem mbs_open' {H : Type} {enc : TypeId × Value → H} {w : World} {base fuel : Nat} {spare : Nat → Bool} {held : Bool} {a : Option Addr} {len cap : Nat} {x : DataW H × List MemPlace} (h : DataW.trod enc Tryd.prog w base spare held fuel 22 [.slice a len cap] = some x)
    (hs : ∀ el sp, x.1 = .slice el sp → (el.length + sp.length) * Tryd.prog.bytesOf 25 ≤ reachBytes) : ∃ l, Mbs w (.slice a len cap) l ∧ l.length = len := by
  refine mbs_open h ?_
  have hl := Go.Joins.sliceLen_trod (d := x.1) (ps := x.2) Tryd.underlying22 h
  cases e : x.1 with
  | slice el sp =>
    rw [e] at hl
    have h1 := hs el sp e
    rw [bytesMb] at h1
    simp only [Go.Joins.sliceLen] at hl
    unfold reachBytes at h1
    omega
  | _ =>
    rw [e] at hl
    simp only [Go.Joins.sliceLen] at hl
    omega
set_option maxRecDepth 100000 in
theorem ring_open {H : Type} {enc : TypeId × Value → H} {w : World} {base b0 : Nat} {spare : Nat → Bool} {held : Bool} {r : Reach} {v : Value} {d : DataW H} {p : List MemPlace}
    (hv : Value.okWide Tryd.prog w r b0 31 v) (h : DataW.Trod enc Tryd.prog w base spare held 31 v d p) (hs : ∀ n ∈ DataW.weights Tryd.prog 31 d, n ≤ reachBytes) : ∃ ep l ow, Rng w v ep l ow := by
  obtain ⟨ep, ma, mn, mc, oa, on, oc, n, y0, y1, y2, rfl, hb, rfl, -, h0, h1, h2⟩ := ring_fields hv h
  have hw : DataW.weights Tryd.prog 31 (.agg [y0.1, y1.1, y2.1]) = DataW.weights Tryd.prog 3 y0.1 ++ (DataW.weights Tryd.prog 22 y1.1 ++ (DataW.weights Tryd.prog 26 y2.1 ++ [])) := by
    simp only [DataW.weights, Tryd.underlying31]
    rfl
  rw [hw] at hs
  obtain ⟨l, hl, -⟩ := mbs_open' h1 (fun el sp e => hs _ (by
    simp only [List.mem_append]
    right; left
    rw [e]
    simp only [DataW.weights, Tryd.underlying22]
    exact List.mem_cons_self))
  obtain ⟨ow, how⟩ := ints_open h2 (fun el sp e => hs _ (by
    simp only [List.mem_append]
    right; right; left
    rw [e]
    simp only [DataW.weights, Tryd.underlying26]
    exact List.mem_cons_self))
  exact ⟨ep, l, ow, hb, _, _, rfl, hl, how⟩
/-- What a datum weighs is among what all weigh. -/
theorem weigh_at {H : Type} {P : Program} {ts : List TypeId} {ds : List (DataW H)} (h : (DataW.weightsEach P ts ds).all (· ≤ reachBytes) = true) {j : Nat} {t : TypeId} {d : DataW H} (ht : ts[j]? = some t) (hd : ds[j]? = some d) : ∀ n ∈ DataW.weights P t d, n ≤ reachBytes := fun n hn => by
  have := List.all_eq_true.1 h _ (DataW.weights_mem_each ht hd n hn)
  simpa using this
end Go.Proofs.YtplkmbfeeegaiaaDoor

/-
  A slice of slices of integers that came in.
-/
namespace Go.Proofs.YtplkmbfeeegaiaaDoor
open Go.ChangeShapes Go.WideShapes Go.ChangeAt Go.RowKit Go.Shelf

/-- Rows of integers. -/
def Itss (W : World) (v : Value) (xss : List (List Int)) : Prop :=
  xss.length ≤ 1000000000000000 ∧ ∃ a c b off, v = .slice a xss.length c ∧ (0 < xss.length → a = some ⟨b, off, none⟩) ∧ ∀ (i : Nat) (xs : List Int), xss[i]? = some xs → ∃ u, W.cell? ⟨b, off + i, none⟩ = some u ∧ Its W u xs
theorem Itss.kept {W W' : World} {v : Value} {xss : List (List Int)} (h : Itss W v xss) (k : Keep (fun _ => False) W W') : Itss W' v xss := by
  obtain ⟨h1, a, c, b, off, h2, h3, h4⟩ := h
  refine ⟨h1, a, c, b, off, h2, h3, fun i xs hi => ?_⟩
  obtain ⟨u, hu, hx⟩ := h4 i xs hi
  exact ⟨u, k.cell hu (fun h => h), hx.kept k⟩
theorem cellsIs : Tryd.prog.cellsOf 26 = 1 := by kernel_rfl
theorem bytesIs : Tryd.prog.bytesOf 26 = 24 := by kernel_rfl
theorem weights_all {H : Type} {P : Program} {e : TypeId} {n : Nat} : ∀ {ds : List (DataW H)} {d : DataW H}, d ∈ ds → n ∈ DataW.weights P e d → n ∈ DataW.weightsAll P e ds
  | [], _, h, _ => by simp at h
  | x :: ds, d, h, hn => by
    simp only [DataW.weightsAll, List.mem_append]
    rcases List.mem_cons.1 h with rfl | h
    · exact .inl hn
    · exact .inr (weights_all h hn)
theorem itss_open {H : Type} {enc : TypeId × Value → H} {w : World} {base fuel : Nat} {spare : Nat → Bool} {held : Bool} {a : Option Addr} {len cap : Nat} {x : DataW H × List MemPlace} (h : DataW.trod enc Tryd.prog w base spare held fuel 62 [.slice a len cap] = some x)
    (hs : ∀ n ∈ DataW.weights Tryd.prog 62 x.1, n ≤ reachBytes) : ∃ xss, Itss w (.slice a len cap) xss := by
  rcases Go.Deep.open_slice1 Tryd.underlying62 cellsIs h with ⟨h0, _⟩ | ⟨ad, l, c, m, n, V, D, Pl, hcs, hb, hl, hm, hmm, hx, hi⟩
  · cases h0
    exact ⟨[], by simp, none, 0, 0, 0, rfl, fun h => by simp at h, fun i xs hi => by simp at hi⟩
  · cases hcs
    have hlm : len ≤ m := by rw [hmm]; split <;> omega
    rw [hx] at hs
    simp only [DataW.weights, Tryd.underlying62, List.length_map, List.length_range, bytesIs, List.mem_cons, List.mem_append] at hs
    have hw0 := hs _ (.inl rfl)
    have hwi : ∀ i, i < len → ∀ n ∈ DataW.weights Tryd.prog 26 (D i), n ≤ reachBytes := fun i hil n hn => hs n (.inr (.inl (weights_all (List.mem_map.2 ⟨i, List.mem_range.2 hil, rfl⟩) hn)))
    have hc : ∀ i, ∃ xs, i < len → Its w (V i) xs := fun i => by
      by_cases hil : i < len
      · obtain ⟨h1, h2⟩ := hi i (by omega)
        obtain ⟨ai, ni, ci, e⟩ := Go.Joins.slice_form Tryd.underlying26 h2
        have e := (List.cons.inj e).1
        rw [e] at h2 ⊢
        obtain ⟨xs, hxs⟩ := ints_open h2 (fun el sp hd => hwi i hil _ (by
          simp only [] at hd
          rw [hd]
          simp only [DataW.weights, Tryd.underlying26]
          exact List.mem_cons_self))
        exact ⟨xs, fun _ => hxs⟩
      · exact ⟨[], fun h => absurd h hil⟩
    obtain ⟨F, hF⟩ : ∃ F : Nat → List Int, ∀ i, i < len → Its w (V i) (F i) := ⟨fun i => Classical.choose (hc i), fun i => Classical.choose_spec (hc i)⟩
    obtain ⟨b, off, spot⟩ := ad
    unfold reachBytes at hw0
    refine ⟨(List.range len).map F, by simp; omega, some ⟨b, off, spot⟩, cap, b, off, by simp, fun h0 => ?_, fun i xs hxs => ?_⟩
    · have h0' : 0 < len := by simpa using h0
      have hspot : spot = none := by simpa [Addr.add] using World.cell?_spot (hi 0 (by omega)).1
      rw [hspot]
    · have hil : i < len := by have := (List.getElem?_eq_some_iff.1 hxs).1; simpa using this
      have hc := (hi i (by omega)).1
      have hspot : spot = none := by simpa [Addr.add] using World.cell?_spot (hi 0 (by omega)).1
      subst hspot
      rw [Addr.add_lit] at hc
      refine ⟨V i, hc, ?_⟩
      rw [List.getElem?_map, List.getElem?_range hil] at hxs
      cases hxs
      exact hF i hil
end Go.Proofs.YtplkmbfeeegaiaaDoor

/-
  As G10, with a class of worlds of its own for the free operations: the rest may write what they read.
-/
namespace Go.Proofs.YtplkmbfeeegaiaaDoor
open Go Go.RowKit

section
variable {P : Program} {md : Region.Mode} {ops : Array Oper} {C : World → Prop} {S : Nat → Value → World → Prop} {R : World → World → Prop}

theorem wpC_free2 {C1 : World → Prop} (hsub : ∀ w, C1 w → C w) {Q : Act → World → Prop} {hs : List FO} {ts : List (Bool × Nat)} {a1 : Act} (hsel : Region.noSelect ops = true) (hsp : specOk md ops hs = true) (hsz : ∀ h ∈ hs, h.slot < a1.tmps.size)
    (hS : ∀ t v w w', S t v w → R w w' → S t v w') (hR : ∀ w w', C1 w → R w w' → C1 w') (hst : freeW P ops C1 S R a1 hs)
    (hfin : ∀ vs w, C1 w → (∀ h ∈ hs, S h.slot (vs h.slot) w) → walkW P ops Q ts C (putL (hs.map FO.slot) vs a1) w) :
    ∀ (f : Nat) (listed : Array Bool) (a : Act) (w : World), freeOk md ops hs ts f listed = true → FreeInv hs C1 S a1 listed a w → wpC P md ops C Q (f + ts.length) listed a w
  | 0, listed, a, w, hB, inv => by
    rw [Nat.zero_add]
    simp only [freeOk, Bool.and_eq_true, List.all_eq_true] at hB
    have ha : a = putL (hs.map FO.slot) (fun t => a.tmps.getD t undef) a1 := by
      obtain ⟨p1, p2⟩ := putL_size (fun t => a.tmps.getD t undef) (hs.map FO.slot) a1
      have ht : a.tmps = (putL (hs.map FO.slot) (fun t => a.tmps.getD t undef) a1).tmps := by
        apply Array.ext_getElem?
        intro t
        by_cases htl : t < a1.tmps.size
        · rw [putL_get _ t _ _ htl]
          by_cases hm : t ∈ hs.map FO.slot
          · rw [if_pos hm, Array.getElem?_eq_getElem (by rw [inv.size]; exact htl)]
            congr 1
            simp [inv.size, htl]
          · rw [if_neg hm]
            exact inv.other t (fun h hh e => absurd (List.mem_map.2 ⟨h, hh, e⟩) hm)
        · rw [Array.getElem?_eq_none (by rw [inv.size]; omega), Array.getElem?_eq_none (by rw [p1]; omega)]
      have hd : a.defers = (putL (hs.map FO.slot) (fun t => a.tmps.getD t undef) a1).defers := inv.defers.trans p2.symm
      generalize putL (hs.map FO.slot) (fun t => a.tmps.getD t undef) a1 = b at ht hd
      cases a
      cases b
      simp only at ht hd
      rw [ht, hd]
    refine wpC_walk hsel ts C listed a w hB.2 ?_
    have h := hfin (fun t => a.tmps.getD t undef) w inv.cls (fun h hh => inv.spec h hh (hB.1 h hh))
    rwa [← ha] at h
  | f + 1, listed, a, w, hB, inv => by
    simp only [freeOk, Bool.and_eq_true, List.all_eq_true, List.any_eq_true, Bool.not_eq_true', beq_iff_eq] at hB
    obtain ⟨hne, hall⟩ := hB
    rw [show f + 1 + ts.length = (f + ts.length) + 1 by omega]
    refine ⟨hsub _ inv.cls, fun h0 => (by rw [h0] at hne; simp at hne), fun i hi => ?_⟩
    obtain ⟨⟨h, hh, rfl⟩, hB2⟩ := hall i hi
    have hspec := hsp
    simp only [specOk, List.all_eq_true, Bool.and_eq_true] at hspec
    obtain ⟨⟨q1, q2⟩, q3⟩ := hspec h hh
    cases ho : ops[h.idx]? with
    | none => rw [ho] at q1; cases q1
    | some o =>
      rw [ho] at q1
      simp only [Bool.and_eq_true, List.all_eq_true, Bool.or_eq_true, Bool.not_eq_true', beq_iff_eq, Option.isNone_iff_eq_none] at q1
      obtain ⟨⟨g1, g2⟩, g3⟩ := q1
      obtain ⟨hun, oj, hoj, hwait⟩ := mem_ready.1 hi
      obtain rfl : oj = o := Option.some.inj (hoj.symm.trans ho)
      -- what it reads is listed
      have hdeps : ∀ d ∈ h.deps, ∃ k ∈ hs, k.slot = d ∧ listed.getD k.idx false = true := fun d hd => by
        obtain ⟨k, hk, e⟩ := List.any_eq_true.1 (q2 d hd)
        simp only [Bool.and_eq_true, beq_iff_eq] at e
        obtain ⟨oj', hoj', e', he', hb', hon'⟩ := Region.waitsFor_spec e.2
        obtain rfl : oj' = oj := Option.some.inj (hoj'.symm.trans ho)
        have := hwait e' he' hb'
        rw [hon'] at this
        exact ⟨k, hk, e.1, this⟩
      have hev : execOp a.eval oj = execOp (putL h.deps (fun t => a.tmps.getD t undef) a1).eval oj := by
        refine execOp_congr oj (fun cs b => Region.noSelect_spec hsel h.idx oj cs b ho) (fun x hx => ?_)
        cases x with
        | tmp t =>
          show a.tmps.getD t undef = (putL h.deps (fun t => a.tmps.getD t undef) a1).tmps.getD t undef
          by_cases htl : t < a1.tmps.size
          · have e2 : (putL h.deps (fun t => a.tmps.getD t undef) a1).tmps.getD t undef = if t ∈ h.deps then a.tmps.getD t undef else a1.tmps.getD t undef := by
              rw [Array.getD_eq_getD_getElem?, putL_get _ t _ _ htl]
              by_cases hnd : t ∈ h.deps
              · rw [if_pos hnd, if_pos hnd]; rfl
              · rw [if_neg hnd, if_neg hnd, Array.getD_eq_getD_getElem?]
            rw [e2]
            by_cases hnd : t ∈ h.deps
            · rw [if_pos hnd]
            · rw [if_neg hnd]
              refine getD_of_get? (inv.other t (fun k hk e => ?_))
              rcases g3 k hk with h3 | h3
              · exfalso
                have hmem : t ∈ tmpsOf oj := List.mem_filterMap.2 ⟨.tmp t, by simpa using hx, rfl⟩
                rw [e] at h3
                have : (tmpsOf oj).contains t = true := by simpa using hmem
                rw [this] at h3
                cases h3
              · rw [e] at h3
                exact absurd (by simpa using h3) hnd
          · rw [Array.getD_eq_getD_getElem?, Array.getD_eq_getD_getElem?, Array.getElem?_eq_none (by rw [inv.size]; exact Nat.le_of_not_lt htl), Array.getElem?_eq_none (by rw [(putL_size _ _ _).1]; exact Nat.le_of_not_lt htl)]
        | _ => rfl
      have hwp := freeW_mem hst h hh oj ho (fun t => a.tmps.getD t undef) w inv.cls (fun d hd => by
        obtain ⟨k, hk, e, hl⟩ := hdeps d hd
        have := inv.spec k hk hl
        rwa [e] at this) (fun v w' => S h.slot v w' ∧ R w w') (fun v w' h1 h2 => ⟨h1, h2⟩)
      -- the next state
      have hnext : ∀ u w', (S h.slot (((putL h.deps (fun t => a.tmps.getD t undef) a1).put oj.dst u).tmps.getD h.slot undef) w' ∧ R w w') → wpC P md ops C Q (f + ts.length) (listed.setIfInBounds h.idx true) (a.put oj.dst u) w' := fun u w' ⟨e2, e3⟩ => by
        rw [g2] at e2 ⊢
        have hsl := hsz h hh
        have huv : ((putL h.deps (fun t => a.tmps.getD t undef) a1).put (some h.slot) u).tmps.getD h.slot undef = u := by
          have hb : h.slot < (putL h.deps (fun t => a.tmps.getD t undef) a1).tmps.size := by rw [(putL_size _ _ _).1]; exact hsl
          generalize putL h.deps (fun t => a.tmps.getD t undef) a1 = b at hb
          simp [Act.put, hb]
        rw [huv] at e2
        have hlt : h.idx < listed.size := by
          rcases Nat.lt_or_ge h.idx listed.size with h' | h'
          · exact h'
          · simp [Array.getElem?_eq_none h'] at hun
        have hset : ∀ j, (listed.setIfInBounds h.idx true).getD j false = if j = h.idx then true else listed.getD j false := fun j => by
          by_cases e : j = h.idx
          · subst e; simp [hlt]
          · rw [if_neg e, getD_set_ne false (fun e' => e e'.symm)]
        refine wpC_free2 hsub hsel hsp hsz hS hR hst hfin f _ _ _ hB2 ⟨inv.defers, by simp [Act.put, inv.size], fun t ht => ?_, fun k hk hl => ?_, hR _ _ inv.cls e3⟩
        · have hne : h.slot ≠ t := fun e => by
            have := ht h hh e
            rw [hset, if_pos rfl] at this
            cases this
          have h1 : (a.put (some h.slot) u).tmps[t]? = a.tmps[t]? := by
            simp only [Act.put]
            exact Array.getElem?_setIfInBounds_ne hne
          rw [h1]
          refine inv.other t (fun k hk e => ?_)
          have := ht k hk e
          rw [hset] at this
          split at this
          · cases this
          · exact this
        · by_cases e : k.idx = h.idx
          · have e' : k.slot = h.slot := by
              have h1 := q3 k hk
              rw [beq_iff_eq] at h1
              have h2 : (h.idx == k.idx) = true := by simp [e]
              rw [h2] at h1
              have := h1.symm
              simp only [beq_iff_eq] at this
              exact this.symm
            rw [e']
            have : (a.put (some h.slot) u).tmps.getD h.slot undef = u := by
              simp [Act.put, inv.size, hsl]
            rw [this]
            exact e2
          · have e' : k.slot ≠ h.slot := fun e' => by
              have h1 := q3 k hk
              rw [beq_iff_eq] at h1
              have h2 : (h.slot == k.slot) = true := by simp [e']
              rw [h2] at h1
              simp only [beq_iff_eq] at h1
              exact e h1.symm
            rw [hset, if_neg e] at hl
            have h1 : (a.put (some h.slot) u).tmps.getD k.slot undef = a.tmps.getD k.slot undef := getD_of_get? (by
              simp only [Act.put]
              exact Array.getElem?_setIfInBounds_ne (fun e => e' e.symm))
            rw [h1]
            exact hS _ _ _ _ (inv.spec k hk hl) e3
      unfold wpOp
      simp only [ho]
      have hw : Region.wanted oj (yielded ops a.tmps) = true := by unfold Region.wanted; rw [g1]
      simp only [hw, if_true]
      refine .inl ?_
      unfold Oper.wp at hwp ⊢
      rw [hev]
      generalize (execOp (putL h.deps (fun t => a.tmps.getD t undef) a1).eval oj).run P w = r at *
      cases r with
      | ok n w' =>
        cases n <;> simp only [Oper.upon] at hwp ⊢
        case value u => exact hnext u w' hwp.2
        case skip => exact hnext _ w' hwp.2
        case defer d =>
          obtain ⟨e1, -⟩ := hwp
          exfalso
          have e2 := (putL_size (fun t => a.tmps.getD t undef) h.deps a1).2
          generalize putL h.deps (fun t => a.tmps.getD t undef) a1 = b at e1 e2
          have := congrArg List.length e1
          rw [g2] at this
          simp [Act.put, e2] at this
        case enter f' args =>
          refine Calls.mono hwp fun e w'' he => ?_
          cases e with
          | returned u => exact hnext u w'' he.2
          | panicked c => exact he
          | outgrown => exact he
        case row row args => exact Rows.mono hwp fun u w'' he => hnext u w'' he.2
      | halt x w' => cases x <;> simp only [Oper.upon] at hwp <;> exact hwp.elim

theorem wpC_reads2 {C1 : World → Prop} (hsub : ∀ w, C1 w → C w) {Q : Act → World → Prop} {hs : List FO} {ts : List (Bool × Nat)} (hsel : Region.noSelect ops = true) (hsp : specOk .any ops hs = true)
    (hS : ∀ t v w w', S t v w → R w w' → S t v w') (hR : ∀ w w', C1 w → R w w' → C1 w') (w : World) (hC : C1 w) : ∀ (rs : List Nat) (listed : Array Bool) (a : Act), regionFreeOk ops hs ts rs listed = true →
    headW P ops C (fun a1 => (∀ h ∈ hs, h.slot < a1.tmps.size) ∧ freeW P ops C1 S R a1 hs ∧ ∀ vs w, C1 w → (∀ h ∈ hs, S h.slot (vs h.slot) w) → walkW P ops Q ts C (putL (hs.map FO.slot) vs a1) w) rs a → wpC P .any ops C Q (rs.length + (hs.length + ts.length)) listed a w
  | [], listed, a, hB, h => by
    simp only [regionFreeOk, Bool.and_eq_true, List.all_eq_true, Bool.not_eq_true'] at hB
    obtain ⟨h1, h2, h3⟩ := h
    rw [List.length_nil, Nat.zero_add]
    exact wpC_free2 hsub hsel hsp h1 hS hR h2 h3 _ _ _ _ hB.2 ⟨rfl, rfl, fun _ _ => rfl, fun k hk hl => (by rw [hB.1 k hk] at hl; cases hl), hC⟩
  | k :: rest, listed, a, hB, h => by
    simp only [regionFreeOk, Bool.and_eq_true] at hB
    obtain ⟨⟨hr, hf⟩, hB'⟩ := hB
    obtain ⟨o, v, ho, hy, h⟩ := h
    rw [List.length_cons, show rest.length + 1 + (hs.length + ts.length) = (rest.length + (hs.length + ts.length)) + 1 by omega]
    exact wpC_first ho (Region.noSelect_spec hsel) _ listed a w (Region.free_spec ho hf) (by simpa using hr) hy (wpC_reads2 hsub hsel hsp hS hR w hC rest _ _ hB' h)
theorem wp_region_free2 {id : Nat} {Q : Exit → Act → World → Prop} {a : Act} {w : World} {l : List Oper} (rs : List Nat) (hs : List FO) (ts : List (Bool × Nat)) (C C1 : World → Prop) (hsub : ∀ w, C1 w → C w) (S : Nat → Value → World → Prop) (R : World → World → Prop) (hm : P.follows .mixedOrders = true) (hB : regFreeOk l.toArray rs hs ts = true) (hC : C1 w.drew)
    (hS : ∀ t v w w', S t v w → R w w' → S t v w') (hR : ∀ w w', C1 w → R w w' → C1 w')
    (h : headW P l.toArray C (fun a1 => (∀ h ∈ hs, h.slot < a1.tmps.size) ∧ freeW P l.toArray C1 S R a1 hs ∧ ∀ vs w, C1 w → (∀ h ∈ hs, S h.slot (vs h.slot) w) → walkW P l.toArray (fun a w => Q .normal a w) ts C (putL (hs.map FO.slot) vs a1) w) rs a) : (Code.region id l.toArray true).wp P Q a w := by
  simp only [regFreeOk, Bool.and_eq_true, decide_eq_true_eq] at hB
  obtain ⟨⟨⟨hsel, hlen⟩, hsp⟩, hB⟩ := hB
  refine wp_region_any hm (wpAny_of_wpC (C := C) (Q := fun a w => Q .normal a w) (fun _ _ h => h) _ _ _ _ ?_)
  rw [← hlen]
  exact wpC_reads2 hsub hsel hsp hS hR w.drew hC rs _ a (by rw [hlen]; exact hB) h
end
end Go.Proofs.YtplkmbfeeegaiaaDoor
