/-
  Several texts in one, each under its own heading below (merged by a program of ours): the contracts of the functions that the law reaches, part 7 of 7.
-/
import Derived.Test.YtplkmbfeeegaiaaGreatDoorX1
import Derived.Test.YtplkmbfeeegaiaaGreatDoorX2
import Derived.Test.YtplkmbfeeegaiaaGreatDoorX3
import Derived.Test.YtplkmbfeeegaiaaGreatDoorX4
import Derived.Test.YtplkmbfeeegaiaaGreatDoorX5
import Derived.Test.YtplkmbfeeegaiaaGreatDoorX6
import Derived.Lib.ItoaLen
import Derived.Lib.LaidTab
import Derived.Shelf.LaysM
import Derived.Deep.Fields
import Derived.Laws.IdiomArrays

/-
  Itoa of every number; Copies, Choose, Holds of package replicate.
-/
namespace Go.Proofs.YtplkmbfeeegaiaaGreatDoor
open Go.RowKit Go.Shelf
open Go.Sort (grow)

/-- The library's table of powers of ten. -/
def Pow (w : World) : Prop := Lib.TabIs Tryz.prog w "internal/strconv.uint64pow10" .u64 Lib.pow10Tab
theorem gPow : Tryz.prog.globalNamed "internal/strconv.uint64pow10" = some 1 := by kernel_rfl
theorem Pow.kept {w w' : World} (h : Pow w) (k : Keep (fun _ => False) w w') : Pow w' := by
  unfold Pow Lib.TabIs World.var? at h ⊢
  rw [gPow] at h ⊢
  simp only [Option.bind_some] at h ⊢
  have hlt : 1 < w.heap.size := by
    rcases Nat.lt_or_ge 1 w.heap.size with h' | h'
    · exact h'
    · rw [Array.getElem?_eq_none h'] at h; cases h
  rw [k.block _ hlt (fun h => h)]
  exact h
/-- A numeral of any number. -/
def digZ (n : Int) : ByteArray := ⟨(Lib.itoa n).toArray⟩
theorem digZ_nat (n : Nat) : digZ n = dig n := by unfold digZ dig; rw [Lib.itoa_nonneg]
theorem digZ_size {n : Int} (h : I64 n) : (digZ n).size ≤ 21 := by
  show (Lib.itoa n).toArray.size ≤ 21
  rw [List.size_toArray]
  exact Lib.itoa_length_le n h.1 h.2
theorem laysM : LaysM.n171 Tryz.prog Tryz.lays171_ren := { Tryz.lays171 with
  i0 := by kernel_rfl
  i2 := by kernel_rfl
  i3 := by kernel_rfl
  i4 := by kernel_rfl
  i5 := by kernel_rfl
  i9 := by kernel_rfl
  i20 := by kernel_rfl
  i37 := by kernel_rfl
  i46 := by kernel_rfl
  i51 := by kernel_rfl
  i53 := by kernel_rfl
  i171 := by kernel_rfl
  i173 := by kernel_rfl
  i212 := by kernel_rfl
  i232 := by kernel_rfl
  i233 := by kernel_rfl
  m17 := by kernel_rfl
  m18 := by kernel_rfl
  m19 := by kernel_rfl }
theorem keep_grow (w : World) (k : Nat) (os : Array Obj) : Keep (fun _ => False) w (grow (w.drewN k) os) := by
  refine ⟨rfl, rfl, rfl, ?_, fun i hi _ => ?_⟩
  · show w.heap.size ≤ (w.heap ++ os).size
    rw [Array.size_append]; omega
  · show (w.heap ++ os)[i]? = w.heap[i]?
    rw [Array.getElem?_append_left hi]
theorem itoa_any (n : Int) (h : I64 n) (w : World) (hP : Pow w) : Calls Tryz.prog 71 #[.int .i64 n] w fun e w' => e = .returned (.string (digZ n)) ∧ Keep (fun _ => False) w w' :=
  (Any.strconv_Itoa laysM n h.1 h.2 w hP).mono fun e w' ⟨h1, k, os, h2⟩ => ⟨h1, by rw [h2]; exact keep_grow w k os⟩

/-- What lies behind the first ones. -/
theorem Its.rest {W : World} {b off n c : Nat} {xs : List Int} (h : Its W (.slice (some ⟨b, off, none⟩) n c) xs) {q : Nat} (hq : q ≤ n) : Its W (.slice (if c = q then some ⟨b, off, none⟩ else some ⟨b, off + q * 1, none⟩) (n - q) (c - q)) (xs.drop q) := by
  obtain ⟨hn, hbd, a', c', b', off', e, hc, ha, hcell⟩ := h
  injection e with e1 e2 e3
  subst e1 e2 e3
  have hl : (xs.drop q).length = xs.length - q := by rw [List.length_drop]
  split
  · rename_i e
    have : xs.drop q = [] := List.drop_of_length_le (by omega)
    rw [this, show xs.length - q = 0 by omega, show c - q = 0 by omega]
    exact ⟨by simp, by simp, some ⟨b, off, none⟩, 0, 0, 0, rfl, by simp, fun h => by simp at h, fun j x hj => by simp at hj⟩
  · refine ⟨by rw [hl]; omega, fun x hx => hbd x (List.mem_of_mem_drop hx), _, c - q, b, off + q * 1, by rw [hl], by rw [hl]; omega, fun _ => rfl, fun j x hj => ?_⟩
    rw [List.getElem?_drop] at hj
    have hpos : 0 < xs.length := by have := (List.getElem?_eq_some_iff.1 hj).1; omega
    have h5 := ha hpos
    injection h5 with h5
    injection h5 with h6 h7
    subst h6 h7
    have := hcell _ _ hj
    rwa [show off + (q + j) = off + q * 1 + j by omega] at this

set_option maxRecDepth 100000 in
set_option maxHeartbeats 1000000 in
theorem copies_any (v : Value) (ep : Int) (l : List Mb) (ow : List Int) (key : ByteArray) (n : Int) (w : World) (h : Rng w v ep l ow) (hk : key.size ≤ 1000) (hT : Tab w) : Calls Tryz.prog 35 #[v, .string key, .int .i64 n] w (HoldPost w ((holdV ep l ow key n).drop 1)) := by
  have HRG := Lib.hid h
  have HT := Lib.hid hT
  obtain ⟨hb0, vm, vo, rfl, hm0, ho0⟩ := h
  obtain ⟨ma, mn, mc, rfl⟩ : ∃ a n c, vm = .slice a n c := by obtain ⟨a, c, b, off, h, _⟩ := hm0.at_; exact ⟨_, _, _, h⟩
  obtain ⟨oa, on, oc, rfl⟩ : ∃ a n c, vo = .slice a n c := by obtain ⟨a, c, b, off, h, _⟩ := ho0.at_; exact ⟨_, _, _, h⟩
  have HX := Lib.hid (Box3.new w (.int .i64 ep) (.slice ma mn mc) (.slice oa on oc) 27)
  have HK0 : Hid (Keep (fun _ => False) w (w.alloc (.cells #[.int .i64 ep, .slice ma mn mc, .slice oa on oc] 27))) := Lib.hid ((Keep.refl _ w).alloc _)
  obtain ⟨xs, hxs⟩ : ∃ xs, holdV ep l ow key n = xs := ⟨_, rfl⟩
  have HLE : Hid (xs.length ≤ 24) := Lib.hid (by rw [← hxs]; exact holdV_len ep l ow key n)
  have HH : Hid (∀ W, Keep (fun _ => False) w W → Calls Tryz.prog 81 #[ringV ep (.slice ma mn mc) (.slice oa on oc), .string key, .int .i64 n] W (HoldPost W xs)) := Lib.hid (fun W k => by rw [← hxs]; exact holders_any _ ep l ow key n W (HRG.out.kept k) hk (HT.out.kept k))
  rw [hxs]
  obtain ⟨ys, hys⟩ : ∃ ys, xs.drop 1 = ys := ⟨_, rfl⟩
  have HYS := Lib.hid hys
  have HYL : Hid (ys.length = xs.length - 1) := Lib.hid (by rw [← hys, List.length_drop])
  obtain ⟨yl, hyl⟩ : ∃ n, ys.length = n := ⟨_, rfl⟩
  have HYN := Lib.hid hyl
  have HCL : Hid (∀ v W, Its W v ys → Calls Tryz.prog 65 #[v] W fun e w' => ∃ a c, e = .returned (.slice a yl c) ∧ Its w' (.slice a yl c) ys ∧ Keep (fun _ => False) W w') := Lib.hid (fun v W hi => by
    have hyl2 := hyl
    subst hyl2
    refine (cloneI_any v ys W hi (by have := HYL.out; have := HLE.out; omega)).mono ?_
    rintro e w' ⟨a2, c2, rfl, hown, k⟩
    exact ⟨a2, c2, rfl, its_owns hown (by have := HYL.out; have := HLE.out; omega) hi.bd, k⟩)
  rw [hys]
  clear hys hyl hxs hm0 ho0 hb0 hT
  go_enter Tryz.func35, Tryz.ntmps35
  go_upto_region 1 with (fail)
  generalize w.alloc (.cells #[.int .i64 ep, .slice ma mn mc, .slice oa on oc] 27) = W0 at *
  generalize w.heap.size = z at HX ⊢
  obtain ⟨x0, x1, x2, xf⟩ := HX.out
  go_wp2_with fail
  clear x0 x1 x2 xf
  with_reducible refine (HH.out W0 HK0.out).mono ?_
  rintro e W1 ⟨vh, rfl, hit, k1⟩
  have HK1 := Lib.hid (HK0.out.trans k1)
  have HIT := Lib.hid hit
  clear k1
  obtain ⟨hn, hbd, a, c, b, off, rfl, hc, ha, hcell⟩ := hit
  have HA := Lib.hid ha
  clear hbd hcell ha
  generalize hxl : xs.length = xn at *
  have HXL := Lib.hid hxl
  have hn24 := HLE.out
  clear hxl
  by_cases h0 : xn = 0
  · subst h0
    have HD2 : Hid (∀ a c, Its W1 (.slice a 0 c) ys) := Lib.hid (fun a c => by
      have : ys = [] := List.eq_nil_of_length_eq_zero (by rw [HYL.out])
      rw [this]
      exact ⟨by simp, by simp, a, c, 0, 0, rfl, by simp, fun h => by simp at h, fun j x hj => by simp at hj⟩)
    have hmn : min (0 : Int) 1 = 0 := by decide
    clear HH HRG HIT
    go_wp2_with fail
    with_reducible refine (HCL.out _ W1 (HD2.out _ _)).mono ?_
    rintro e W2 ⟨a2, c2, rfl, hit2, k2⟩
    have HI2 := Lib.hid hit2
    have HK2 := Lib.hid (HK1.out.trans k2)
    clear hit2 k2
    go_wp2_with fail
    go_ret
    exact ⟨_, rfl, HI2.out, HK2.out⟩
  · obtain rfl := HA.out (by omega)
    have hmn : min (xn : Int) 1 = 1 := by omega
    have h1x : (1 : Int) ≤ (xn : Int) := by omega
    have HRS := Lib.hid (HIT.out.rest (q := 1) (by omega))
    have HR1 : Hid (c = 1 → Its W1 (.slice (some ⟨b, off, none⟩) (xn - 1) 0) ys) := Lib.hid (fun e => by
      have h := HRS.out
      rw [if_pos e, HYS.out] at h
      subst e
      exact h)
    have HR2 : Hid (c ≠ 1 → Its W1 (.slice (some ⟨b, off + 1, none⟩) (xn - 1) (c - 1)) ys) := Lib.hid (fun e => by
      have h := HRS.out
      rw [if_neg e, HYS.out] at h
      exact h)
    have HFIN : Hid (∀ v, Its W1 v ys → Calls Tryz.prog 65 #[v] W1 fun e w' => ∃ a c, e = .returned (.slice a yl c) ∧ Its w' (.slice a yl c) ys ∧ Keep (fun _ => False) w w') := Lib.hid (fun v hv => (HCL.out v W1 hv).mono fun e w' ⟨a, c, h1, h2, h3⟩ => ⟨a, c, h1, h2, HK1.out.trans h3⟩)
    clear HH HRG HIT HCL HRS
    go_wp2_with fail
    · with_reducible refine (HFIN.out _ (HR1.out (by omega))).mono ?_
      rintro e W2 ⟨a2, c2, rfl, hit2, k2⟩
      have HI2 := Lib.hid hit2
      have HK2 := Lib.hid k2
      clear hit2 k2
      go_wp2_with fail
      go_ret
      exact ⟨_, rfl, HI2.out, HK2.out⟩
    · with_reducible refine (HFIN.out _ (HR2.out (by omega))).mono ?_
      rintro e W2 ⟨a2, c2, rfl, hit2, k2⟩
      have HI2 := Lib.hid hit2
      have HK2 := Lib.hid k2
      clear hit2 k2
      go_wp2_with fail
      go_ret
      exact ⟨_, rfl, HI2.out, HK2.out⟩

set_option maxRecDepth 100000 in
set_option maxHeartbeats 1000000 in
theorem holds_any (v : Value) (ep : Int) (l : List Mb) (ow : List Int) (key : ByteArray) (n q : Int) (w : World) (h : Rng w v ep l ow) (hk : key.size ≤ 1000) (hT : Tab w) : Calls Tryz.prog 39 #[v, .string key, .int .i64 n, .int .i64 q] w fun e w' => e = .returned (.bool (hasI (holdV ep l ow key n) q)) ∧ Keep (fun _ => False) w w' := by
  have HRG := Lib.hid h
  have HT := Lib.hid hT
  obtain ⟨hb0, vm, vo, rfl, hm0, ho0⟩ := h
  obtain ⟨ma, mn, mc, rfl⟩ : ∃ a n c, vm = .slice a n c := by obtain ⟨a, c, b, off, h, _⟩ := hm0.at_; exact ⟨_, _, _, h⟩
  obtain ⟨oa, on, oc, rfl⟩ : ∃ a n c, vo = .slice a n c := by obtain ⟨a, c, b, off, h, _⟩ := ho0.at_; exact ⟨_, _, _, h⟩
  have HX := Lib.hid (Box3.new w (.int .i64 ep) (.slice ma mn mc) (.slice oa on oc) 27)
  have HK0 : Hid (Keep (fun _ => False) w (w.alloc (.cells #[.int .i64 ep, .slice ma mn mc, .slice oa on oc] 27))) := Lib.hid ((Keep.refl _ w).alloc _)
  obtain ⟨xs, hxs⟩ : ∃ xs, holdV ep l ow key n = xs := ⟨_, rfl⟩
  have HH : Hid (∀ W, Keep (fun _ => False) w W → Calls Tryz.prog 81 #[ringV ep (.slice ma mn mc) (.slice oa on oc), .string key, .int .i64 n] W (HoldPost W xs)) := Lib.hid (fun W k => by rw [← hxs]; exact holders_any _ ep l ow key n W (HRG.out.kept k) hk (HT.out.kept k))
  have HC : Hid (∀ v W, Its W v xs → Calls Tryz.prog 84 #[v, .int .i64 q] W fun e w' => e = .returned (.bool (hasI xs q)) ∧ W = w') := Lib.hid (fun v W hi => contains_any v xs q W hi)
  rw [hxs]
  generalize hasI xs q = ct at *
  clear hxs hm0 ho0 hb0 hT
  go_enter Tryz.func39, Tryz.ntmps39
  go_upto_region 1 with (fail)
  generalize w.alloc (.cells #[.int .i64 ep, .slice ma mn mc, .slice oa on oc] 27) = W0 at *
  generalize w.heap.size = z at HX ⊢
  obtain ⟨x0, x1, x2, xf⟩ := HX.out
  go_wp2_with fail
  clear x0 x1 x2 xf
  with_reducible refine (HH.out W0 HK0.out).mono ?_
  rintro e W1 ⟨vh, rfl, hit, k1⟩
  have HK1 := Lib.hid (HK0.out.trans k1)
  have HIT := Lib.hid hit
  clear k1 hit
  go_wp2_with fail
  with_reducible refine (HC.out vh W1 HIT.out).mono ?_
  rintro e w' ⟨rfl, rfl⟩
  go_wp2_with fail
  go_ret
  exact ⟨rfl, HK1.out⟩

/-- The node to which a client turns. -/
def cliT (key : ByteArray) (client : Int) : ByteArray := (digZ client ++ ⟨#[32]⟩) ++ key
def chooseV (xs : List Int) (key : ByteArray) (client : Int) : Int := if xs = [] then -1 else xs.getD (pt (cliT key client) % xs.length) 0
theorem cliT_size {key : ByteArray} {c : Int} (hk : key.size ≤ 1000) (hc : I64 c) : (cliT key c).size ≤ 1000000 := by
  have h1 := digZ_size hc
  unfold cliT
  rw [ByteArray.size_append, ByteArray.size_append]
  have e2 : (⟨#[32]⟩ : ByteArray).size = 1 := rfl
  omega
set_option maxRecDepth 100000 in
set_option maxHeartbeats 1000000 in
theorem choose_raw (v : Value) (ep : Int) (l : List Mb) (ow : List Int) (key : ByteArray) (n c : Int) (w : World) (h : Rng w v ep l ow) (hk : key.size ≤ 1000) (hc : I64 c) (hT : Tab w)
    (hI : holdV ep l ow key n ≠ [] → ∀ W, Keep (fun _ => False) w W → Calls Tryz.prog 71 #[.int .i64 c] W fun e w' => e = .returned (.string (digZ c)) ∧ Keep (fun _ => False) W w') :
    Calls Tryz.prog 37 #[v, .string key, .int .i64 n, .int .i64 c] w fun e w' => e = .returned (.int .i64 (chooseV (holdV ep l ow key n) key c)) ∧ Keep (fun _ => False) w w' := by
  have HRG := Lib.hid h
  have HT := Lib.hid hT
  obtain ⟨hb0, vm, vo, rfl, hm0, ho0⟩ := h
  obtain ⟨ma, mn, mc, rfl⟩ : ∃ a n c, vm = .slice a n c := by obtain ⟨a, c, b, off, h, _⟩ := hm0.at_; exact ⟨_, _, _, h⟩
  obtain ⟨oa, on, oc, rfl⟩ : ∃ a n c, vo = .slice a n c := by obtain ⟨a, c, b, off, h, _⟩ := ho0.at_; exact ⟨_, _, _, h⟩
  have HX := Lib.hid (Box3.new w (.int .i64 ep) (.slice ma mn mc) (.slice oa on oc) 27)
  have HK0 : Hid (Keep (fun _ => False) w (w.alloc (.cells #[.int .i64 ep, .slice ma mn mc, .slice oa on oc] 27))) := Lib.hid ((Keep.refl _ w).alloc _)
  obtain ⟨xs, hxs⟩ : ∃ xs, holdV ep l ow key n = xs := ⟨_, rfl⟩
  have HLE : Hid (xs.length ≤ 24) := Lib.hid (by rw [← hxs]; exact holdV_len ep l ow key n)
  have HH : Hid (∀ W, Keep (fun _ => False) w W → Calls Tryz.prog 81 #[ringV ep (.slice ma mn mc) (.slice oa on oc), .string key, .int .i64 n] W (HoldPost W xs)) := Lib.hid (fun W k => by rw [← hxs]; exact holders_any _ ep l ow key n W (HRG.out.kept k) hk (HT.out.kept k))
  rw [hxs] at hI ⊢
  have HI := Lib.hid hI
  have HPT : Hid (∀ W, Keep (fun _ => False) w W → Calls Tryz.prog 70 #[.string ((digZ c ++ ⟨#[32]⟩) ++ key)] W fun e w' => e = .returned (.int .i64 (pt (cliT key c) : Nat)) ∧ W = w') := Lib.hid (fun W k => point_any (cliT key c) (cliT_size hk hc) W (HT.out.kept k))
  have HCV : Hid (∀ x, xs[pt (cliT key c) % xs.length]? = some x → chooseV xs key c = x) := Lib.hid (fun x hx => by
    unfold chooseV
    rw [if_neg (fun e => by rw [e] at hx; simp at hx), List.getD_eq_getElem?_getD, hx]; rfl)
  have HCN : Hid (xs.length = 0 → chooseV xs key c = -1) := Lib.hid (fun h => by unfold chooseV; rw [if_pos (List.eq_nil_of_length_eq_zero h)])
  have hds := digZ_size hc
  generalize digZ c = dc at *
  generalize chooseV xs key c = cv at *
  generalize pt (cliT key c) = pv at *
  clear hxs hm0 ho0 hb0 hT hI
  go_enter Tryz.func37, Tryz.ntmps37
  go_upto_region 1 with (fail)
  generalize w.alloc (.cells #[.int .i64 ep, .slice ma mn mc, .slice oa on oc] 27) = W0 at *
  generalize w.heap.size = z at HX ⊢
  obtain ⟨x0, x1, x2, xf⟩ := HX.out
  go_wp2_with fail
  clear x0 x1 x2 xf
  with_reducible refine (HH.out W0 HK0.out).mono ?_
  rintro e W1 ⟨vh, rfl, hit, k1⟩
  have HK1 := Lib.hid (HK0.out.trans k1)
  have HIT := Lib.hid hit
  clear k1
  obtain ⟨hn, hbd, a, cp, b, off, rfl, hcp, ha, hcell⟩ := hit
  have HA := Lib.hid ha
  have HCE := Lib.hid hcell
  clear hbd hcell ha
  have HNE : Hid (0 < xs.length → xs ≠ []) := Lib.hid (fun h e => by rw [e] at h; simp at h)
  generalize hxl : xs.length = xn at *
  have HXL2 := Lib.hid hxl
  clear hxl
  by_cases h0 : xn = 0
  · subst h0
    have HE := Lib.hid (HCN.out rfl)
    clear HH HRG HIT
    go_wp2_with fail
    go_ret
    exact ⟨by rw [HE.out]; rfl, HK1.out⟩
  · have hx0 : ((xn : Int) == 0) = false := by simp; omega
    obtain rfl := HA.out (by omega)
    have HK21 : Hid (∀ {W2 : World}, Keep (fun _ => False) W1 W2 → ∀ j x, xs[j]? = some x → W2.cell? ⟨b, off + j, none⟩ = some (.int .i64 x)) := Lib.hid (fun k j x hj => k.cell (HCE.out j x hj) (fun h => h))
    clear HH HRG HIT
    go_wp2_with fail
    with_reducible refine (HI.out (HNE.out (by omega)) W1 HK1.out).mono ?_
    rintro e W2 ⟨rfl, k2⟩
    have HK2 := Lib.hid (HK1.out.trans k2)
    have hlt : pv % xn < xn := Nat.mod_lt pv (by omega)
    obtain ⟨x, hx⟩ : ∃ x, xs[pv % xn]? = some x := ⟨_, List.getElem?_eq_getElem (by rw [HXL2.out]; exact hlt)⟩
    have HE := Lib.hid (HCV.out x hx)
    have cx := HK21.out k2 (pv % xn) x hx
    have hz1 : ¬ (9223372036854775807 < dc.size + 1) := by omega
    have hz2 : ¬ (9223372036854775807 < dc.size + 1 + key.size) := by omega
    have hmz : ((pv : Int) % (xn : Int)) = ((pv % xn : Nat) : Int) := by omega
    clear hx k2
    generalize pv % xn = r at *
    go_wp2_with fail
    with_reducible refine (HPT.out W2 HK2.out).mono ?_
    rintro e w' ⟨rfl, rfl⟩
    go_wp2_with fail
    go_ret
    exact ⟨by rw [HE.out]; rfl, HK2.out⟩
theorem choose_any (v : Value) (ep : Int) (l : List Mb) (ow : List Int) (key : ByteArray) (n c : Int) (w : World) (h : Rng w v ep l ow) (hk : key.size ≤ 1000) (hc : I64 c) (hT : Tab w) (hP : Pow w) : Calls Tryz.prog 37 #[v, .string key, .int .i64 n, .int .i64 c] w fun e w' => e = .returned (.int .i64 (chooseV (holdV ep l ow key n) key c)) ∧ Keep (fun _ => False) w w' :=
  choose_raw v ep l ow key n c w h hk hc hT (fun _ W k => itoa_any c hc W (hP.kept k))
theorem choose_small (v : Value) (ep : Int) (l : List Mb) (ow : List Int) (key : ByteArray) (n : Int) (c : Nat) (w : World) (h : Rng w v ep l ow) (hk : key.size ≤ 1000) (hc : c < 100) (hT : Tab w) : Calls Tryz.prog 37 #[v, .string key, .int .i64 n, .int .i64 c] w fun e w' => e = .returned (.int .i64 (chooseV (holdV ep l ow key n) key c)) ∧ Keep (fun _ => False) w w' :=
  choose_raw v ep l ow key n c w h hk (by unfold I64; omega) hT (fun _ W k => (itoa_small c hc W).mono fun e w' ⟨h1, h2⟩ => ⟨by rw [h1, digZ_nat], by rw [← h2]; exact Keep.refl _ _⟩)
end Go.Proofs.YtplkmbfeeegaiaaGreatDoor

/-
  From a row's own condition: the library's table of powers of ten.
-/
namespace Go.Proofs.YtplkmbfeeegaiaaGreatDoor
open Go.ChangeShapes Go.WideShapes Go.ChangeAt Go.RowKit Go.Shelf

theorem tPow : (Tryz.prog.globals[1]?).map (·.type) = some 223 := by kernel_rfl
theorem pow_of_laid {W : World} (h : laidMetH Tryz.prog laid4 W) : Pow W := by
  rw [MakeChecks.laidMetH_plain _ _ _ (by kernel_rfl)] at h
  have h3 := h.tail.tail
  exact Lib.tabIs_of_head gPow tPow Tryz.underlying223 Tryz.underlying197 (by kernel_rfl) (by kernel_rfl) h3
end Go.Proofs.YtplkmbfeeegaiaaGreatDoor

/-
  A slice of arrays of four ints that came in.
-/
namespace Go.Proofs.YtplkmbfeeegaiaaGreatDoor
open Go.ChangeShapes Go.WideShapes Go.ChangeAt Go.RowKit Go.Shelf

/-- Arrays of four in a slice. -/
structure Fours (W : World) (v : Value) (n : Nat) (f : Nat → Nat → Int) : Prop where
  big : n ≤ 1000000000000000
  bd : ∀ i j, I64 (f i j)
  at_ : ∃ a c b off, v = .slice a n c ∧ n ≤ c ∧ (0 < n → a = some ⟨b, off, none⟩) ∧ ∀ i j, i < n → j < 4 → W.cell? ⟨b, off + i * 4 + j, none⟩ = some (.int .i64 (f i j))
theorem Fours.kept {W W' : World} {v : Value} {n : Nat} {f : Nat → Nat → Int} (h : Fours W v n f) (k : Keep (fun _ => False) W W') : Fours W' v n f := by
  obtain ⟨h1, h2, a, c, b, off, h3, h4, h5, h6⟩ := h
  exact ⟨h1, h2, a, c, b, off, h3, h4, h5, fun i j hi hj => k.cell (h6 i j hi hj) (fun h => h)⟩
theorem cells4 : Tryz.prog.cellsOf 32 = 4 := by kernel_rfl
theorem bytes4 : Tryz.prog.bytesOf 32 = 32 := by kernel_rfl
theorem four_cells {H : Type} {enc : TypeId × Value → H} {w : World} {base n : Nat} {spare : Nat → Bool} {held : Bool} {a : Addr} {cs : List Value} {x : DataW H × List MemPlace} (hc : w.cells? base a (Tryz.prog.cellsOf 32) = some cs)
    (ht : DataW.trod enc Tryz.prog w base spare held n 32 cs = some x) (j : Nat) (hj : j < 4) : ∃ z, w.cell? (a.add j) = some (.int .i64 z) ∧ -9223372036854775808 ≤ z ∧ z ≤ 9223372036854775807 := by
  rw [cells4] at hc
  obtain ⟨_, hcl, hat⟩ := World.cells?_some hc
  obtain ⟨c0, c1, c2, c3, rfl⟩ : ∃ c0 c1 c2 c3, cs = [c0, c1, c2, c3] := by
    match cs, hcl with
    | [c0, c1, c2, c3], _ => exact ⟨c0, c1, c2, c3, rfl⟩
  obtain ⟨y0, y1, y2, y3, m, -, t0, t1, t2, t3⟩ := trod_array4 Tryz.underlying32 cellsI ht
  have key : ∀ (c : Value) (y : DataW H × List MemPlace), DataW.trod enc Tryz.prog w base spare held m 3 [c] = some y → ∃ z, c = .int .i64 z ∧ -9223372036854775808 ≤ z ∧ z ≤ 9223372036854775807 := fun c y h => by
    obtain ⟨z, hz, _, hwf⟩ := DataW.trod_int Tryz.underlying3 h
    exact ⟨z, (List.cons.inj hz).1, bounds_i64 hwf⟩
  have h1 := hat j hj
  match j, hj with
  | 0, _ => obtain ⟨z, e, hb⟩ := key _ _ t0; exact ⟨z, by rw [h1, e]; rfl, hb⟩
  | 1, _ => obtain ⟨z, e, hb⟩ := key _ _ t1; exact ⟨z, by rw [h1, e]; rfl, hb⟩
  | 2, _ => obtain ⟨z, e, hb⟩ := key _ _ t2; exact ⟨z, by rw [h1, e]; rfl, hb⟩
  | 3, _ => obtain ⟨z, e, hb⟩ := key _ _ t3; exact ⟨z, by rw [h1, e]; rfl, hb⟩

theorem fours_open {H : Type} {enc : TypeId × Value → H} {w : World} {base fuel : Nat} {spare : Nat → Bool} {held : Bool} {a : Option Addr} {len cap : Nat} {x : DataW H × List MemPlace} (h : DataW.trod enc Tryz.prog w base spare held fuel 23 [.slice a len cap] = some x) (hlen : len ≤ 1000000000000000) : ∃ f, Fours w (.slice a len cap) len f := by
  rcases Go.Deep.open_slice Tryz.underlying23 h with ⟨h0, _⟩ | ⟨ad, l, c, m, n, D, Pl, hcs, hb, hl, hm, hmm, hx, hi⟩
  · cases h0
    exact ⟨fun _ _ => 0, ⟨by simp, fun _ _ => by unfold I64; decide, none, 0, 0, 0, rfl, by simp, fun h => by simp at h, fun i j hi => by simp at hi⟩⟩
  · cases hcs
    have hlm : len ≤ m := by rw [hmm]; split <;> omega
    have hc : ∀ i j, i < len → j < 4 → ∃ z, w.cell? (ad.add (i * 4 + j)) = some (.int .i64 z) ∧ -9223372036854775808 ≤ z ∧ z ≤ 9223372036854775807 := fun i j hi' hj => by
      obtain ⟨cs', h1, h2⟩ := hi i (by omega)
      obtain ⟨z, hz, hb⟩ := four_cells h1 h2 j hj
      rw [cells4, Go.Deep.add_add] at hz
      exact ⟨z, hz, hb⟩
    obtain ⟨b, off, spot⟩ := ad
    by_cases hl0 : len = 0
    · subst hl0
      exact ⟨fun _ _ => 0, ⟨by simp, fun _ _ => by unfold I64; decide, some ⟨b, off, spot⟩, cap, b, off, rfl, hl, fun h => by simp at h, fun i j hi => by simp at hi⟩⟩
    · obtain ⟨z0, hz0, _⟩ := hc 0 0 (by omega) (by omega)
      have hspot : spot = none := by simpa [Addr.add] using World.cell?_spot hz0
      subst hspot
      have hc2 : ∀ i j, ∃ z : Int, (i < len → j < 4 → w.cell? ⟨b, off + i * 4 + j, none⟩ = some (.int .i64 z)) ∧ I64 z := fun i j => by
        by_cases hil : i < len ∧ j < 4
        · obtain ⟨z, h0, b0⟩ := hc i j hil.1 hil.2
          rw [Addr.add_lit, ← Nat.add_assoc] at h0
          exact ⟨z, fun _ _ => h0, b0⟩
        · exact ⟨0, fun h1 h2 => absurd ⟨h1, h2⟩ hil, by unfold I64; decide⟩
      exact ⟨fun i j => Classical.choose (hc2 i j), ⟨hlen, fun i j => (Classical.choose_spec (hc2 i j)).2, some ⟨b, off, none⟩, cap, b, off, rfl, hl, fun _ => rfl, fun i j hi hj => (Classical.choose_spec (hc2 i j)).1 hi hj⟩⟩
theorem fours_open' {H : Type} {enc : TypeId × Value → H} {w : World} {base fuel : Nat} {spare : Nat → Bool} {held : Bool} {a : Option Addr} {len cap : Nat} {x : DataW H × List MemPlace} (h : DataW.trod enc Tryz.prog w base spare held fuel 23 [.slice a len cap] = some x)
    (hs : ∀ el sp, x.1 = .slice el sp → (el.length + sp.length) * Tryz.prog.bytesOf 32 ≤ reachBytes) : ∃ f, Fours w (.slice a len cap) len f := by
  refine fours_open h ?_
  have hl := Go.Joins.sliceLen_trod (d := x.1) (ps := x.2) Tryz.underlying23 h
  cases e : x.1 with
  | slice el sp =>
    rw [e] at hl
    have h1 := hs el sp e
    rw [bytes4] at h1
    simp only [Go.Joins.sliceLen] at hl
    unfold reachBytes at h1
    omega
  | _ =>
    rw [e] at hl
    simp only [Go.Joins.sliceLen] at hl
    omega
end Go.Proofs.YtplkmbfeeegaiaaGreatDoor
