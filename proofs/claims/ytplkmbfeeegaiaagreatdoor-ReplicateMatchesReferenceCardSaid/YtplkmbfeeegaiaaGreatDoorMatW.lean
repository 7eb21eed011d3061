/-
  ReplicateMatchesReference.
-/
import Derived.Test.YtplkmbfeeegaiaaGreatDoorZ5
import Derived.Test.YtplkmbfeeegaiaaGreatDoorMatP
import Derived.Test.YtplkmbfeeegaiaaGreatDoorZ6
namespace Go.Proofs.YtplkmbfeeegaiaaGreatDoor
open Go.RowKit Go.Shelf

theorem six_cell (W : World) (a b c d e f : Value) (t : TypeId) : (W.alloc (.cells #[a, b, c, d, e, f] t)).cell? ⟨W.heap.size, 0, none⟩ = some a ∧ (W.alloc (.cells #[a, b, c, d, e, f] t)).cell? ⟨W.heap.size, 1, none⟩ = some b ∧ (W.alloc (.cells #[a, b, c, d, e, f] t)).cell? ⟨W.heap.size, 2, none⟩ = some c
    ∧ (W.alloc (.cells #[a, b, c, d, e, f] t)).cell? ⟨W.heap.size, 3, none⟩ = some d ∧ (W.alloc (.cells #[a, b, c, d, e, f] t)).cell? ⟨W.heap.size, 4, none⟩ = some e ∧ (W.alloc (.cells #[a, b, c, d, e, f] t)).cell? ⟨W.heap.size, 5, none⟩ = some f :=
  ⟨cells_new W [a, b, c, d, e, f] t 0 a rfl, cells_new W [a, b, c, d, e, f] t 1 b rfl, cells_new W [a, b, c, d, e, f] t 2 c rfl, cells_new W [a, b, c, d, e, f] t 3 d rfl, cells_new W [a, b, c, d, e, f] t 4 e rfl, cells_new W [a, b, c, d, e, f] t 5 f rfl⟩
/-- A ring that lies at an index of a list of rings. -/
def RingLies (W : World) (z i : Nat) : Prop := ∃ (ep : Int) (l : List Mb) (ow : List Int) (am : Option Addr) (lm cm : Nat) (ao : Option Addr) (lo co : Nat),
  W.cell? ⟨z, i * 3, none⟩ = some (.int .i64 ep) ∧ W.cell? ⟨z, i * 3 + 1, none⟩ = some (.slice am lm cm) ∧ W.cell? ⟨z, i * 3 + 2, none⟩ = some (.slice ao lo co) ∧ Rng W (.agg #[.int .i64 ep, .slice am lm cm, .slice ao lo co]) ep l ow
theorem RingLies.kept {W W' : World} {z i : Nat} (h : RingLies W z i) (k : Keep (fun _ => False) W W') : RingLies W' z i := by
  obtain ⟨ep, l, ow, am, lm, cm, ao, lo, co, h1, h2, h3, h4⟩ := h
  exact ⟨ep, l, ow, am, lm, cm, ao, lo, co, k.cell h1 (fun h => h), k.cell h2 (fun h => h), k.cell h3 (fun h => h), h4.kept k⟩

set_option maxRecDepth 100000 in
set_option maxHeartbeats 8000000 in
theorem repMatches_any (rv : Value) (rep : Int) (rl : List Mb) (row : List Int) (v : Value) (xs : List Int) (key : ByteArray) (n c q : Int) (w : World) (hr : Rng w rv rep rl row) (h : Its w v xs) (hkey : key.size ≤ maxLen) (hn : I64 n) (_hc : I64 c) (_hq : I64 q) (hT : Tab w) (hP : Pow w) : Calls Tryz.prog 5 #[rv, v, .string key, .int .i64 n, .int .i64 c, .int .i64 q] w fun e w' => e = .returned (.bool true) ∧ Keep (fun _ => False) w w' := by
  have HN := Lib.hid hn
  obtain ⟨va, vn, vc, rfl⟩ : ∃ a n c, v = .slice a n c := by
    obtain ⟨-, -, a, c, b, off, rfl, -⟩ := h
    exact ⟨_, _, _, rfl⟩
  -- the raw ring
  obtain ⟨hrb, vm, vo, rfl, hm0, ho0⟩ := hr
  obtain ⟨ma, mn, mc, rfl⟩ : ∃ a n c, vm = .slice a n c := by obtain ⟨a, c, b, off, h, _⟩ := hm0.at_; exact ⟨_, _, _, h⟩
  obtain ⟨oa, on, oc, rfl⟩ : ∃ a n c, vo = .slice a n c := by obtain ⟨a, c, b, off, h, _⟩ := ho0.at_; exact ⟨_, _, _, h⟩
  obtain ⟨q0, hq0⟩ : ∃ q : Nat, min (mn : Int) 26 = q := ⟨min mn 26, by omega⟩
  obtain ⟨q1, hq1⟩ : ∃ q : Nat, min (on : Int) 70 = q := ⟨min on 70, by omega⟩
  obtain ⟨hcm, hlm, hcapm⟩ := hm0.cut (show q0 ≤ mn by omega)
  obtain ⟨hco, hlo, hcapo⟩ := ho0.cut (show q1 ≤ on by omega)
  have hz0 : q0 ≤ mn := by omega
  have hz1 : q1 ≤ on := by omega
  generalize rl.take q0 = rl0 at *
  generalize row.take q1 = row0 at *
  have HRAW : Hid (∀ W, Keep (fun _ => False) w W → Rng W (.agg #[.int .i64 rep, .slice ma q0 mc, .slice oa q1 oc]) rep rl0 row0) := Lib.hid (fun W k => ⟨hrb, _, _, rfl, hcm.kept k, hco.kept k⟩)
  have HX := Lib.hid (Box3.new w (.int .i64 rep) (.slice ma mn mc) (.slice oa on oc) 27)
  have HK0 : Hid (Keep (fun _ => False) w (w.alloc (.cells #[.int .i64 rep, .slice ma mn mc, .slice oa on oc] 27))) := Lib.hid ((Keep.refl _ w).alloc _)
  have HTW := Lib.hid hT
  have HPW := Lib.hid hP
  have HI := Lib.hid h
  obtain ⟨l, hl⟩ : ∃ l, someL15 xs = l := ⟨_, rfl⟩
  obtain ⟨ow, how⟩ : ∃ ow, ow15 xs = ow := ⟨_, rfl⟩
  have HSOME : Hid (∀ W, Its W (.slice va vn vc) xs → Calls Tryz.prog 33 #[.slice va vn vc] W (RingBack 1 l ow W)) := Lib.hid (fun W k => by rw [← hl, ← how]; exact some15_any _ xs W k)
  obtain ⟨c', hcx⟩ : ∃ c', min (max c (-1000000000000)) 1000000000000 = c' := ⟨_, rfl⟩
  have HCB : Hid (-1000000000000 ≤ c' ∧ c' ≤ 1000000000000) := Lib.hid (by omega)
  have HCX := Lib.hid hcx
  clear hl how hT hP h hn hm0 ho0 hcm hco hlm hlo hrb hcx
  unfold maxLen at hkey
  go_enter Tryz.func5, Tryz.ntmps5
  go_upto_region 1 with (fail)
  generalize w.alloc (.cells #[.int .i64 rep, .slice ma mn mc, .slice oa on oc] 27) = W0 at *
  generalize hzr : w.heap.size = zr at *
  have HZR := Lib.hid hzr
  clear hzr
  go_wp2_with fail
  with_reducible refine (sane15_any W0 (HTW.out.kept HK0.out)).mono ?_
  rintro e W1 ⟨rfl, k1⟩
  have HX1 := Lib.hid (HX.out.kept k1)
  have HK1 := Lib.hid (HK0.out.trans k1)
  clear k1 HX HK0
  go_upto_region 3 with (fail)
  have HKS0 : Hid ((key.extract 0 (min (key.size : Int) 100).toNat).size ≤ 1000) := Lib.hid (by rw [ByteArray.size_extract]; omega)
  generalize key.extract 0 (min (key.size : Int) 100).toNat = ky at *
  go_upto_region 4 with (fail)
  rw [HCX.out]
  clear HCX
  have HX2 := Lib.hid (HX1.out.set1 (.slice ma q0 mc))
  have HX3 := Lib.hid (HX2.out.set2 (.slice oa q1 oc))
  have HKZ : Hid (Keep (fun _ => False) w ((W1.setCell ⟨zr, 1, none⟩ (.slice ma q0 mc)).setCell ⟨zr, 2, none⟩ (.slice oa q1 oc))) := Lib.hid (HK1.out.trans' (((Keep.refl (fun j => j = zr) W1).setCell (p := ⟨zr, 1, none⟩) _ (.inl rfl)).setCell (p := ⟨zr, 2, none⟩) _ (.inl rfl)) (fun j e => .inr (by have h5 : j = zr := e; have := HZR.out; omega)))
  obtain ⟨x0, x1, x2, xf⟩ := HX1.out
  go_upto_region 5 with (fail)
  clear x0 x1 x2 xf
  obtain ⟨x0, x1, x2, xf⟩ := HX2.out
  go_upto_region 6 with (fail)
  clear x0 x1 x2 xf
  generalize (W1.setCell ⟨zr, 1, none⟩ (.slice ma q0 mc)).setCell ⟨zr, 2, none⟩ (.slice oa q1 oc) = W2 at *
  clear HX1 HX2 HK1
  have x0 : ∀ p : KA (fun _ => False) W2, p.val.cell? ⟨zr, 0, none⟩ = some (.int .i64 rep) := fun p => p.k.cell HX3.out.1 (fun h => h)
  have x1 : ∀ p : KA (fun _ => False) W2, p.val.cell? ⟨zr, 1, none⟩ = some (.slice ma q0 mc) := fun p => p.k.cell HX3.out.2.1 (fun h => h)
  have x2 : ∀ p : KA (fun _ => False) W2, p.val.cell? ⟨zr, 2, none⟩ = some (.slice oa q1 oc) := fun p => p.k.cell HX3.out.2.2.1 (fun h => h)
  refine wp_region_walk [(true, 0), (true, 1), (true, 5), (false, 2), (false, 3), (false, 4)] (inKA (fun _ => False) W2) (by kernel_rfl) (by kernel_rfl) ?_
  iterate 3 (refine walkW_read rfl (fun K hK => ?_); go_simp; refine hK _ ?_; clear hK K)
  clear x0 x1 x2
  have HKD : Hid (Keep (fun _ => False) W2 W2.drew) := Lib.hid (Keep.refl _ W2).drew
  refine walkW_do rfl (inKA.of HKD.out) (fun K hK => ?_)
  go_simp
  refine (HSOME.out _ (HI.out.kept (HKZ.out.trans HKD.out))).mono ?_
  rintro e V1 ⟨am, cm, ao, co, rfl, hrn, k2⟩
  have HK2 := Lib.hid (HKD.out.trans k2)
  have HR2 := Lib.hid hrn
  obtain ⟨lm, hlm⟩ : ∃ n, l.length = n := ⟨_, rfl⟩
  rw [hlm] at HR2 ⊢
  clear k2 hrn HKD HSOME hlm
  refine hK _ _ ?_; clear hK K
  have HLIT := Lib.hid (six_cell V1 (.int .i64 rep) (.slice ma q0 mc) (.slice oa q1 oc) (.int .i64 1) (.slice am lm cm) (.slice ao 64 co) 27)
  have HKL : Hid (Keep (fun _ => False) V1 (V1.alloc (.cells #[.int .i64 rep, .slice ma q0 mc, .slice oa q1 oc, .int .i64 1, .slice am lm cm, .slice ao 64 co] 27))) := Lib.hid ((Keep.refl _ V1).alloc _)
  refine walkW_do rfl (inKA.of HK2.out) (fun K hK => ?_)
  go_simp
  refine hK _ _ ?_; clear hK K
  have HK3 := Lib.hid (HK2.out.trans HKL.out)
  have HKW3 := Lib.hid (HKZ.out.trans HK3.out)
  have HRS : Hid (∀ i < 2, RingLies (V1.alloc (.cells #[.int .i64 rep, .slice ma q0 mc, .slice oa q1 oc, .int .i64 1, .slice am lm cm, .slice ao 64 co] 27)) V1.heap.size i) := Lib.hid (by
    intro i hi
    obtain ⟨c0, c1, c2, c3, c4, c5⟩ := HLIT.out
    rcases i with _ | _ | i
    · exact ⟨rep, rl0, row0, ma, q0, mc, oa, q1, oc, c0, c1, c2, HRAW.out _ HKW3.out⟩
    · exact ⟨1, l, ow, am, lm, cm, ao, 64, co, c3, c4, c5, HR2.out.kept HKL.out⟩
    · omega)
  generalize V1.alloc (.cells #[.int .i64 rep, .slice ma q0 mc, .slice oa q1 oc, .int .i64 1, .slice am lm cm, .slice ao 64 co] 27) = W3 at *
  generalize V1.heap.size = zl at *
  refine walkW_do rfl (inKA.of HK3.out) (fun K hK => ?_)
  go_simp
  refine hK _ _ ?_; clear hK K
  refine ⟨inKA.of HK3.out, ?_⟩
  have HT3 := Lib.hid (HTW.out.kept HKW3.out)
  have HP3 := Lib.hid (HPW.out.kept HKW3.out)
  clear HLIT HK2 HK3 HR2 HKL HX3 HRAW HI HKZ HTW HPW
  go_wp2_with fail
  go_loopg [48] 2 (fun gh v48 wr => ∃ i : Nat, gh + i = 2 ∧ v48 = .int .i64 i ∧ Keep (fun _ => False) W3 wr)
  case atStart => exact ⟨0, by omega, rfl, Keep.refl _ _⟩
  case round =>
    obtain ⟨i, hi, rfl, hkeep⟩ := hrel
    have HKE := Lib.hid hkeep
    clear hkeep
    by_cases hlt : i < 2
    · obtain ⟨ep, l1, ow1, am1, lm1, cm1, ao1, lo1, co1, c0, c1, c2, hrr⟩ := (HRS.out i hlt).kept HKE.out
      have HRR := Lib.hid hrr
      clear hrr
      have hiz : (i : Int) < 2 := by omega
      have hi0 : (0 : Int) ≤ (i : Int) := by omega
      go_upto_region 9 with (fail)
      have HKB : Hid (Keep (fun _ => False) wr (wr.alloc (.cells #[.int .i64 ep, .slice am1 lm1 cm1, .slice ao1 lo1 co1] 27))) := Lib.hid ((Keep.refl _ wr).alloc _)
      have HB := Lib.hid (Box3.new wr (.int .i64 ep) (.slice am1 lm1 cm1) (.slice ao1 lo1 co1) 27)
      clear c0 c1 c2
      generalize wr.alloc (.cells #[.int .i64 ep, .slice am1 lm1 cm1, .slice ao1 lo1 co1] 27) = W4 at *
      generalize wr.heap.size = z4 at *
      have HR4 := Lib.hid (HRR.out.kept HKB.out)
      have HKE4 := Lib.hid (HKE.out.trans HKB.out)
      clear HKE HKB HRR
      go_wp2_with fail
      with_reducible refine (pick15_any n 5 W4 HN.out (by decide)).mono ?_
      rintro e w' ⟨rfl, rfl⟩
      have HKC : Hid (Keep (fun _ => False) W4 (W4.alloc (.cells #[.int .i64 n, .int .i64 (pk n 5)] 3))) := Lib.hid ((Keep.refl _ W4).alloc _)
      have HC := Lib.hid (two_cell W4 (.int .i64 n) (.int .i64 (pk n 5)) 3)
      generalize pk n 5 = n5 at *
      go_wp2_with fail
      generalize W4.alloc (.cells #[.int .i64 n, .int .i64 n5] 3) = W5 at *
      generalize W4.heap.size = z5 at *
      have HR5 := Lib.hid (HR4.out.kept HKC.out)
      have HB5 := Lib.hid (HB.out.kept HKC.out)
      have HKE5 := Lib.hid (HKE4.out.trans HKC.out)
      have HT5 := Lib.hid (HT3.out.kept HKE5.out)
      have HP5 := Lib.hid (HP3.out.kept HKE5.out)
      have HCN : Hid (∀ j < 2, ∃ k : Int, W5.cell? ⟨z5, j, none⟩ = some (.int .i64 k)) := Lib.hid (by
        intro j hj
        rcases j with _ | _ | j
        · exact ⟨n, HC.out.1⟩
        · exact ⟨n5, HC.out.2.1⟩
        · omega)
      clear HR4 HB HKE4 HC HKC
      go_loopg [57] 2 (fun gh v57 wr => ∃ j : Nat, gh + j = 2 ∧ v57 = .int .i64 j ∧ Keep (fun _ => False) W5 wr)
      case atStart => exact ⟨0, by omega, rfl, Keep.refl _ _⟩
      case round =>
        obtain ⟨j, hj, rfl, hkeep⟩ := hrel
        have HKJ := Lib.hid hkeep
        clear hkeep
        by_cases hjl : j < 2
        · obtain ⟨k, hk⟩ := HCN.out j hjl
          have ck := HKJ.out.cell hk (fun h => h)
          have hjz : (j : Int) < 2 := by omega
          have hj0 : (0 : Int) ≤ (j : Int) := by omega
          clear hk
          go_upto_region 12 with (fail)
          clear ck
          have HR6 := Lib.hid (HR5.out.kept HKJ.out)
          have HT6 := Lib.hid (HT5.out.kept HKJ.out)
          have HP6 := Lib.hid (HP5.out.kept HKJ.out)
          have HB6 := Lib.hid (HB5.out.kept HKJ.out)
          obtain ⟨H, hH⟩ : ∃ H, holdV ep l1 ow1 ky k = H := ⟨_, rfl⟩
          have HCOP : Hid (∀ W, Keep (fun _ => False) wr W → Calls Tryz.prog 35 #[.agg #[.int .i64 ep, .slice am1 lm1 cm1, .slice ao1 lo1 co1], .string ky, .int .i64 k] W (HoldPost W (H.drop 1))) := Lib.hid (fun W h => by
            have := copies_any _ ep l1 ow1 ky k W (HR6.out.kept h) HKS0.out (HT6.out.kept h)
            rwa [hH] at this)
          have HCOPR : Hid (∀ W, Keep (fun _ => False) wr W → Calls Tryz.prog 36 #[.agg #[.int .i64 ep, .slice am1 lm1 cm1, .slice ao1 lo1 co1], .string ky, .int .i64 k] W (HoldPost W (H.drop 1))) := Lib.hid (fun W h => by
            have := refCopies15_any _ ep l1 ow1 ky k W (HR6.out.kept h) HKS0.out
            rwa [hH] at this)
          obtain ⟨ch, hch⟩ : ∃ ch, chooseV H ky c' = ch := ⟨_, rfl⟩
          have HCHO : Hid (∀ W, Keep (fun _ => False) wr W → Calls Tryz.prog 37 #[.agg #[.int .i64 ep, .slice am1 lm1 cm1, .slice ao1 lo1 co1], .string ky, .int .i64 k, .int .i64 c'] W fun e w' => e = .returned (.int .i64 ch) ∧ Keep (fun _ => False) W w') := Lib.hid (fun W h => by
            have := choose_any _ ep l1 ow1 ky k c' W (HR6.out.kept h) HKS0.out (by have := HCB.out; unfold I64; omega) (HT6.out.kept h) (HP6.out.kept h)
            rwa [hH, hch] at this)
          have HCHOR : Hid (∀ W, Keep (fun _ => False) wr W → Calls Tryz.prog 38 #[.agg #[.int .i64 ep, .slice am1 lm1 cm1, .slice ao1 lo1 co1], .string ky, .int .i64 k, .int .i64 c'] W fun e w' => e = .returned (.int .i64 ch) ∧ Keep (fun _ => False) W w') := Lib.hid (fun W h => by
            have := refChoose15_any _ ep l1 ow1 ky k c' W (HR6.out.kept h) HKS0.out HCB.out
            rwa [hH, hch] at this)
          obtain ⟨hi', hhi⟩ : ∃ b, hasI H q = b := ⟨_, rfl⟩
          have HHOL : Hid (∀ W, Keep (fun _ => False) wr W → Calls Tryz.prog 39 #[.agg #[.int .i64 ep, .slice am1 lm1 cm1, .slice ao1 lo1 co1], .string ky, .int .i64 k, .int .i64 q] W fun e w' => e = .returned (.bool hi') ∧ Keep (fun _ => False) W w') := Lib.hid (fun W h => by
            have := holds_any _ ep l1 ow1 ky k q W (HR6.out.kept h) HKS0.out (HT6.out.kept h)
            rwa [hH, hhi] at this)
          have HHOLR : Hid (∀ W, Keep (fun _ => False) wr W → Calls Tryz.prog 40 #[.agg #[.int .i64 ep, .slice am1 lm1 cm1, .slice ao1 lo1 co1], .string ky, .int .i64 k, .int .i64 q] W fun e w' => e = .returned (.bool hi') ∧ Keep (fun _ => False) W w') := Lib.hid (fun W h => by
            have := refHolds15_any _ ep l1 ow1 ky k q W (HR6.out.kept h) HKS0.out
            rwa [hH, hhi] at this)
          clear hH hch hhi
          generalize H.drop 1 = X at *
          have HSAME : Hid (∀ va vb W, Its W va X → Its W vb X → Calls Tryz.prog 26 #[va, vb] W fun e w' => e = .returned (.bool true) ∧ Keep (fun _ => False) W w') := Lib.hid (fun va vb W h1 h2 => by
            have := sameInts_any va vb X X W h1 h2
            rwa [decide_eq_true rfl] at this)
          have hcc : (ch != ch) = false := by simp
          have hbb : (hi' != hi') = false := by simp
          have y0 : ∀ p : KA (fun _ => False) wr, p.val.cell? ⟨z4, 0, none⟩ = some (.int .i64 ep) := fun p => p.k.cell HB6.out.1 (fun h => h)
          have y1 : ∀ p : KA (fun _ => False) wr, p.val.cell? ⟨z4, 1, none⟩ = some (.slice am1 lm1 cm1) := fun p => p.k.cell HB6.out.2.1 (fun h => h)
          have y2 : ∀ p : KA (fun _ => False) wr, p.val.cell? ⟨z4, 2, none⟩ = some (.slice ao1 lo1 co1) := fun p => p.k.cell HB6.out.2.2.1 (fun h => h)
          refine wp_region_walk [(true, 0), (true, 1), (true, 2), (true, 4), (true, 5), (true, 6), (false, 3), (false, 7), (false, 8), (false, 9), (false, 10), (true, 11), (true, 12), (true, 13), (true, 14), (true, 16), (true, 17), (true, 18), (true, 19), (false, 15), (false, 20), (false, 21), (false, 22), (false, 23), (true, 24), (true, 25), (true, 26), (true, 27), (true, 29), (true, 30), (true, 31), (true, 32), (false, 28), (false, 33), (false, 34), (false, 35)] (inKA (fun _ => False) wr) (by kernel_rfl) (by kernel_rfl) ?_
          have HKD : Hid (Keep (fun _ => False) wr wr.drew) := Lib.hid (Keep.refl _ wr).drew
          iterate 6 (refine walkW_read rfl (fun K hK => ?_); go_simp; refine hK _ ?_; clear hK K)
          refine walkW_do rfl (inKA.of HKD.out) (fun K hK => ?_)
          go_simp
          refine (HCOP.out _ HKD.out).mono ?_
          rintro e U1 ⟨u1, rfl, hu1, kk⟩
          obtain ⟨b1, bn1, bc1, rfl⟩ : ∃ a n c, u1 = .slice a n c := by obtain ⟨-, -, a, c, b, off, rfl, -⟩ := hu1; exact ⟨_, _, _, rfl⟩
          have HU1 := Lib.hid hu1
          have HK1 := Lib.hid (HKD.out.trans kk)
          clear kk hu1
          refine hK _ _ ?_; clear hK K
          refine walkW_do rfl (inKA.of HK1.out) (fun K hK => ?_)
          go_simp
          refine (HCOPR.out _ HK1.out).mono ?_
          rintro e U2 ⟨u2, rfl, hu2, kk⟩
          obtain ⟨b2, bn2, bc2, rfl⟩ : ∃ a n c, u2 = .slice a n c := by obtain ⟨-, -, a, c, b, off, rfl, -⟩ := hu2; exact ⟨_, _, _, rfl⟩
          have HU2 := Lib.hid hu2
          have HU12 := Lib.hid (HU1.out.kept kk)
          have HK2 := Lib.hid (HK1.out.trans kk)
          clear kk hu2
          refine hK _ _ ?_; clear hK K
          refine walkW_do rfl (inKA.of HK2.out) (fun K hK => ?_)
          go_simp
          refine (HSAME.out _ _ _ HU12.out HU2.out).mono ?_
          rintro e U3 ⟨rfl, kk⟩
          have HK3 := Lib.hid (HK2.out.trans kk)
          clear kk
          refine hK _ _ ?_; clear hK K
          iterate 2 (refine walkW_do rfl (inKA.of HK3.out) (fun K hK => ?_); go_simp; refine hK _ _ ?_; clear hK K)
          iterate 8 (refine walkW_read rfl (fun K hK => ?_); go_simp; refine hK _ ?_; clear hK K)
          refine walkW_do rfl (inKA.of HK3.out) (fun K hK => ?_)
          go_simp
          refine (HCHO.out _ HK3.out).mono ?_
          rintro e U4 ⟨rfl, kk⟩
          have HK4 := Lib.hid (HK3.out.trans kk)
          clear kk
          refine hK _ _ ?_; clear hK K
          refine walkW_do rfl (inKA.of HK4.out) (fun K hK => ?_)
          go_simp
          refine (HCHOR.out _ HK4.out).mono ?_
          rintro e U5 ⟨rfl, kk⟩
          have HK5 := Lib.hid (HK4.out.trans kk)
          clear kk
          refine hK _ _ ?_; clear hK K
          iterate 3 (refine walkW_do rfl (inKA.of HK5.out) (fun K hK => ?_); go_simp; refine hK _ _ ?_; clear hK K)
          iterate 8 (refine walkW_read rfl (fun K hK => ?_); go_simp; refine hK _ ?_; clear hK K)
          clear y0 y1 y2
          refine walkW_do rfl (inKA.of HK5.out) (fun K hK => ?_)
          go_simp
          refine (HHOL.out _ HK5.out).mono ?_
          rintro e U6 ⟨rfl, kk⟩
          have HK6 := Lib.hid (HK5.out.trans kk)
          clear kk
          refine hK _ _ ?_; clear hK K
          refine walkW_do rfl (inKA.of HK6.out) (fun K hK => ?_)
          go_simp
          refine (HHOLR.out _ HK6.out).mono ?_
          rintro e U7 ⟨rfl, kk⟩
          have HK7 := Lib.hid (HK6.out.trans kk)
          clear kk
          refine hK _ _ ?_; clear hK K
          iterate 2 (refine walkW_do rfl (inKA.of HK7.out) (fun K hK => ?_); go_simp; refine hK _ _ ?_; clear hK K)
          refine ⟨inKA.of HK7.out, ?_⟩
          have HKJ7 := Lib.hid (HKJ.out.trans HK7.out)
          clear HK1 HK2 HK3 HK4 HK5 HK6 HKD HCOP HCOPR HCHO HCHOR HHOL HHOLR HSAME HU1 HU2 HU12 HR6 HT6 HP6 HB6 hcc hbb
          go_wp2_with fail
          go_roundg (2 - (j + 1))
          case rel => exact ⟨j + 1, by omega, by go_num, HKJ7.out⟩
          case measure => omega
        · obtain rfl : j = 2 := by omega
          have HKE6 := Lib.hid (HKE5.out.trans HKJ.out)
          go_wp2_with fail
          go_roundg (2 - (i + 1))
          case rel => exact ⟨i + 1, by omega, by go_num, HKE6.out⟩
          case measure => omega
    · obtain rfl : i = 2 := by omega
      have HKF := Lib.hid (HKW3.out.trans HKE.out)
      go_wp2_with fail
      go_ret
      exact ⟨rfl, HKF.out⟩
end Go.Proofs.YtplkmbfeeegaiaaGreatDoor
