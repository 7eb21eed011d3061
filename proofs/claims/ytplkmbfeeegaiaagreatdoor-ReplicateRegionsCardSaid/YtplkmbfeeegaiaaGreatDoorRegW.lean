/-
  ReplicateRegions.
-/
import Derived.Test.YtplkmbfeeegaiaaGreatDoorZ5
import Derived.Test.YtplkmbfeeegaiaaGreatDoorZ6
namespace Go.Proofs.YtplkmbfeeegaiaaGreatDoor
open Go.RowKit Go.Shelf

/-- Truth values in a box of four. -/
def BA (W : World) (b : Nat) (f : Int → Bool) : Prop := ∀ q : Nat, q < 4 → W.cell? ⟨b, q, none⟩ = some (.bool (f q)) ∧ W.frozen? ⟨b, q, none⟩ = false
theorem BA.lt {W : World} {b : Nat} {f : Int → Bool} (h : BA W b f) : b < W.heap.size := World.block_lt_of_cell? _ _ (h 0 (by omega)).1
theorem BA.keep {W W' : World} {A : Nat → Prop} {b : Nat} {f : Int → Bool} (h : BA W b f) (k : Keep A W W') (hA : ¬ A b) : BA W' b f := fun q hq => ⟨k.cell (h q hq).1 hA, (k.frozen h.lt hA q).trans (h q hq).2⟩
theorem BA.new (W : World) (t : TypeId) : BA (W.alloc (.cells #[.bool false, .bool false, .bool false, .bool false] t)) W.heap.size (fun _ => false) := by
  have h := four_cell W (.bool false) (.bool false) (.bool false) (.bool false) t
  intro q hq
  refine ⟨?_, h.2.2.2.2 q⟩
  rcases q with _ | _ | _ | _ | q
  · exact h.1
  · exact h.2.1
  · exact h.2.2.1
  · exact h.2.2.2.1
  · omega
theorem BA.set {W : World} {b : Nat} {f : Int → Bool} (h : BA W b f) {q : Nat} (hq : q < 4) : BA (W.setCell ⟨b, q, none⟩ (.bool true)) b (fun r => f r || decide (r = (q : Int))) := by
  intro p hp
  refine ⟨?_, by rw [World.frozen?_setCell]; exact (h p hp).2⟩
  by_cases e : p = q
  · subst e
    rw [cell_set_same (h p hp).1]
    simp
  · rw [cell_set_off (by omega), (h p hp).1]
    have : ¬ (p : Int) = (q : Int) := by omega
    simp [this]
theorem BA.congr {W : World} {b : Nat} {f g : Int → Bool} (h : BA W b f) (e : ∀ q, f q = g q) : BA W b g := fun q hq => by rw [← e]; exact h q hq
def allK (l : List Mb) (k : Nat) (r : Int) : Bool := (l.take k).any (fun m => decide (m.region = r))
def ownK (l : List Mb) (H : List Int) (k : Nat) (r : Int) : Bool := (l.take k).any (fun m => hasI H m.node && decide (m.region = r))
theorem allK_succ {l : List Mb} {k : Nat} {m : Mb} (h : l[k]? = some m) (r : Int) : (allK l k r || decide (r = m.region)) = allK l (k + 1) r := by
  unfold allK
  rw [List.take_add_one, h, Option.toList_some, List.any_append]
  simp [eq_comm]
theorem ownK_succ {l : List Mb} {H : List Int} {k : Nat} {m : Mb} (h : l[k]? = some m) (r : Int) : (ownK l H k r || (hasI H m.node && decide (r = m.region))) = ownK l H (k + 1) r := by
  unfold ownK
  rw [List.take_add_one, h, Option.toList_some, List.any_append]
  simp [eq_comm]
theorem allK_all {l : List Mb} {k : Nat} (h : l.length ≤ k) : allK l k = allC l := by funext r; unfold allK allC; rw [List.take_of_length_le h]
theorem ownK_all {l : List Mb} {H : List Int} {k : Nat} (h : l.length ≤ k) : ownK l H k = usedC l H := by funext r; unfold ownK usedC hasI; rw [List.take_of_length_le h]
def rcK (f : Int → Bool) : Nat → Nat
  | 0 => 0
  | i + 1 => rcK f i + (f i).toNat
theorem rcK_four (f : Int → Bool) : rcK f 4 = rc f := by simp [rcK, rc]
theorem rcK_le (f : Int → Bool) : ∀ i, rcK f i ≤ i
  | 0 => Nat.le_refl _
  | i + 1 => by
    have h1 := rcK_le f i
    have h2 : (f i).toNat ≤ 1 := by cases f i <;> simp
    simp only [rcK]
    omega

set_option maxRecDepth 100000 in
set_option maxHeartbeats 8000000 in
theorem repRegions_any (v : Value) (xs : List Int) (key : ByteArray) (n : Int) (w : World) (h : Its w v xs) (hkey : key.size ≤ maxLen) (hn : I64 n) (hT : Tab w) (hP : Pow w) : Calls Tryz.prog 8 #[v, .string key, .int .i64 n] w fun e w' => e = .returned (.bool true) ∧ Keep (fun _ => False) w w' := by
  have HT := Lib.hid hT
  have HP := Lib.hid hP
  have HI := Lib.hid h
  have HN := Lib.hid hn
  obtain ⟨va, vn, vc, rfl⟩ : ∃ a n c, v = .slice a n c := by
    obtain ⟨-, -, a, c, b, off, rfl, -⟩ := h
    exact ⟨_, _, _, rfl⟩
  clear hT hP h hn
  obtain ⟨l, hl⟩ : ∃ l, someL15 xs = l := ⟨_, rfl⟩
  obtain ⟨ow, how⟩ : ∃ ow, ow15 xs = ow := ⟨_, rfl⟩
  have HOK : Hid (okRing 1 l ow) := Lib.hid (by rw [← hl, ← how]; exact ok15 xs)
  have HV : Hid (VL l) := Lib.hid HOK.out.2.2.1
  have hl8 : l.length ≤ 8 := by rw [← hl]; exact someL15_len xs
  have HSOME : Hid (∀ W, Keep (fun _ => False) w W → Calls Tryz.prog 33 #[.slice va vn vc] W (RingBack 1 l ow W)) := Lib.hid (fun W k => by rw [← hl, ← how]; exact some15_any _ xs W (HI.out.kept k))
  clear hl how
  have hp1 := pk_bd n 3 (by decide)
  unfold maxLen at hkey
  go_enter Tryz.func8, Tryz.ntmps8
  go_wp2_with fail
  with_reducible refine (sane15_any w HT.out).mono ?_
  rintro e W1 ⟨rfl, k1⟩
  have HK1 := Lib.hid k1
  clear k1
  go_wp2_with fail
  have HKS0 : Hid ((key.extract 0 (min (key.size : Int) 100).toNat).size ≤ 1000) := Lib.hid (by rw [ByteArray.size_extract]; omega)
  generalize key.extract 0 (min (key.size : Int) 100).toNat = ky at *
  with_reducible refine (pick15_any n 3 _ HN.out (by decide)).mono ?_
  rintro e w' ⟨rfl, rfl⟩
  generalize pk n 3 = p at *
  obtain ⟨pq, rfl⟩ : ∃ q : Nat, p = q := ⟨p.toNat, by omega⟩
  obtain ⟨m, hm⟩ : ∃ m : Nat, 1 + pq = m := ⟨_, rfl⟩
  have hmi : (1 : Int) + (pq : Int) = (m : Int) := by omega
  have hw1 : IntKind.i64.wrap (1 + (pq : Int)) = (m : Int) := by rw [hmi]; exact wrapI (by unfold I64; omega)
  have hm3 : 1 ≤ m ∧ m ≤ 3 := by omega
  go_wp2_with fail
  with_reducible refine (HSOME.out _ HK1.out).mono ?_
  rintro e W2 hrb
  obtain ⟨mb, mo, cm, ao, co, rfl, hst⟩ := hrb.st HK1.out HV.out (HT.out.kept HK1.out) (HP.out.kept HK1.out)
  have HST := Lib.hid hst
  have hlc := hst.len.2
  obtain ⟨ln, hln⟩ : ∃ n, l.length = n := ⟨_, rfl⟩
  have HLN := Lib.hid hln
  have hln1 : 0 < ln := by rw [← hln]; exact List.length_pos_iff.2 HV.out.ne
  rw [hln] at HST hl8 hlc ⊢
  clear hrb hst HSOME HK1 hw1 hln hkey
  go_upto_region 5 with (fail)
  generalize W2.alloc (.cells #[.int .i64 1, .slice (some ⟨mb, mo, none⟩) ln cm, .slice ao 64 co] 27) = W3 at *
  generalize hzb : W2.heap.size = zb at *
  clear hzb
  obtain ⟨o, H, HHA⟩ : ∃ o H, Hid (HoldAt l ow ky o m H) := ⟨_, _, Lib.hid (hold_at l ow ky m hm3 HOK.out)⟩
  have HRG : Hid (rc (usedC l H) = min (rc (allC l)) (m + 1)) := Lib.hid (by rw [← HHA.out.eq]; exact hold_regions HV.out (by obtain ⟨t, e⟩ := HHA.out.at_.hd; exact HHA.out.at_.mem o (by rw [e]; simp)) m)
  have HHOL : Hid (∀ W, RepSt w zb mb mo ln cm ao co l ow W → ∀ q, Calls Tryz.prog 39 #[ringA (some ⟨mb, mo, none⟩) ln cm ao co, .string ky, .int .i64 m, .int .i64 q] W fun e w' => e = .returned (.bool (hasI H q)) ∧ Keep (fun _ => False) W w') := Lib.hid (fun W h q => by
    have := holds_any _ 1 l ow ky m q W h.r HKS0.out h.t
    rwa [HHA.out.holdV] at this)
  have HA0 := Lib.hid (BA.new W3 73)
  have KA1 : Keep (fun _ => False) W3 (W3.alloc (.cells #[.bool false, .bool false, .bool false, .bool false] 73)) := (Keep.refl _ W3).alloc _
  have HB0 := Lib.hid (BA.new (W3.alloc (.cells #[.bool false, .bool false, .bool false, .bool false] 73)) 73)
  have KA2 : Keep (fun _ => False) (W3.alloc (.cells #[.bool false, .bool false, .bool false, .bool false] 73)) ((W3.alloc (.cells #[.bool false, .bool false, .bool false, .bool false] 73)).alloc (.cells #[.bool false, .bool false, .bool false, .bool false] 73)) := (Keep.refl _ _).alloc _
  rw [World.size_alloc] at HB0
  have HA1 := Lib.hid (HA0.out.keep KA2 (fun h => h))
  have HK37 := Lib.hid (KA1.trans KA2)
  clear KA1 KA2 HA0
  go_upto_region 7 with (fail)
  generalize (W3.alloc (.cells #[.bool false, .bool false, .bool false, .bool false] 73)).alloc (.cells #[.bool false, .bool false, .bool false, .bool false] 73) = W7 at *
  generalize hba : W3.heap.size = ba at *
  have HBA := Lib.hid hba
  clear hba
  go_upto_region 8 with (fail)
  go_loopg [11] ln (fun gh v11 wr => ∃ k : Nat, gh + k = ln ∧ v11 = .int .i64 k ∧ Keep (fun j => j = ba ∨ j = ba + 1) W7 wr ∧ BA wr ba (allK l k) ∧ BA wr (ba + 1) (ownK l H k))
  case atStart => exact ⟨0, by omega, rfl, Keep.refl _ _, HA1.out.congr (fun q => by simp [allK]), HB0.out.congr (fun q => by simp [ownK])⟩
  case round =>
    clear HA1 HB0
    obtain ⟨k, hk, rfl, hkeep, hba, hbo⟩ := hrel
    have HKE := Lib.hid hkeep
    have HA := Lib.hid hba
    have HB := Lib.hid hbo
    have HK3 : Hid (Keep (fun _ => False) W3 wr) := Lib.hid (HK37.out.trans' hkeep (fun j e => .inr (by have := HBA.out; rcases e with e | e <;> omega)))
    have HSW := Lib.hid (HST.out.kept HK3.out)
    clear hkeep hba hbo
    obtain ⟨y0, y1, y2, yf⟩ := HSW.out.b
    by_cases hlt : k < ln
    · obtain ⟨mm, hmm⟩ : ∃ mm, l[k]? = some mm := ⟨_, List.getElem?_eq_getElem (by rw [HLN.out]; exact hlt)⟩
      have HAS := Lib.hid (allK_succ hmm)
      have HOS := Lib.hid (ownK_succ (H := H) hmm)
      have HMM := Lib.hid (HSW.out.mem hmm)
      have hmk := HV.out.ok mm (List.mem_of_getElem? hmm)
      unfold okMb at hmk
      have hkz : (k : Int) < (ln : Int) := by omega
      have hk0 : (0 : Int) ≤ (k : Int) := by omega
      have HGET := Lib.hid hmm
      clear hmm
      obtain ⟨q, rq, wq⟩ := mm
      simp only [] at hmk HMM HAS HOS
      obtain ⟨r, rfl⟩ : ∃ r : Nat, rq = r := ⟨rq.toNat, by omega⟩
      have hr4 : r < 4 := by omega
      have hrz : (r : Int) < 4 := by omega
      have hr0 : (0 : Int) ≤ (r : Int) := by omega
      have cr := HMM.out.2.1
      have ca := (HA.out r hr4).1
      have cf := (HA.out r hr4).2
      have HA2 := Lib.hid ((HA.out.set hr4).congr (HAS.out))
      have HKS : Hid (Keep (fun j => j = ba) wr (wr.setCell ⟨ba, r, none⟩ (.bool true))) := Lib.hid ((Keep.refl (fun j => j = ba) wr).setCell (p := ⟨ba, r, none⟩) _ (.inl rfl))
      have HB2 := Lib.hid (HB.out.keep HKS.out (fun e => by have h5 : ba + 1 = ba := e; omega))
      have HKE2 : Hid (Keep (fun j => j = ba ∨ j = ba + 1) W7 (wr.setCell ⟨ba, r, none⟩ (.bool true))) := Lib.hid (HKE.out.trans (HKS.out.mono (fun j e => .inl e)))
      have HK32 : Hid (Keep (fun _ => False) W3 (wr.setCell ⟨ba, r, none⟩ (.bool true))) := Lib.hid (HK3.out.trans' HKS.out (fun j e => .inr (by have h5 : j = ba := e; have := HBA.out; omega)))
      have HS2 := Lib.hid (HST.out.kept HK32.out)
      have HM2 : Hid ((wr.setCell ⟨ba, r, none⟩ (.bool true)).cell? ⟨mb, mo + k * 3, none⟩ = some (.int .i64 q) ∧ (wr.setCell ⟨ba, r, none⟩ (.bool true)).cell? ⟨mb, mo + k * 3 + 1, none⟩ = some (.int .i64 r)) := Lib.hid (by
        have hne : ba ≠ mb := fun e => by have := World.block_lt_of_cell? _ _ (HST.out.mem (j := k) (m := ⟨q, r, wq⟩) HGET.out).1; have h6 : mb < W3.heap.size := this; have := HBA.out; omega
        exact ⟨by rw [cell_set_blk hne]; exact HMM.out.1, by rw [cell_set_blk hne]; exact HMM.out.2.1⟩)
      go_upto_region 11 with (fail)
      clear y0 y1 y2 yf cr ca cf
      generalize wr.setCell ⟨ba, r, none⟩ (.bool true) = V0 at *
      have y0 : ∀ p : KA (fun _ => False) V0, p.val.cell? ⟨zb, 0, none⟩ = some (.int .i64 1) := fun p => p.k.cell HS2.out.b.1 (fun h => h)
      have y1 : ∀ p : KA (fun _ => False) V0, p.val.cell? ⟨zb, 1, none⟩ = some (.slice (some ⟨mb, mo, none⟩) ln cm) := fun p => p.k.cell HS2.out.b.2.1 (fun h => h)
      have y2 : ∀ p : KA (fun _ => False) V0, p.val.cell? ⟨zb, 2, none⟩ = some (.slice ao 64 co) := fun p => p.k.cell HS2.out.b.2.2.1 (fun h => h)
      refine wp_region_walk [(true, 0), (true, 1), (true, 2), (true, 3), (true, 4), (false, 5), (false, 6), (false, 7), (false, 8), (false, 9)] (inKA (fun _ => False) V0) (by kernel_rfl) (by kernel_rfl) ?_
      iterate 5 (refine walkW_read rfl (fun K hK => ?_); go_simp; refine hK _ ?_; clear hK K)
      clear y0 y1 y2
      have HKD : Hid (Keep (fun _ => False) V0 V0.drew) := Lib.hid (Keep.refl _ V0).drew
      have cq : V0.drew.cell? ⟨mb, mo + k * 3, none⟩ = some (.int .i64 q) := HKD.out.cell HM2.out.1 (fun h => h)
      have HSD := Lib.hid (HS2.out.kept HKD.out)
      generalize V0.drew = V1 at *
      iterate 4 (refine walkW_do rfl (inKA.of HKD.out) (fun K hK => ?_); go_simp; refine hK _ _ ?_; clear hK K)
      refine walkW_do rfl (inKA.of HKD.out) (fun K hK => ?_)
      go_simp
      refine (HHOL.out V1 HSD.out q).mono ?_
      rintro e V2 ⟨rfl, k2⟩
      have HK2 := Lib.hid (HKD.out.trans k2)
      clear k2 cq HSD
      refine hK _ _ ?_; clear hK K
      refine ⟨inKA.of HK2.out, ?_⟩
      have HA3 := Lib.hid (HA2.out.keep HK2.out (fun h => h))
      have HB3 := Lib.hid (HB2.out.keep HK2.out (fun h => h))
      have HKE3 : Hid (Keep (fun j => j = ba ∨ j = ba + 1) W7 V2) := Lib.hid (HKE2.out.trans (HK2.out.mono (fun _ h => h.elim)))
      have HS3 := Lib.hid (HS2.out.kept HK2.out)
      have HM3 : Hid (V2.cell? ⟨mb, mo + k * 3 + 1, none⟩ = some (.int .i64 r)) := Lib.hid (HK2.out.cell HM2.out.2 (fun h => h))
      clear HA2 HB2 HKE2 HS2 HM2 HK32 HKS HK3 HKD HK2 HA HB HKE HSW
      cases hh : hasI H q with
      | true =>
        have HB4 : Hid (BA (V2.setCell ⟨ba + 1, r, none⟩ (.bool true)) (ba + 1) (ownK l H (k + 1))) := Lib.hid ((HB3.out.set hr4).congr (fun p => by rw [← HOS.out p, hh]; simp))
        have HKS : Hid (Keep (fun j => j = ba + 1) V2 (V2.setCell ⟨ba + 1, r, none⟩ (.bool true))) := Lib.hid ((Keep.refl (fun j => j = ba + 1) V2).setCell (p := ⟨ba + 1, r, none⟩) _ (.inl rfl))
        have HA4 := Lib.hid (HA3.out.keep HKS.out (fun e => by have h5 : ba = ba + 1 := e; omega))
        have HKE4 : Hid (Keep (fun j => j = ba ∨ j = ba + 1) W7 (V2.setCell ⟨ba + 1, r, none⟩ (.bool true))) := Lib.hid (HKE3.out.trans (HKS.out.mono (fun j e => .inr e)))
        have cb := (HB3.out r hr4).1
        have cf := (HB3.out r hr4).2
        have cr := HM3.out
        obtain ⟨y0, y1, y2, yf⟩ := HS3.out.b
        clear hh
        go_wp2_with fail
        clear cb cf cr y0 y1 y2 yf
        go_roundg (gk - 1)
        case rel => exact ⟨k + 1, by omega, by go_num, HKE4.out, HA4.out, HB4.out⟩
        case measure => omega
      | false =>
        have HB4 : Hid (BA V2 (ba + 1) (ownK l H (k + 1))) := Lib.hid (HB3.out.congr (fun p => by rw [← HOS.out p, hh]; simp))
        clear hh
        go_wp2_with fail
        go_roundg (gk - 1)
        case rel => exact ⟨k + 1, by omega, by go_num, HKE3.out, HA3.out, HB4.out⟩
        case measure => omega
    · obtain rfl : k = ln := by omega
      have HA1 : Hid (BA wr ba (allC l)) := Lib.hid (by rw [← allK_all (l := l) (k := k) (by rw [HLN.out]; omega)]; exact HA.out)
      have HB1 : Hid (BA wr (ba + 1) (usedC l H)) := Lib.hid (by rw [← ownK_all (l := l) (H := H) (k := k) (by rw [HLN.out]; omega)]; exact HB.out)
      have HKF := Lib.hid HSW.out.k
      have hkz : ¬ (k : Int) < (k : Int) := by omega
      clear HA HB
      obtain ⟨f, hf⟩ : ∃ f, usedC l H = f := ⟨_, rfl⟩
      obtain ⟨g, hg⟩ : ∃ g, allC l = g := ⟨_, rfl⟩
      rw [hf] at HB1 HRG
      rw [hg] at HA1 HRG
      clear hf hg
      go_upto_region 13 with (fail)
      clear y0 y1 y2 yf hkz
      go_upto_region 16 with (fail)
      go_loopg [12, 13, 14] 4 (fun gh v12 v13 v14 wr2 => ∃ i : Nat, gh + i = 4 ∧ v14 = .int .i64 i ∧ v12 = .int .i64 (rcK g i : Nat) ∧ v13 = .int .i64 (rcK f i : Nat) ∧ wr2 = wr)
      case atStart => exact ⟨0, by omega, rfl, rfl, rfl, rfl⟩
      case round =>
        obtain ⟨i, hi, rfl, rfl, rfl, rfl⟩ := hrel
        have hg1 := rcK_le g i
        have hf1 := rcK_le f i
        by_cases hlt : i < 4
        · have ca := (HA1.out i hlt).1
          have cb := (HB1.out i hlt).1
          have HG : Hid (rcK g (i + 1) = rcK g i + (g i).toNat) := Lib.hid rfl
          have HF : Hid (rcK f (i + 1) = rcK f i + (f i).toNat) := Lib.hid rfl
          have hiz : (i : Int) < 4 := by omega
          have hi0 : (0 : Int) ≤ (i : Int) := by omega
          generalize rcK g i = cg at *
          generalize rcK f i = cf at *
          have w1 : IntKind.i64.wrap ((cg : Int) + 1) = ((cg + 1 : Nat) : Int) := by rw [wrapI (by unfold I64; omega)]; omega
          have w2 : IntKind.i64.wrap ((cf : Int) + 1) = ((cf + 1 : Nat) : Int) := by rw [wrapI (by unfold I64; omega)]; omega
          cases hgi : g i with
          | true =>
            rw [hgi] at ca
            have HG1 : Hid (rcK g (i + 1) = cg + 1) := Lib.hid (by rw [HG.out, hgi]; rfl)
            cases hfi : f i with
            | true =>
              rw [hfi] at cb
              have HF1 : Hid (rcK f (i + 1) = cf + 1) := Lib.hid (by rw [HF.out, hfi]; rfl)
              clear hgi hfi
              go_wp2_with fail
              go_roundg (gk - 1)
              case rel => exact ⟨i + 1, by omega, by go_num, by rw [HG1.out]; rfl, by rw [HF1.out]; rfl, rfl⟩
              case measure => omega
            | false =>
              rw [hfi] at cb
              have HF1 : Hid (rcK f (i + 1) = cf) := Lib.hid (by rw [HF.out, hfi]; rfl)
              clear hgi hfi
              go_wp2_with fail
              go_roundg (gk - 1)
              case rel => exact ⟨i + 1, by omega, by go_num, by rw [HG1.out]; rfl, by rw [HF1.out], rfl⟩
              case measure => omega
          | false =>
            rw [hgi] at ca
            have HG1 : Hid (rcK g (i + 1) = cg) := Lib.hid (by rw [HG.out, hgi]; rfl)
            cases hfi : f i with
            | true =>
              rw [hfi] at cb
              have HF1 : Hid (rcK f (i + 1) = cf + 1) := Lib.hid (by rw [HF.out, hfi]; rfl)
              clear hgi hfi
              go_wp2_with fail
              go_roundg (gk - 1)
              case rel => exact ⟨i + 1, by omega, by go_num, by rw [HG1.out], by rw [HF1.out]; rfl, rfl⟩
              case measure => omega
            | false =>
              rw [hfi] at cb
              have HF1 : Hid (rcK f (i + 1) = cf) := Lib.hid (by rw [HF.out, hfi]; rfl)
              clear hgi hfi
              go_wp2_with fail
              go_roundg (gk - 1)
              case rel => exact ⟨i + 1, by omega, by go_num, by rw [HG1.out], by rw [HF1.out], rfl⟩
              case measure => omega
        · obtain rfl : i = 4 := by omega
          rw [rcK_four, rcK_four] at *
          have hrg := HRG.out
          generalize rc f = a at *
          generalize rc g = b at *
          have hmn : min (b : Int) ((m : Int) + 1) = (a : Int) := by omega
          have hw : IntKind.i64.wrap ((m : Int) + 1) = (m : Int) + 1 := wrapI (by unfold I64; omega)
          have haa : ((a : Int) == (a : Int)) = true := by simp
          clear hrg
          go_wp2_with fail
          go_ret
          exact ⟨rfl, HKF.out⟩
end Go.Proofs.YtplkmbfeeegaiaaGreatDoor
