/-
  ReplicateHolders.
-/
import Derived.Test.YtplkmbfeeegaiaaGreatDoorZ5
namespace Go.Proofs.YtplkmbfeeegaiaaGreatDoor
open Go.RowKit Go.Shelf

set_option maxRecDepth 100000 in
set_option maxHeartbeats 8000000 in
theorem repHolders_any (v : Value) (xs : List Int) (key : ByteArray) (n c : Int) (w : World) (h : Its w v xs) (hkey : key.size ≤ maxLen) (hn : I64 n) (hc : I64 c) (hT : Tab w) (hP : Pow w) : Calls Tryz.prog 7 #[v, .string key, .int .i64 n, .int .i64 c] w fun e w' => e = .returned (.bool true) ∧ Keep (fun _ => False) w w' := by
  have HT := Lib.hid hT
  have HP := Lib.hid hP
  have HI := Lib.hid h
  have HN := Lib.hid hn
  have HC := Lib.hid hc
  obtain ⟨va, vn, vc, rfl⟩ : ∃ a n c, v = .slice a n c := by
    obtain ⟨-, -, a, c, b, off, rfl, -⟩ := h
    exact ⟨_, _, _, rfl⟩
  clear hT hP h hn hc
  obtain ⟨l, hl⟩ : ∃ l, someL15 xs = l := ⟨_, rfl⟩
  obtain ⟨ow, how⟩ : ∃ ow, ow15 xs = ow := ⟨_, rfl⟩
  have HOK : Hid (okRing 1 l ow) := Lib.hid (by rw [← hl, ← how]; exact ok15 xs)
  have HV : Hid (VL l) := Lib.hid HOK.out.2.2.1
  have hl8 : l.length ≤ 8 := by rw [← hl]; exact someL15_len xs
  have HSOME : Hid (∀ W, Keep (fun _ => False) w W → Calls Tryz.prog 33 #[.slice va vn vc] W (RingBack 1 l ow W)) := Lib.hid (fun W k => by rw [← hl, ← how]; exact some15_any _ xs W (HI.out.kept k))
  clear hl how
  have hp1 := pk_bd n 3 (by decide)
  unfold maxLen at hkey
  go_enter Tryz.func7, Tryz.ntmps7
  go_wp2_with fail
  with_reducible refine (sane15_any w HT.out).mono ?_
  rintro e W1 ⟨rfl, k1⟩
  have HK1 := Lib.hid k1
  clear k1
  go_wp2_with fail
  have HKS0 : Hid ((key.extract 0 (min (key.size : Int) 100).toNat).size ≤ 1000) := Lib.hid (by rw [ByteArray.size_extract]; omega)
  generalize key.extract 0 (min (key.size : Int) 100).toNat = ky at *
  with_reducible refine (pick15_any n 3 _ HN.out (by decide)).mono ?_
  rintro e w' ⟨rfl, rfl⟩
  generalize pk n 3 = p at *
  obtain ⟨pq, rfl⟩ : ∃ q : Nat, p = q := ⟨p.toNat, by omega⟩
  obtain ⟨m, hm⟩ : ∃ m : Nat, 1 + pq = m := ⟨_, rfl⟩
  have hmi : (1 : Int) + (pq : Int) = (m : Int) := by omega
  have hw1 : IntKind.i64.wrap (1 + (pq : Int)) = (m : Int) := by rw [hmi]; exact wrapI (by unfold I64; omega)
  have hm3 : 1 ≤ m ∧ m ≤ 3 := by omega
  go_wp2_with fail
  with_reducible refine (HSOME.out _ HK1.out).mono ?_
  rintro e W2 hrb
  obtain ⟨mb, mo, cm, ao, co, rfl, hst⟩ := hrb.st HK1.out HV.out (HT.out.kept HK1.out) (HP.out.kept HK1.out)
  have HST := Lib.hid hst
  have hlc := hst.len.2
  obtain ⟨ln, hln⟩ : ∃ n, l.length = n := ⟨_, rfl⟩
  have HLN := Lib.hid hln
  have hln1 : 0 < ln := by rw [← hln]; exact List.length_pos_iff.2 HV.out.ne
  rw [hln] at HST hl8 hlc ⊢
  clear hrb hst HSOME HK1 hw1 hln hkey
  go_upto_region 5 with (fail)
  generalize W2.alloc (.cells #[.int .i64 1, .slice (some ⟨mb, mo, none⟩) ln cm, .slice ao 64 co] 27) = W3 at *
  generalize hzb : W2.heap.size = zb at *
  clear hzb
  obtain ⟨o, H, HHA⟩ : ∃ o H, Hid (HoldAt l ow ky o m H) := ⟨_, _, Lib.hid (hold_at l ow ky m hm3 HOK.out)⟩
  have HOWN : Hid (∀ W, RepSt w zb mb mo ln cm ao co l ow W → Calls Tryz.prog 49 #[ringA (some ⟨mb, mo, none⟩) ln cm ao co, .string ky] W fun e w' => e = .returned (.int .i64 o) ∧ Keep (fun _ => False) W w') := Lib.hid (fun W h => by
    have := owner_any _ 1 l ow W h.r ky (by have := HKS0.out; omega) h.t
    rwa [HHA.out.own] at this)
  have HCOP : Hid (∀ W, RepSt w zb mb mo ln cm ao co l ow W → Calls Tryz.prog 35 #[ringA (some ⟨mb, mo, none⟩) ln cm ao co, .string ky, .int .i64 m] W (HoldPost W (H.drop 1))) := Lib.hid (fun W h => by
    have := copies_any _ 1 l ow ky m W h.r HKS0.out h.t
    rwa [HHA.out.holdV] at this)
  have HHOL : Hid (∀ W, RepSt w zb mb mo ln cm ao co l ow W → ∀ q, Calls Tryz.prog 39 #[ringA (some ⟨mb, mo, none⟩) ln cm ao co, .string ky, .int .i64 m, .int .i64 q] W fun e w' => e = .returned (.bool (hasI H q)) ∧ Keep (fun _ => False) W w') := Lib.hid (fun W h q => by
    have := holds_any _ 1 l ow ky m q W h.r HKS0.out h.t
    rwa [HHA.out.holdV] at this)
  have HHOL0 : Hid (∀ W, RepSt w zb mb mo ln cm ao co l ow W → Calls Tryz.prog 39 #[ringA (some ⟨mb, mo, none⟩) ln cm ao co, .string ky, .int .i64 0, .int .i64 o] W fun e w' => e = .returned (.bool true) ∧ Keep (fun _ => False) W w') := Lib.hid (fun W h => by
    have := holds_any _ 1 l ow ky 0 o W h.r HKS0.out h.t
    rw [HHA.out.holdV0, hasI_true (by simp)] at this
    exact this)
  obtain ⟨ch, hch⟩ : ∃ ch, chooseV H ky c = ch := ⟨_, rfl⟩
  have HCHM : Hid (ch ∈ H) := Lib.hid (by rw [← hch]; exact choose_mem (by obtain ⟨t, e⟩ := HHA.out.at_.hd; rw [e]; simp))
  have HCHO : Hid (∀ W, RepSt w zb mb mo ln cm ao co l ow W → Calls Tryz.prog 37 #[ringA (some ⟨mb, mo, none⟩) ln cm ao co, .string ky, .int .i64 m, .int .i64 c] W fun e w' => e = .returned (.int .i64 ch) ∧ Keep (fun _ => False) W w') := Lib.hid (fun W h => by
    have := choose_any _ 1 l ow ky m c W h.r HKS0.out HC.out h.t h.p
    rwa [HHA.out.holdV, hch] at this)
  have HCHO0 : Hid (∀ W, RepSt w zb mb mo ln cm ao co l ow W → Calls Tryz.prog 37 #[ringA (some ⟨mb, mo, none⟩) ln cm ao co, .string ky, .int .i64 0, .int .i64 c] W fun e w' => e = .returned (.int .i64 o) ∧ Keep (fun _ => False) W w') := Lib.hid (fun W h => by
    have := choose_any _ 1 l ow ky 0 c W h.r HKS0.out HC.out h.t h.p
    rwa [HHA.out.holdV0, choose_one] at this)
  clear hch
  obtain ⟨x0, x1, x2, xf⟩ := HST.out.b
  go_wp2_with fail
  clear x0 x1 x2 xf
  with_reducible refine (HOWN.out W3 HST.out).mono ?_
  rintro e W4 ⟨rfl, k4⟩
  have HST4 := Lib.hid (HST.out.kept k4)
  clear k4 HST HOWN
  have HLIT : Hid ((W4.alloc (.cells #[.int .i64 o] 3)).ownsRow 0 3 1 (.slice (some ⟨W4.heap.size, 0, none⟩) 1 1) 1 ([o].map (fun x => Value.int .i64 x))) := Lib.hid (World.ownsRow_lit (base := 0) (e := 3) (size := 1) W4 #[.int .i64 o] 1 (Nat.zero_le _) (by decide) rfl)
  have HKL : Hid (Keep (fun _ => False) W4 (W4.alloc (.cells #[.int .i64 o] 3))) := Lib.hid ((Keep.refl _ W4).alloc _)
  have HST5 := Lib.hid (HST4.out.kept HKL.out)
  obtain ⟨y0, y1, y2, yf⟩ := HST5.out.b
  go_upto_region 6 with (fail)
  go_wp2_with fail
  generalize W4.alloc (.cells #[.int .i64 o] 3) = W5 at *
  generalize hz4 : W4.heap.size = z4 at *
  with_reducible refine (HCOP.out W5 HST5.out).mono ?_
  rintro e W6 ⟨vcp, rfl, hcp, k6⟩
  have HST6 := Lib.hid (HST5.out.kept k6)
  have HLIT6 := Lib.hid (ownsRow_keep HLIT.out k6 (fun _ _ h => h))
  have HLEH : Hid (H.length ≤ 24) := Lib.hid (by have h1 := HHA.out.at_.len; have := HLN.out; omega)
  have HHB : Hid (∀ x ∈ H, I64 x) := Lib.hid (fun x hx => by have := node_nn HV.out (HHA.out.at_.mem x hx); unfold I64; omega)
  obtain ⟨vl, W7, hr7, hown7, hk7⟩ := app_its0 W6 22 0 (.slice (some ⟨z4, 0, none⟩) 1 1) vcp [o] (H.drop 1) HLIT6.out hcp (by rw [List.length_drop]; have := HLEH.out; simp; omega) (Nat.zero_le _)
  have HEQ : Hid ([o] ++ H.drop 1 = H) := Lib.hid (by obtain ⟨t, e⟩ := HHA.out.at_.hd; rw [e]; rfl)
  rw [HEQ.out] at hown7
  have HIH : Hid (Its W7 vl H) := Lib.hid (its_owns hown7 (by have := HLEH.out; omega) HHB.out)
  have HST7 : Hid (RepSt w zb mb mo ln cm ao co l ow W7) := Lib.hid (by
    have kk : Keep (fun _ => False) W4 W7 := (HKL.out.trans k6).trans' hk7 (fun j e => .inr (by cases e; show W4.heap.size ≤ z4; omega))
    exact HST4.out.kept kk)
  have HR7 := Lib.hid hr7
  clear hr7 hown7 hk7 hcp k6 HLIT HLIT6 HKL HST4 HST5 HST6 hz4 HCOP y0 y1 y2 yf
  go_upto_region 7 with (at_builtin; refine wpList_app rfl (.tmp 35) (.tmp 39) 22 rfl rfl rfl HR7.out ?_)
  clear HR7
  obtain ⟨la, lc, lb, lo, rfl, hlcp, hla, hlcell⟩ : ∃ a c b off, vl = .slice a H.length c ∧ H.length ≤ c ∧ (0 < H.length → a = some ⟨b, off, none⟩) ∧ ∀ j x, H[j]? = some x → W7.cell? ⟨b, off + j, none⟩ = some (.int .i64 x) := HIH.out.at_
  have HLC := Lib.hid hlcell
  have HHN : Hid (H.length = min (m + 1) ln) := Lib.hid (by have := HHA.out.at_.len; rw [HLN.out] at this; exact this)
  obtain ⟨hn, hhn⟩ : ∃ n, H.length = n := ⟨_, rfl⟩
  rw [hhn] at hlcp hla HHN HLEH HIH ⊢
  have HHL := Lib.hid hhn
  have hhn1 : hn = min (m + 1) ln := HHN.out
  have hh0 : 0 < hn := by omega
  obtain rfl := hla hh0
  clear hlcell hhn hla
  have hmin : min ((m : Int) + 1) (ln : Int) = (hn : Int) := by omega
  have hw2 : IntKind.i64.wrap ((m : Int) + 1) = (m : Int) + 1 := wrapI (by unfold I64; omega)
  have hhn24 : hn ≤ 24 := by omega
  clear hhn1
  have hne : ((hn : Int) != (hn : Int)) = false := by simp
  obtain ⟨y0, y1, y2, yf⟩ := HST7.out.b
  go_upto_region 9 with (fail)
  clear y0 y1 y2 yf hmin hw2 hne
  go_upto_region 10 with (fail)
  go_wp2_with fail
  go_loopg [13, 14] ln (fun gh v13 v14 wr => ∃ k : Nat, gh + k = ln ∧ v14 = .int .i64 k ∧ v13 = .int .i64 (cntK l H k : Nat) ∧ Keep (fun _ => False) W7 wr)
  case atStart => exact ⟨0, by omega, rfl, rfl, Keep.refl _ _⟩
  case round =>
    obtain ⟨k, hk, rfl, rfl, hkeep⟩ := hrel
    have HKE := Lib.hid hkeep
    have HSW := Lib.hid (HST7.out.kept hkeep)
    have HCK := Lib.hid (cntK_le l H k)
    clear hkeep
    obtain ⟨y0, y1, y2, yf⟩ := HSW.out.b
    by_cases hlt : k < ln
    · obtain ⟨mm, hmm⟩ : ∃ mm, l[k]? = some mm := ⟨_, List.getElem?_eq_getElem (by rw [HLN.out]; exact hlt)⟩
      have HCS := Lib.hid (cntK_succ H hmm)
      have HMM := Lib.hid (HSW.out.mem hmm)
      have hkz : (k : Int) < (ln : Int) := by omega
      have hk0 : (0 : Int) ≤ (k : Int) := by omega
      clear hmm
      generalize mm.node = q at *
      have hckb : cntK l H k ≤ k := HCK.out
      generalize cntK l H k = ck at *
      go_upto_region 13 with (fail)
      clear y0 y1 y2 yf
      have y0 : ∀ p : KA (fun _ => False) wr, p.val.cell? ⟨zb, 0, none⟩ = some (.int .i64 1) := fun p => p.k.cell HSW.out.b.1 (fun h => h)
      have y1 : ∀ p : KA (fun _ => False) wr, p.val.cell? ⟨zb, 1, none⟩ = some (.slice (some ⟨mb, mo, none⟩) ln cm) := fun p => p.k.cell HSW.out.b.2.1 (fun h => h)
      have y2 : ∀ p : KA (fun _ => False) wr, p.val.cell? ⟨zb, 2, none⟩ = some (.slice ao 64 co) := fun p => p.k.cell HSW.out.b.2.2.1 (fun h => h)
      refine wp_region_walk [(true, 0), (true, 1), (true, 2), (true, 3), (true, 4), (false, 5), (false, 6), (false, 7), (false, 8), (false, 9)] (inKA (fun _ => False) wr) (by kernel_rfl) (by kernel_rfl) ?_
      iterate 5 (refine walkW_read rfl (fun K hK => ?_); go_simp; refine hK _ ?_; clear hK K)
      clear y0 y1 y2
      have HKD : Hid (Keep (fun _ => False) wr wr.drew) := Lib.hid (Keep.refl _ wr).drew
      have cq : wr.drew.cell? ⟨mb, mo + k * 3, none⟩ = some (.int .i64 q) := HKD.out.cell HMM.out.1 (fun h => h)
      have HSD := Lib.hid (HSW.out.kept HKD.out)
      generalize wr.drew = V1 at *
      iterate 4 (refine walkW_do rfl (inKA.of HKD.out) (fun K hK => ?_); go_simp; refine hK _ _ ?_; clear hK K)
      refine walkW_do rfl (inKA.of HKD.out) (fun K hK => ?_)
      go_simp
      refine (HHOL.out V1 HSD.out q).mono ?_
      rintro e V2 ⟨rfl, k2⟩
      have HK2 := Lib.hid (HKD.out.trans k2)
      have HKE2 := Lib.hid (HKE.out.trans HK2.out)
      clear k2 cq
      refine hK _ _ ?_; clear hK K
      refine ⟨inKA.of HK2.out, ?_⟩
      cases hh : hasI H q with
      | true =>
        have hw : IntKind.i64.wrap ((ck : Int) + 1) = ((ck + 1 : Nat) : Int) := by rw [wrapI (by unfold I64; omega)]; omega
        have HC1 : Hid (cntK l H (k + 1) = ck + 1) := Lib.hid (by rw [HCS.out, hh]; rfl)
        clear hh
        go_wp2_with fail
        go_roundg (gk - 1)
        case rel => exact ⟨k + 1, by omega, by go_num, by rw [HC1.out]; rfl, HKE2.out⟩
        case measure => omega
      | false =>
        have HC1 : Hid (cntK l H (k + 1) = ck) := Lib.hid (by rw [HCS.out, hh]; rfl)
        clear hh
        go_wp2_with fail
        go_roundg (gk - 1)
        case rel => exact ⟨k + 1, by omega, by go_num, by rw [HC1.out], HKE2.out⟩
        case measure => omega
    · obtain rfl : k = ln := by omega
      have HCN : Hid (cntK l H k = hn) := Lib.hid (by rw [cntK_all (by rw [HLN.out]; omega), hold_count HHA.out.at_ HV.out.asc, HHL.out])
      rw [HCN.out]
      have hkz : ¬ (k : Int) < (k : Int) := by omega
      go_upto_region 15 with (fail)
      clear y0 y1 y2 yf hkz
      go_upto_region 16 with (fail)
      go_loopg [15] hn (fun gh v15 wr2 => ∃ i : Nat, gh + i = hn ∧ v15 = .int .i64 i ∧ Keep (fun _ => False) W7 wr2)
      case atStart => exact ⟨0, by omega, rfl, HKE.out⟩
      case round =>
        clear HKE HSW HCK
        obtain ⟨i, hi, rfl, hkeep⟩ := hrel
        have HKE := Lib.hid hkeep
        clear hkeep
        by_cases hlt : i < hn
        · obtain ⟨x, hx⟩ : ∃ x, H[i]? = some x := ⟨_, List.getElem?_eq_getElem (by rw [HHL.out]; exact hlt)⟩
          have HX := Lib.hid hx
          have HXH : Hid (x ∈ H) := Lib.hid (List.mem_of_getElem? hx)
          have HXM := Lib.hid (HHA.out.at_.mem x HXH.out)
          have hiz : (i : Int) < (hn : Int) := by omega
          have hi0 : (0 : Int) ≤ (i : Int) := by omega
          clear hx
          go_upto_region 18 with (fail)
          go_upto_region 20 with (fail)
          go_loopg [16, 17] k (fun gh v16 v17 wr3 => ∃ j : Nat, gh + j = k ∧ v17 = .int .i64 j ∧ v16 = .bool (memK l x j) ∧ Keep (fun _ => False) W7 wr3)
          case atStart => exact ⟨0, by omega, rfl, rfl, HKE.out⟩
          case round =>
            clear HKE
            obtain ⟨j, hj, rfl, rfl, hkeep⟩ := hrel
            have HKE := Lib.hid hkeep
            have HSW := Lib.hid (HST7.out.kept hkeep)
            clear hkeep
            obtain ⟨y0, y1, y2, yf⟩ := HSW.out.b
            by_cases hjl : j < k
            · obtain ⟨mm, hmm⟩ : ∃ mm, l[j]? = some mm := ⟨_, List.getElem?_eq_getElem (by rw [HLN.out]; exact hjl)⟩
              have HCS := Lib.hid (memK_succ x hmm)
              have cm := (HSW.out.mem hmm).1
              have cx := HKE.out.cell (HLC.out i x HX.out) (fun h => h)
              have hjz : (j : Int) < (k : Int) := by omega
              have hj0 : (0 : Int) ≤ (j : Int) := by omega
              clear hmm
              generalize mm.node = q at *
              cases hmk : memK l x j with
              | true =>
                have HC1 : Hid (memK l x (j + 1) = true) := Lib.hid (by rw [HCS.out, hmk]; rfl)
                clear hmk
                go_upto_region 22 with (fail)
                go_quiet (fail)
                have HKE2 := Lib.hid (HKE.out.trans ((Keep.refl (fun _ => False) _).drewN nq))
                clear cm cx y0 y1 y2 yf
                go_wp2_with fail
                go_roundg (gk - 1)
                case rel => exact ⟨j + 1, by omega, by go_num, by rw [HC1.out]; try rfl, HKE2.out⟩
                case measure => omega
              | false =>
                obtain ⟨be, hbe⟩ : ∃ b, (q == x) = b := ⟨_, rfl⟩
                have HC1 : Hid (memK l x (j + 1) = be) := Lib.hid (by rw [HCS.out, hmk, ← hbe]; rfl)
                clear hmk
                go_upto_region 22 with (fail)
                go_quiet (fail)
                have HKE2 := Lib.hid (HKE.out.trans ((Keep.refl (fun _ => False) _).drewN nq))
                clear cm cx y0 y1 y2 yf
                go_wp2_with fail
                go_roundg (gk - 1)
                case rel => exact ⟨j + 1, by omega, by go_num, by rw [HC1.out]; try rfl, HKE2.out⟩
                case measure => omega
            · obtain rfl : j = k := by omega
              have hjz : ¬ (j : Int) < (j : Int) := by omega
              have hmk : memK l x j = true := memK_all (by rw [HLN.out]; omega) HXM.out
              rw [hmk]
              clear hmk
              go_upto_region 23 with (fail)
              clear y0 y1 y2 yf hjz
              go_upto_region 24 with (fail)
              go_loopg [18] i (fun gh v18 wr4 => ∃ r : Nat, gh + r = i ∧ v18 = .int .i64 r ∧ Keep (fun _ => False) W7 wr4)
              case atStart => exact ⟨0, by omega, rfl, HKE.out⟩
              case round =>
                clear HKE HSW
                obtain ⟨r, hr, rfl, hkeep⟩ := hrel
                have HKE := Lib.hid hkeep
                clear hkeep
                by_cases hri : r < i
                · obtain ⟨y, hy⟩ : ∃ y, H[r]? = some y := ⟨_, List.getElem?_eq_getElem (by rw [HHL.out]; omega)⟩
                  have HNE : Hid (y ≠ x) := Lib.hid (fun e => by
                    have hnd := HHA.out.at_.nd
                    subst e
                    have h1 := (List.getElem?_eq_some_iff.1 hy)
                    have h2 := (List.getElem?_eq_some_iff.1 HX.out)
                    obtain ⟨h1a, h1b⟩ := h1
                    obtain ⟨h2a, h2b⟩ := h2
                    exact absurd ((List.pairwise_iff_getElem.1 (List.nodup_iff_pairwise_ne.1 hnd)) r i h1a h2a hri) (by rw [h1b, h2b]; simp))
                  have cy := HKE.out.cell (HLC.out r y hy) (fun h => h)
                  have cx := HKE.out.cell (HLC.out i x HX.out) (fun h => h)
                  have hb : (y == x) = false := by simpa using HNE.out
                  have hrz : (r : Int) < (i : Int) := by omega
                  have hr0 : (0 : Int) ≤ (r : Int) := by omega
                  have hrh : (r : Int) < (hn : Int) := by omega
                  clear hy
                  go_upto_region 26 with (fail)
                  go_quiet (fail)
                  have HKE2 := Lib.hid (HKE.out.trans ((Keep.refl (fun _ => False) _).drewN nq))
                  clear cy cx
                  go_wp2_with fail
                  go_roundg (gk - 1)
                  case rel => exact ⟨r + 1, by omega, by go_num, HKE2.out⟩
                  case measure => omega
                · obtain rfl : r = i := by omega
                  have HSW := Lib.hid (HST7.out.kept HKE.out)
                  have hrz : ¬ (r : Int) < (r : Int) := by omega
                  go_upto_region 28 with (fail)
                  clear hrz
                  have y0 : ∀ p : KA (fun _ => False) wr, p.val.cell? ⟨zb, 0, none⟩ = some (.int .i64 1) := fun p => p.k.cell HSW.out.b.1 (fun h => h)
                  have y1 : ∀ p : KA (fun _ => False) wr, p.val.cell? ⟨zb, 1, none⟩ = some (.slice (some ⟨mb, mo, none⟩) j cm) := fun p => p.k.cell HSW.out.b.2.1 (fun h => h)
                  have y2 : ∀ p : KA (fun _ => False) wr, p.val.cell? ⟨zb, 2, none⟩ = some (.slice ao 64 co) := fun p => p.k.cell HSW.out.b.2.2.1 (fun h => h)
                  refine wp_region_walk [(false, 0), (false, 1), (false, 2), (true, 3), (true, 4), (true, 5), (true, 6), (false, 7), (false, 8), (false, 9), (false, 10), (false, 11), (false, 12)] (inKA (fun _ => False) wr) (by kernel_rfl) (by kernel_rfl) ?_
                  have HKD : Hid (Keep (fun _ => False) wr wr.drew) := Lib.hid (Keep.refl _ wr).drew
                  have cx : wr.drew.cell? ⟨lb, lo + r, none⟩ = some (.int .i64 x) := HKD.out.cell (HKE.out.cell (HLC.out r x HX.out) (fun h => h)) (fun h => h)
                  have HSD := Lib.hid (HSW.out.kept HKD.out)
                  generalize wr.drew = V1 at *
                  iterate 3 (refine walkW_do rfl (inKA.of HKD.out) (fun K hK => ?_); go_simp; refine hK _ _ ?_; clear hK K)
                  iterate 4 (refine walkW_read rfl (fun K hK => ?_); go_simp; refine hK _ ?_; clear hK K)
                  clear y0 y1 y2
                  iterate 3 (refine walkW_do rfl (inKA.of HKD.out) (fun K hK => ?_); go_simp; refine hK _ _ ?_; clear hK K)
                  refine walkW_do rfl (inKA.of HKD.out) (fun K hK => ?_)
                  go_simp
                  have hhx := HHOL.out V1 HSD.out x
                  rw [hasI_true HXH.out] at hhx
                  refine hhx.mono ?_
                  clear hhx
                  rintro e V2 ⟨rfl, k2⟩
                  have HK2 := Lib.hid (HKD.out.trans k2)
                  have HKE2 := Lib.hid (HKE.out.trans HK2.out)
                  clear k2 cx
                  refine hK _ _ ?_; clear hK K
                  iterate 2 (refine walkW_do rfl (inKA.of HK2.out) (fun K hK => ?_); go_simp; refine hK _ _ ?_; clear hK K)
                  refine ⟨inKA.of HK2.out, ?_⟩
                  go_wp2_with fail
                  go_roundg (hn - (r + 1))
                  case rel => exact ⟨r + 1, by omega, by go_num, HKE2.out⟩
                  case measure => omega
        · obtain rfl : i = hn := by omega
          have HSW := Lib.hid (HST7.out.kept HKE.out)
          have hiz : ¬ (i : Int) < (i : Int) := by omega
          go_upto_region 30 with (fail)
          clear hiz
          obtain ⟨y0, y1, y2, yf⟩ := HSW.out.b
          go_wp2_with fail
          clear y0 y1 y2 yf
          with_reducible refine (HCHO.out _ HSW.out).mono ?_
          rintro e V1 ⟨rfl, k1⟩
          have HS1 := Lib.hid (HSW.out.kept k1)
          have hcc : ((i : Int) == (i : Int)) = true := by simp
          clear k1
          obtain ⟨y0, y1, y2, yf⟩ := HS1.out.b
          go_wp2_with fail
          clear y0 y1 y2 yf
          have hhx := HHOL.out V1 HS1.out ch
          rw [hasI_true HCHM.out] at hhx
          with_reducible refine hhx.mono ?_
          clear hhx
          rintro e V2 ⟨rfl, k2⟩
          have HS2 := Lib.hid (HS1.out.kept k2)
          clear k2
          obtain ⟨y0, y1, y2, yf⟩ := HS2.out.b
          go_wp2_with fail
          clear y0 y1 y2 yf
          have hhx := HHOL.out V2 HS2.out (-1)
          rw [hasI_false (fun h => by have := node_nn HV.out (HHA.out.at_.mem _ h); omega)] at hhx
          with_reducible refine hhx.mono ?_
          clear hhx
          rintro e V3 ⟨rfl, k3⟩
          have HS3 := Lib.hid (HS2.out.kept k3)
          clear k3
          obtain ⟨y0, y1, y2, yf⟩ := HS3.out.b
          go_wp2_with fail
          clear y0 y1 y2 yf
          with_reducible refine (HHOL0.out V3 HS3.out).mono ?_
          rintro e V4 ⟨rfl, k4⟩
          have HS4 := Lib.hid (HS3.out.kept k4)
          clear k4
          obtain ⟨y0, y1, y2, yf⟩ := HS4.out.b
          go_wp2_with fail
          clear y0 y1 y2 yf
          with_reducible refine (HCHO0.out V4 HS4.out).mono ?_
          rintro e V5 ⟨rfl, k5⟩
          have HK5 := Lib.hid (HS4.out.k.trans k5)
          have hoo : (o == o) = true := by simp
          clear k5
          go_wp2_with fail
          go_ret
          exact ⟨rfl, HK5.out⟩
end Go.Proofs.YtplkmbfeeegaiaaGreatDoor
