/-
  ReplicateSpread.
-/
import Derived.Test.YtplkmbfeeegaiaaGreatDoorZ5
import Derived.Test.YtplkmbfeeegaiaaGreatDoorZ6
namespace Go.Proofs.YtplkmbfeeegaiaaGreatDoor
open Go.RowKit Go.Shelf

theorem holdV_hd {ep : Int} {l : List Mb} {ow : List Int} (h : okRing ep l ow) (key : ByteArray) (n : Int) : ∃ t, holdV ep l ow key n = ownerOf ow key :: t := by
  unfold holdV
  rw [if_pos ((validRB_iff ep l ow).2 h)]
  split
  · exact ⟨[], rfl⟩
  · exact (holdC_ok (rk := rkOf key) h.2.2.1.asc (owner_mem h key) n.toNat).hd
theorem holdV_mem {ep : Int} {l : List Mb} {ow : List Int} (h : okRing ep l ow) (key : ByteArray) (n : Int) : ∀ x ∈ holdV ep l ow key n, x ∈ l.map Mb.node := by
  unfold holdV
  rw [if_pos ((validRB_iff ep l ow).2 h)]
  split
  · intro x hx; rw [List.mem_singleton] at hx; rw [hx]; exact owner_mem h key
  · exact (holdC_ok (rk := rkOf key) h.2.2.1.asc (owner_mem h key) n.toNat).mem
/-- What the free operations leave. -/
def sprS (lo : Nat) (o : Int) (H : List Int) (t : Nat) (v : Value) (w : World) : Prop :=
  (t = 31 → v = .int .i64 o) ∧ (t = 32 → ∃ z, v = .slice (some ⟨z, 0, none⟩) 1 1 ∧ w.ownsRow lo 3 1 (.slice (some ⟨z, 0, none⟩) 1 1) 1 ([o].map (fun x => Value.int .i64 x))) ∧ (t = 36 → Its w v (H.drop 1))
theorem sprS_keep {lo : Nat} {o : Int} {H : List Int} : ∀ t v w w', sprS lo o H t v w → Keep (fun _ => False) w w' → sprS lo o H t v w' := fun t v w w' h k =>
  ⟨h.1, fun e => by obtain ⟨z, h1, h2⟩ := h.2.1 e; exact ⟨z, h1, ownsRow_keep h2 k (fun _ _ h => h)⟩, fun e => (h.2.2 e).kept k⟩
theorem sprS_31 {lo : Nat} {o : Int} {H : List Int} {w : World} : sprS lo o H 31 (.int .i64 o) w := ⟨fun _ => rfl, fun e => absurd e (by decide), fun e => absurd e (by decide)⟩
theorem sprS_32 {lo : Nat} {o : Int} {H : List Int} {v : Value} {w : World} (h : ∃ z, v = .slice (some ⟨z, 0, none⟩) 1 1 ∧ w.ownsRow lo 3 1 (.slice (some ⟨z, 0, none⟩) 1 1) 1 ([o].map (fun x => Value.int .i64 x))) : sprS lo o H 32 v w := ⟨fun e => absurd e (by decide), fun _ => h, fun e => absurd e (by decide)⟩
theorem sprS_36 {lo : Nat} {o : Int} {H : List Int} {v : Value} {w : World} (h : Its w v (H.drop 1)) : sprS lo o H 36 v w := ⟨fun e => absurd e (by decide), fun e => absurd e (by decide), fun _ => h⟩
/-- Is a among the first j? -/
def amK (H : List Int) (a : Int) (j : Nat) : Bool := (H.take j).any (fun y => y == a)
theorem amK_succ {H : List Int} (a : Int) {j : Nat} {y : Int} (h : H[j]? = some y) : amK H a (j + 1) = (amK H a j || (y == a)) := by
  unfold amK
  rw [List.take_add_one, h, Option.toList_some, List.any_append]
  simp
theorem amK_all {H : List Int} {a : Int} {j : Nat} (h : H.length ≤ j) (ha : a ∈ H) : amK H a j = true := by
  unfold amK
  rw [List.take_of_length_le h, List.any_eq_true]
  exact ⟨a, ha, by simp⟩

set_option maxRecDepth 100000 in
set_option maxHeartbeats 8000000 in
theorem repSpread_any (v : Value) (xs : List Int) (key : ByteArray) (n c1 c2 : Int) (rv : Value) (rep : Int) (rl : List Mb) (row : List Int) (w : World) (h : Its w v xs) (hkey : key.size ≤ maxLen) (_hn : I64 n) (h1 : I64 c1) (h2 : I64 c2) (hr : Rng w rv rep rl row) (hT : Tab w) (hP : Pow w) : Calls Tryz.prog 11 #[v, .string key, .int .i64 n, .int .i64 c1, .int .i64 c2, rv] w fun e w' => e = .returned (.bool true) ∧ Keep (fun _ => False) w w' := by
  have HC1 := Lib.hid h1
  have HC2 := Lib.hid h2
  obtain ⟨va, vn, vc, rfl⟩ : ∃ a n c, v = .slice a n c := by
    obtain ⟨-, -, a, c, b, off, rfl, -⟩ := h
    exact ⟨_, _, _, rfl⟩
  -- the raw ring
  obtain ⟨hrb, vm, vo, rfl, hm0, ho0⟩ := hr
  obtain ⟨ma, mn, mc, rfl⟩ : ∃ a n c, vm = .slice a n c := by obtain ⟨a, c, b, off, h, _⟩ := hm0.at_; exact ⟨_, _, _, h⟩
  obtain ⟨oa, on, oc, rfl⟩ : ∃ a n c, vo = .slice a n c := by obtain ⟨a, c, b, off, h, _⟩ := ho0.at_; exact ⟨_, _, _, h⟩
  obtain ⟨q0, hq0⟩ : ∃ q : Nat, min (mn : Int) 26 = q := ⟨min mn 26, by omega⟩
  obtain ⟨q1, hq1⟩ : ∃ q : Nat, min (on : Int) 70 = q := ⟨min on 70, by omega⟩
  obtain ⟨hcm, hlm, hcapm⟩ := hm0.cut (show q0 ≤ mn by omega)
  obtain ⟨hco, hlo, hcapo⟩ := ho0.cut (show q1 ≤ on by omega)
  have hz0 : q0 ≤ mn := by omega
  have hz1 : q1 ≤ on := by omega
  generalize rl.take q0 = rl0 at *
  generalize row.take q1 = row0 at *
  have HRAW : Hid (∀ W, Keep (fun _ => False) w W → Rng W (.agg #[.int .i64 rep, .slice ma q0 mc, .slice oa q1 oc]) rep rl0 row0) := Lib.hid (fun W k => ⟨hrb, _, _, rfl, hcm.kept k, hco.kept k⟩)
  have HX := Lib.hid (Box3.new w (.int .i64 rep) (.slice ma mn mc) (.slice oa on oc) 27)
  have HK0 : Hid (Keep (fun _ => False) w (w.alloc (.cells #[.int .i64 rep, .slice ma mn mc, .slice oa on oc] 27))) := Lib.hid ((Keep.refl _ w).alloc _)
  have HTW := Lib.hid hT
  have HPW := Lib.hid hP
  have HT := Lib.hid (hT.kept HK0.out)
  have HP := Lib.hid (hP.kept HK0.out)
  have HI := Lib.hid (h.kept HK0.out)
  obtain ⟨l, hl⟩ : ∃ l, someL15 xs = l := ⟨_, rfl⟩
  obtain ⟨ow, how⟩ : ∃ ow, ow15 xs = ow := ⟨_, rfl⟩
  have HOK : Hid (okRing 1 l ow) := Lib.hid (by rw [← hl, ← how]; exact ok15 xs)
  have HV : Hid (VL l) := Lib.hid HOK.out.2.2.1
  have hl8 : l.length ≤ 8 := by rw [← hl]; exact someL15_len xs
  have HSOME : Hid (∀ W, Its W (.slice va vn vc) xs → Calls Tryz.prog 33 #[.slice va vn vc] W (RingBack 1 l ow W)) := Lib.hid (fun W k => by rw [← hl, ← how]; exact some15_any _ xs W k)
  clear hl how hT hP h h1 h2 hm0 ho0 hcm hco hlm hlo hrb
  unfold maxLen at hkey
  go_enter Tryz.func11, Tryz.ntmps11
  go_upto_region 1 with (fail)
  generalize w.alloc (.cells #[.int .i64 rep, .slice ma mn mc, .slice oa on oc] 27) = W0 at *
  generalize hzr : w.heap.size = zr at *
  have HZR := Lib.hid hzr
  clear hzr
  go_wp2_with fail
  with_reducible refine (sane15_any W0 HT.out).mono ?_
  rintro e W1 ⟨rfl, k1⟩
  have HK1 := Lib.hid k1
  clear k1
  go_upto_region 3 with (fail)
  have HKS0 : Hid ((key.extract 0 (min (key.size : Int) 100).toNat).size ≤ 1000) := Lib.hid (by rw [ByteArray.size_extract]; omega)
  generalize key.extract 0 (min (key.size : Int) 100).toNat = ky at *
  go_wp2_with fail
  with_reducible refine (HSOME.out _ (HI.out.kept HK1.out)).mono ?_
  rintro e W2 hrb
  obtain ⟨mb, mo, cm, ao, co, rfl, hst⟩ := hrb.st HK1.out HV.out (HT.out.kept HK1.out) (HP.out.kept HK1.out)
  have HST := Lib.hid hst
  have hlc := hst.len.2
  obtain ⟨ln, hln⟩ : ∃ n, l.length = n := ⟨_, rfl⟩
  have HLN := Lib.hid hln
  rw [hln] at HST hl8 hlc ⊢
  clear hrb hst HSOME HK1 hln hkey
  go_upto_region 4 with (fail)
  generalize W2.alloc (.cells #[.int .i64 1, .slice (some ⟨mb, mo, none⟩) ln cm, .slice ao 64 co] 27) = W3 at *
  generalize hzb : W2.heap.size = zb at *
  clear hzb
  obtain ⟨o, ho⟩ : ∃ o, ownerOf ow ky = o := ⟨_, rfl⟩
  obtain ⟨H, hH⟩ : ∃ H, holdV 1 l ow ky n = H := ⟨_, rfl⟩
  have HHD : Hid (∃ t, H = o :: t) := Lib.hid (by rw [← hH, ← ho]; exact holdV_hd HOK.out ky n)
  have HHM : Hid (∀ x ∈ H, x ∈ l.map Mb.node) := Lib.hid (by rw [← hH]; exact holdV_mem HOK.out ky n)
  have HLEH : Hid (H.length ≤ 24) := Lib.hid (by rw [← hH]; exact holdV_len 1 l ow ky n)
  have HOWN : Hid (∀ W, RepSt W0 zb mb mo ln cm ao co l ow W → Calls Tryz.prog 49 #[ringA (some ⟨mb, mo, none⟩) ln cm ao co, .string ky] W fun e w' => e = .returned (.int .i64 o) ∧ Keep (fun _ => False) W w') := Lib.hid (fun W h => by
    have := owner_any _ 1 l ow W h.r ky (by have := HKS0.out; omega) h.t
    rwa [ho] at this)
  have HCOP : Hid (∀ W, RepSt W0 zb mb mo ln cm ao co l ow W → Calls Tryz.prog 35 #[ringA (some ⟨mb, mo, none⟩) ln cm ao co, .string ky, .int .i64 n] W (HoldPost W (H.drop 1))) := Lib.hid (fun W h => by
    have := copies_any _ 1 l ow ky n W h.r HKS0.out h.t
    rwa [hH] at this)
  have HCHO : Hid (∀ c, I64 c → ∃ a ∈ H, ∀ W, RepSt W0 zb mb mo ln cm ao co l ow W → Calls Tryz.prog 37 #[ringA (some ⟨mb, mo, none⟩) ln cm ao co, .string ky, .int .i64 n, .int .i64 c] W fun e w' => e = .returned (.int .i64 a) ∧ Keep (fun _ => False) W w') := Lib.hid (fun c hc => ⟨chooseV H ky c, choose_mem (by obtain ⟨t, e⟩ := HHD.out; rw [e]; simp), fun W h => by
    have := choose_any _ 1 l ow ky n c W h.r HKS0.out hc h.t h.p
    rwa [hH] at this⟩)
  clear ho hH
  have y0 : ∀ p : KA (fun _ => False) W3, p.val.cell? ⟨zb, 0, none⟩ = some (.int .i64 1) := fun p => p.k.cell HST.out.b.1 (fun h => h)
  have y1 : ∀ p : KA (fun _ => False) W3, p.val.cell? ⟨zb, 1, none⟩ = some (.slice (some ⟨mb, mo, none⟩) ln cm) := fun p => p.k.cell HST.out.b.2.1 (fun h => h)
  have y2 : ∀ p : KA (fun _ => False) W3, p.val.cell? ⟨zb, 2, none⟩ = some (.slice ao 64 co) := fun p => p.k.cell HST.out.b.2.2.1 (fun h => h)
  refine wp_region_free [0, 1, 4, 5, 6] [⟨2, 31, []⟩, ⟨3, 32, [31]⟩, ⟨7, 36, [31]⟩] [(false, 8), (false, 9)] (inKA (fun _ => False) W3) (sprS W3.heap.size o H) (Keep (fun _ => False)) (by kernel_rfl) (by kernel_rfl) (inKA.of (Keep.refl _ W3).drew) sprS_keep (fun w w' hw hk => by obtain ⟨p, rfl⟩ := hw; exact inKA.of (p.k.trans hk)) ?_
  iterate 5 (refine headW_step rfl (fun K hK => ?_); go_simp; refine hK _ ?_; clear hK K)
  clear y0 y1 y2
  refine ⟨?_, ?_, ?_⟩
  · intro h hh
    simp only [List.mem_cons, List.not_mem_nil, or_false] at hh
    rcases hh with rfl | rfl | rfl <;> simp
  · refine freeW_step rfl (fun vs W hC hS K hK => ?_) (freeW_step rfl (fun vs W hC hS K hK => ?_) (freeW_step rfl (fun vs W hC hS K hK => ?_) trivial))
    · obtain ⟨p, rfl⟩ := hC
      simp only [putL, List.foldl]
      have HSP := Lib.hid (HST.out.kept p.k)
      go_simp
      refine (HOWN.out _ HSP.out).mono ?_
      rintro e W2' ⟨rfl, kk⟩
      exact hK _ _ sprS_31 kk
    · obtain ⟨p, rfl⟩ := hC
      have e1 := (hS 31 (by simp)).1 rfl
      simp only [putL, List.foldl]
      generalize vs 31 = v31 at *
      subst e1
      go_simp
      exact hK _ _ (sprS_32 ⟨p.val.heap.size, rfl, World.ownsRow_lit (base := W3.heap.size) (e := 3) (size := 1) p.val #[.int .i64 o] 1 p.k.size (by decide) rfl⟩) ((Keep.refl _ p.val).alloc _)
    · obtain ⟨p, rfl⟩ := hC
      simp only [putL, List.foldl]
      have HSP := Lib.hid (HST.out.kept p.k)
      go_simp
      refine (HCOP.out _ HSP.out).mono ?_
      rintro e W2' ⟨vcp, rfl, hit, kk⟩
      exact hK _ _ (sprS_36 hit) kk
  · intro vs W hC hS
    obtain ⟨p, rfl⟩ := hC
    have e1 := (hS ⟨2, 31, []⟩ (by simp)).1 rfl
    obtain ⟨z4, e2, hown⟩ := (hS ⟨3, 32, [31]⟩ (by simp)).2.1 rfl
    have hit := (hS ⟨7, 36, [31]⟩ (by simp)).2.2 rfl
    simp only [] at e1 e2 hit
    simp only [List.map, putL, List.foldl]
    generalize vs 31 = v31 at *
    generalize vs 32 = v32 at *
    generalize vs 36 = v36 at *
    subst e1 e2
    have HSP := Lib.hid (HST.out.kept p.k)
    obtain ⟨vl, W7, hr7, hown7, hk7⟩ := app_its0 p.val 22 W3.heap.size (.slice (some ⟨z4, 0, none⟩) 1 1) v36 [o] (H.drop 1) hown hit (by rw [List.length_drop]; have := HLEH.out; simp; omega) p.k.size
    have HK37 : Hid (Keep (fun _ => False) W3 W7) := Lib.hid (p.k.trans' hk7 (fun j e => .inr (hown.lt j e).1))
    have HEQ : Hid ([o] ++ H.drop 1 = H) := Lib.hid (by obtain ⟨t, e⟩ := HHD.out; rw [e]; rfl)
    rw [HEQ.out] at hown7
    have HIH : Hid (Its W7 vl H) := Lib.hid (its_owns hown7 (by have := HLEH.out; omega) (fun x hx => by have := node_nn HV.out (HHM.out x hx); unfold I64; omega))
    have HS7 := Lib.hid (HST.out.kept HK37.out)
    have HR7 := Lib.hid hr7
    have HKP := Lib.hid p.k
    clear hr7 hown7 hk7 hown hit hS HSP
    refine walkW_do rfl (inKA.of HKP.out) (fun K hK => ?_)
    rw [if_pos (by first | rfl | simp [Region.wanted, yielded])]
    refine wp_app (.tmp 32) (.tmp 36) 22 rfl rfl rfl HR7.out (hK _ _ ?_); clear hK K
    refine walkW_do rfl (inKA.of HK37.out) (fun K hK => ?_)
    go_simp
    refine hK _ _ ?_; clear hK K
    refine ⟨inKA.of HK37.out, ?_⟩
    clear HR7 HKP HCOP HOWN
    generalize p.val = P7 at *
    obtain ⟨la, lc, lb, lo, rfl, hlcp, hla, hlcell⟩ : ∃ a c b off, vl = .slice a H.length c ∧ H.length ≤ c ∧ (0 < H.length → a = some ⟨b, off, none⟩) ∧ ∀ j x, H[j]? = some x → W7.cell? ⟨b, off + j, none⟩ = some (.int .i64 x) := HIH.out.at_
    have HLC := Lib.hid hlcell
    obtain ⟨hn', hhn⟩ : ∃ n, H.length = n := ⟨_, rfl⟩
    rw [hhn] at hlcp hla HLEH HIH ⊢
    have HHL := Lib.hid hhn
    have hn24 := HLEH.out
    have hh0 : 0 < hn' := by rw [← hhn]; obtain ⟨t, e⟩ := HHD.out; rw [e]; simp
    obtain rfl := hla hh0
    clear hlcell hhn hla
    have HL2 := Lib.hid (two_cell W7 (.int .i64 c1) (.int .i64 c2) 3)
    have HK8 : Hid (Keep (fun _ => False) W7 (W7.alloc (.cells #[.int .i64 c1, .int .i64 c2] 3))) := Lib.hid ((Keep.refl _ W7).alloc _)
    go_upto_region 5 with (fail)
    go_wp2_with fail
    generalize W7.alloc (.cells #[.int .i64 c1, .int .i64 c2] 3) = W8 at *
    generalize W7.heap.size = z8 at *
    have HS8 := Lib.hid (HS7.out.kept HK8.out)
    go_loopg [42] 2 (fun gh v42 wr => ∃ i : Nat, gh + i = 2 ∧ v42 = .int .i64 i ∧ Keep (fun _ => False) W8 wr)
    case atStart => exact ⟨0, by omega, rfl, Keep.refl _ _⟩
    case round =>
      obtain ⟨i, hi, rfl, hkeep⟩ := hrel
      have HKE := Lib.hid hkeep
      clear hkeep
      have HSW := Lib.hid (HS8.out.kept HKE.out)
      by_cases hlt : i < 2
      · obtain ⟨c, hcc, hci⟩ : ∃ c, wr.cell? ⟨z8, i, none⟩ = some (.int .i64 c) ∧ I64 c := by
          rcases i with _ | _ | i
          · exact ⟨c1, HKE.out.cell HL2.out.1 (fun h => h), HC1.out⟩
          · exact ⟨c2, HKE.out.cell HL2.out.2.1 (fun h => h), HC2.out⟩
          · omega
        obtain ⟨a, ha, hcho⟩ := HCHO.out c hci
        have HAM := Lib.hid ha
        have HCH := Lib.hid hcho
        clear ha hcho hci
        have hiz : (i : Int) < 2 := by omega
        have hi0 : (0 : Int) ≤ (i : Int) := by omega
        obtain ⟨y0, y1, y2, yf⟩ := HSW.out.b
        go_wp2_with fail
        clear y0 y1 y2 yf hcc
        with_reducible refine (HCH.out _ HSW.out).mono ?_
        rintro e W9 ⟨rfl, k9⟩
        have HKE9 := Lib.hid (HKE.out.trans k9)
        clear k9 HKE HSW
        go_upto_region 11 with (fail)
        go_loopg [19, 20] hn' (fun gh v19 v20 wr2 => ∃ j : Nat, gh + j = hn' ∧ v20 = .int .i64 j ∧ v19 = .bool (amK H a j) ∧ wr2 = W9)
        case atStart => exact ⟨0, by omega, rfl, rfl, rfl⟩
        case round =>
          obtain ⟨j, hj, rfl, rfl, rfl⟩ := hrel
          by_cases hjl : j < hn'
          · obtain ⟨y, hy⟩ : ∃ y, H[j]? = some y := ⟨_, List.getElem?_eq_getElem (by rw [HHL.out]; exact hjl)⟩
            have HCS := Lib.hid (amK_succ a hy)
            have cy := HKE9.out.cell (HK8.out.cell (HLC.out j y hy) (fun h => h)) (fun h => h)
            have hjz : (j : Int) < (hn' : Int) := by omega
            have hj0 : (0 : Int) ≤ (j : Int) := by omega
            clear hy
            cases hmk : amK H a j with
            | true =>
              have HC9 : Hid (amK H a (j + 1) = true) := Lib.hid (by rw [HCS.out, hmk]; rfl)
              clear hmk
              go_wp2_with fail
              clear cy
              go_roundg (gk - 1)
              case rel => exact ⟨j + 1, by omega, by go_num, by rw [HC9.out]; try rfl, rfl⟩
              case measure => omega
            | false =>
              obtain ⟨be, hbe⟩ : ∃ b, (y == a) = b := ⟨_, rfl⟩
              have HC9 : Hid (amK H a (j + 1) = be) := Lib.hid (by rw [HCS.out, hmk, ← hbe]; rfl)
              clear hmk
              go_wp2_with fail
              clear cy
              go_roundg (gk - 1)
              case rel => exact ⟨j + 1, by omega, by go_num, by rw [HC9.out]; try rfl, rfl⟩
              case measure => omega
          · obtain rfl : j = hn' := by omega
            have hjz : ¬ (j : Int) < (j : Int) := by omega
            have hmk : amK H a j = true := amK_all (by rw [HHL.out]; omega) HAM.out
            rw [hmk]
            clear hmk
            have HS9 := Lib.hid (HS8.out.kept HKE9.out)
            have haa : (a != a) = false := by simp
            obtain ⟨y0, y1, y2, yf⟩ := HS9.out.b
            go_wp2_with fail
            clear y0 y1 y2 yf
            with_reducible refine (HCH.out _ HS9.out).mono ?_
            rintro e WA ⟨rfl, kA⟩
            have HKEA := Lib.hid (HKE9.out.trans kA)
            clear kA
            go_wp2_with fail
            go_roundg (2 - (i + 1))
            case rel => exact ⟨i + 1, by omega, by go_num, HKEA.out⟩
            case measure => omega
      · obtain rfl : i = 2 := by omega
        have HXR := Lib.hid (HX.out.kept HSW.out.k)
        have HX1 := Lib.hid (HXR.out.set1 (.slice ma q0 mc))
        have HX2 := Lib.hid (HX1.out.set2 (.slice oa q1 oc))
        have HKZ : Hid (Keep (fun _ => False) w ((wr.setCell ⟨zr, 1, none⟩ (.slice ma q0 mc)).setCell ⟨zr, 2, none⟩ (.slice oa q1 oc))) := Lib.hid ((HK0.out.trans HSW.out.k).trans' (((Keep.refl (fun j => j = zr) wr).setCell (p := ⟨zr, 1, none⟩) _ (.inl rfl)).setCell (p := ⟨zr, 2, none⟩) _ (.inl rfl)) (fun j e => .inr (by have h5 : j = zr := e; have := HZR.out; omega)))
        obtain ⟨x0, x1, x2, xf⟩ := HXR.out
        go_upto_region 18 with (fail)
        clear x0 x1 x2 xf
        obtain ⟨x0, x1, x2, xf⟩ := HX1.out
        go_upto_region 19 with (fail)
        clear x0 x1 x2 xf
        generalize (wr.setCell ⟨zr, 1, none⟩ (.slice ma q0 mc)).setCell ⟨zr, 2, none⟩ (.slice oa q1 oc) = V2 at *
        have HT2 := Lib.hid (HTW.out.kept HKZ.out)
        have HP2 := Lib.hid (HPW.out.kept HKZ.out)
        have HR2 := Lib.hid (HRAW.out V2 HKZ.out)
        obtain ⟨x0, x1, x2, xf⟩ := HX2.out
        go_wp2_with fail
        clear x0 x1 x2 xf
        with_reducible refine (validRing_any _ rep rl0 row0 V2 HR2.out).mono ?_
        rintro e V3 ⟨rfl, k3⟩
        cases hvr : validRB rep rl0 row0 with
        | true =>
          have HKF := Lib.hid (HKZ.out.trans k3)
          clear k3
          go_wp2_with fail
          go_ret
          exact ⟨rfl, HKF.out⟩
        | false =>
          have HNV : Hid (∀ k, holdV rep rl0 row0 ky k = []) := Lib.hid (fun k => by unfold holdV; rw [if_neg (by rw [hvr]; decide)])
          have HK3 := Lib.hid (HKZ.out.trans k3)
          have HR3 := Lib.hid (HR2.out.kept k3)
          have HT3 := Lib.hid (HT2.out.kept k3)
          have HP3 := Lib.hid (HP2.out.kept k3)
          have HX3 := Lib.hid (HX2.out.kept k3)
          clear k3 hvr
          obtain ⟨x0, x1, x2, xf⟩ := HX3.out
          go_wp2_with fail
          clear x0 x1 x2 xf
          have hc := copies_any _ rep rl0 row0 ky n V3 HR3.out HKS0.out HT3.out
          rw [HNV.out n] at hc
          with_reducible refine hc.mono ?_
          clear hc
          rintro e V4 ⟨vc4, rfl, ⟨hn4, -, a4, cc4, b4, off4, rfl, hcc4, ha4, hcell4⟩, k4⟩
          have HK4 := Lib.hid (HK3.out.trans k4)
          have HR4 := Lib.hid (HR3.out.kept k4)
          have HT4 := Lib.hid (HT3.out.kept k4)
          have HP4 := Lib.hid (HP3.out.kept k4)
          have HX4 := Lib.hid (HX3.out.kept k4)
          clear k4 hn4 hcc4 ha4 hcell4
          obtain ⟨x0, x1, x2, xf⟩ := HX4.out
          go_wp2_with fail
          clear x0 x1 x2 xf
          have hc := choose_any _ rep rl0 row0 ky n c1 V4 HR4.out HKS0.out HC1.out HT4.out HP4.out
          rw [HNV.out n, choose0] at hc
          with_reducible refine hc.mono ?_
          clear hc
          rintro e V5 ⟨rfl, k5⟩
          have HK5 := Lib.hid (HK4.out.trans k5)
          have HR5 := Lib.hid (HR4.out.kept k5)
          have HT5 := Lib.hid (HT4.out.kept k5)
          have HX5 := Lib.hid (HX4.out.kept k5)
          clear k5
          obtain ⟨x0, x1, x2, xf⟩ := HX5.out
          go_wp2_with fail
          clear x0 x1 x2 xf
          have hc := holds_any _ rep rl0 row0 ky n c2 V5 HR5.out HKS0.out HT5.out
          rw [HNV.out n, hasI_false (by simp)] at hc
          with_reducible refine hc.mono ?_
          clear hc
          rintro e V6 ⟨rfl, k6⟩
          have HK6 := Lib.hid (HK5.out.trans k6)
          clear k6
          go_wp2_with fail
          go_ret
          exact ⟨rfl, HK6.out⟩
end Go.Proofs.YtplkmbfeeegaiaaGreatDoor
