/-
  ReplicateStable.
-/
import Derived.Test.YtplkmbfeeegaiaaGreatDoorZ5
import Derived.Test.YtplkmbfeeegaiaaGreatDoorZ6
namespace Go.Proofs.YtplkmbfeeegaiaaGreatDoor
open Go.RowKit Go.Shelf

theorem Mbs.rest {W : World} {b off n c : Nat} {xs : List Mb} (h : Mbs W (.slice (some ⟨b, off, none⟩) n c) xs) {q : Nat} (hq : q ≤ n) : Mbs W (.slice (if c = q then some ⟨b, off, none⟩ else some ⟨b, off + q * 3, none⟩) (n - q) (c - q)) (xs.drop q) := by
  obtain ⟨hn, hbd, a', c', b', off', e, hc, ha, hcell⟩ := h
  injection e with e1 e2 e3
  subst e1 e2 e3
  have hl : (xs.drop q).length = xs.length - q := by rw [List.length_drop]
  split
  · rename_i e
    have : xs.drop q = [] := List.drop_of_length_le (by omega)
    rw [this, show xs.length - q = 0 by omega, show c - q = 0 by omega]
    exact ⟨by simp, by simp, some ⟨b, off, none⟩, 0, 0, 0, rfl, by simp, fun h => by simp at h, fun j x hj => by simp at hj⟩
  · refine ⟨by rw [hl]; omega, fun x hx => hbd x (List.mem_of_mem_drop hx), _, c - q, b, off + q * 3, by rw [hl], by rw [hl]; omega, fun _ => rfl, fun j x hj => ?_⟩
    rw [List.getElem?_drop] at hj
    have hpos : 0 < xs.length := by have := (List.getElem?_eq_some_iff.1 hj).1; omega
    have h5 := ha hpos
    injection h5 with h5
    injection h5 with h6 h7
    subst h6 h7
    have := hcell _ _ hj
    rwa [show off + (q + j) * 3 = off + q * 3 + j * 3 by omega] at this
theorem RepSt.mbs {w W : World} {zb mb mo ln cm co : Nat} {ao : Option Addr} {l : List Mb} {ow : List Int} (h : RepSt w zb mb mo ln cm ao co l ow W) : Mbs W (.slice (some ⟨mb, mo, none⟩) ln cm) l := by
  obtain ⟨-, vm, vo, e, hm, -⟩ := h.r
  cases e
  exact hm

/-- A list without its k-th member. -/
def lessL (l : List Mb) (k : Nat) : List Mb := l.take k ++ l.drop (k + 1)
theorem less_split {l : List Mb} {k : Nat} {x : Mb} (h : l[k]? = some x) : l = l.take k ++ x :: l.drop (k + 1) := by
  have hk := (List.getElem?_eq_some_iff.1 h).1
  have e := (List.getElem?_eq_some_iff.1 h).2
  rw [← e, ← List.drop_eq_getElem_cons hk, List.take_append_drop]
theorem less_mem {l : List Mb} (ha : l.Pairwise (fun a b => a.node < b.node)) {k : Nat} {x : Mb} (h : l[k]? = some x) (m : Mb) : m ∈ lessL l k ↔ m ∈ l ∧ m ≠ x := by
  have e := less_split h
  have hp := ha
  rw [e, List.pairwise_append, List.pairwise_cons] at hp
  unfold lessL
  constructor
  · intro hm
    rcases List.mem_append.1 hm with hm | hm
    · exact ⟨List.mem_of_mem_take hm, fun e2 => by have := hp.2.2 m hm x (by simp); rw [e2] at this; omega⟩
    · exact ⟨List.mem_of_mem_drop hm, fun e2 => by have := hp.2.1.1 m hm; rw [e2] at this; omega⟩
  · rintro ⟨hm, hne⟩
    rw [e] at hm
    rcases List.mem_append.1 hm with hm | hm
    · exact List.mem_append_left _ hm
    · rcases List.mem_cons.1 hm with hm | hm
      · exact absurd hm hne
      · exact List.mem_append_right _ hm
theorem less_sub (l : List Mb) (k : Nat) : (lessL l k).Sublist l := by
  have h : (l.take k ++ l.drop (k + 1)).Sublist (l.take k ++ l.drop k) := List.Sublist.append (List.Sublist.refl _) (by rw [← List.drop_drop (i := 1) (j := k) (l := l)]; exact List.drop_sublist _ _)
  rw [List.take_append_drop] at h
  exact h
theorem less_vl {l : List Mb} (hv : VL l) {k : Nat} {x : Mb} (h : l[k]? = some x) {o : Int} (ho : o ∈ l.map Mb.node) (hx : x.node ≠ o) : VL (lessL l k) := by
  refine ⟨fun m hm => hv.ok m ((less_mem hv.asc h m).1 hm).1, hv.asc.sublist (less_sub l k), fun e => ?_⟩
  obtain ⟨m, hm, hmo⟩ := List.mem_map.1 ho
  have : m ∈ lessL l k := (less_mem hv.asc h m).2 ⟨hm, fun e2 => hx (by rw [← e2]; exact hmo)⟩
  rw [e] at this
  cases this
theorem less_len {l : List Mb} {k : Nat} (hk : k < l.length) : (lessL l k).length = l.length - 1 := by
  unfold lessL
  rw [List.length_append, List.length_take, List.length_drop]
  omega
theorem hold_prefix (rk : Int → Int) (l : List Mb) (o : Int) (i : Nat) (hl : l.Pairwise (fun a b => a.node < b.node)) (ho : o ∈ l.map Mb.node) : ∃ t, (holdC rk l o (i + 1)).drop 1 = (holdC rk l o i).drop 1 ++ t := by
  obtain ⟨t, ht⟩ := holdC_pre rk l o i
  obtain ⟨s, hs⟩ := (holdC_ok (rk := rk) hl ho i).hd
  refine ⟨t, ?_⟩
  rw [ht, hs]
  rfl

set_option maxRecDepth 100000 in
set_option maxHeartbeats 8000000 in
theorem repStable_any (v : Value) (xs : List Int) (wh : Int) (key : ByteArray) (n : Int) (w : World) (h : Its w v xs) (hwh : I64 wh) (hkey : key.size ≤ maxLen) (hn : I64 n) (hT : Tab w) (hP : Pow w) : Calls Tryz.prog 9 #[v, .int .i64 wh, .string key, .int .i64 n] w fun e w' => e = .returned (.bool true) ∧ Keep (fun _ => False) w w' := by
  have HT := Lib.hid hT
  have HP := Lib.hid hP
  have HI := Lib.hid h
  have HN := Lib.hid hn
  have HWH := Lib.hid hwh
  obtain ⟨va, vn, vc, rfl⟩ : ∃ a n c, v = .slice a n c := by
    obtain ⟨-, -, a, c, b, off, rfl, -⟩ := h
    exact ⟨_, _, _, rfl⟩
  clear hT hP h hn hwh
  obtain ⟨l, hl⟩ : ∃ l, someL15 xs = l := ⟨_, rfl⟩
  obtain ⟨ow, how⟩ : ∃ ow, ow15 xs = ow := ⟨_, rfl⟩
  have HOK : Hid (okRing 1 l ow) := Lib.hid (by rw [← hl, ← how]; exact ok15 xs)
  have HV : Hid (VL l) := Lib.hid HOK.out.2.2.1
  have hl8 : l.length ≤ 8 := by rw [← hl]; exact someL15_len xs
  have HSOME : Hid (∀ W, Keep (fun _ => False) w W → Calls Tryz.prog 33 #[.slice va vn vc] W (RingBack 1 l ow W)) := Lib.hid (fun W k => by rw [← hl, ← how]; exact some15_any _ xs W (HI.out.kept k))
  clear hl how
  have hp1 := pk_bd n 3 (by decide)
  unfold maxLen at hkey
  go_enter Tryz.func9, Tryz.ntmps9
  go_wp2_with fail
  with_reducible refine (sane15_any w HT.out).mono ?_
  rintro e W1 ⟨rfl, k1⟩
  have HK1 := Lib.hid k1
  clear k1
  go_wp2_with fail
  have HKS0 : Hid ((key.extract 0 (min (key.size : Int) 100).toNat).size ≤ 1000) := Lib.hid (by rw [ByteArray.size_extract]; omega)
  generalize key.extract 0 (min (key.size : Int) 100).toNat = ky at *
  with_reducible refine (pick15_any n 3 _ HN.out (by decide)).mono ?_
  rintro e w' ⟨rfl, rfl⟩
  generalize pk n 3 = p at *
  obtain ⟨pq, rfl⟩ : ∃ q : Nat, p = q := ⟨p.toNat, by omega⟩
  obtain ⟨m, hm⟩ : ∃ m : Nat, 1 + pq = m := ⟨_, rfl⟩
  have hmi : (1 : Int) + (pq : Int) = (m : Int) := by omega
  have hw1 : IntKind.i64.wrap (1 + (pq : Int)) = (m : Int) := by rw [hmi]; exact wrapI (by unfold I64; omega)
  have hm3 : 1 ≤ m ∧ m ≤ 3 := by omega
  go_wp2_with fail
  with_reducible refine (HSOME.out _ HK1.out).mono ?_
  rintro e W2 hrb
  obtain ⟨mb, mo, cm, ao, co, rfl, hst⟩ := hrb.st HK1.out HV.out (HT.out.kept HK1.out) (HP.out.kept HK1.out)
  have HST := Lib.hid hst
  have hlc := hst.len.2
  obtain ⟨ln, hln⟩ : ∃ n, l.length = n := ⟨_, rfl⟩
  have HLN := Lib.hid hln
  have hln1 : 0 < ln := by rw [← hln]; exact List.length_pos_iff.2 HV.out.ne
  rw [hln] at HST hl8 hlc ⊢
  clear hrb hst HSOME HK1 hw1 hln hkey
  go_upto_region 5 with (fail)
  generalize W2.alloc (.cells #[.int .i64 1, .slice (some ⟨mb, mo, none⟩) ln cm, .slice ao 64 co] 27) = W3 at *
  generalize hzb : W2.heap.size = zb at *
  clear hzb
  obtain ⟨o, H, HHA⟩ : ∃ o H, Hid (HoldAt l ow ky o m H) := ⟨_, _, Lib.hid (hold_at l ow ky m hm3 HOK.out)⟩
  have HOM : Hid (o ∈ l.map Mb.node) := Lib.hid (by obtain ⟨t, e⟩ := HHA.out.at_.hd; exact HHA.out.at_.mem o (by rw [e]; simp))
  have HOH : Hid (o ∈ H) := Lib.hid (by obtain ⟨t, e⟩ := HHA.out.at_.hd; rw [e]; simp)
  obtain ⟨A, hA⟩ : ∃ A, H.drop 1 = A := ⟨_, rfl⟩
  obtain ⟨B, hB⟩ : ∃ B, (holdV 1 l ow ky ((m : Int) - 1)).drop 1 = B := ⟨_, rfl⟩
  have HLA : Hid (A.length ≤ 24) := Lib.hid (by rw [← hA, List.length_drop]; have h1 := HHA.out.at_.len; have := HLN.out; omega)
  have HPRE : Hid ((1 < m → ∃ t, A = B ++ t) ∧ (m = 1 → B = [])) := Lib.hid (by
    constructor
    · intro h1
      have h2 := hold_at l ow ky (m - 1) (by omega) HOK.out
      have e1 : ((m : Int) - 1) = ((m - 1 : Nat) : Int) := by omega
      rw [e1, h2.holdV] at hB
      have hown := HHA.out.own
      rw [hown] at hB
      obtain ⟨t, ht⟩ := hold_prefix (rkOf ky) l o (m - 1) HV.out.asc HOM.out
      rw [show m - 1 + 1 = m by omega, HHA.out.eq, hA, hB] at ht
      exact ⟨t, ht⟩
    · intro h1
      subst h1
      rw [show (((1 : Nat) : Int) - 1) = 0 by omega, HHA.out.holdV0] at hB
      rw [← hB]; rfl)
  have HCOP : Hid (∀ W, RepSt w zb mb mo ln cm ao co l ow W → Calls Tryz.prog 35 #[ringA (some ⟨mb, mo, none⟩) ln cm ao co, .string ky, .int .i64 m] W (HoldPost W A)) := Lib.hid (fun W h => by
    have := copies_any _ 1 l ow ky m W h.r HKS0.out h.t
    rwa [HHA.out.holdV, hA] at this)
  have HCOP1 : Hid (∀ W, RepSt w zb mb mo ln cm ao co l ow W → Calls Tryz.prog 35 #[ringA (some ⟨mb, mo, none⟩) ln cm ao co, .string ky, .int .i64 ((m : Int) - 1)] W (HoldPost W B)) := Lib.hid (fun W h => by
    have := copies_any _ 1 l ow ky ((m : Int) - 1) W h.r HKS0.out h.t
    rwa [hB] at this)
  have HHOL : Hid (∀ W, RepSt w zb mb mo ln cm ao co l ow W → ∀ q, Calls Tryz.prog 39 #[ringA (some ⟨mb, mo, none⟩) ln cm ao co, .string ky, .int .i64 m, .int .i64 q] W fun e w' => e = .returned (.bool (hasI H q)) ∧ Keep (fun _ => False) W w') := Lib.hid (fun W h q => by
    have := holds_any _ 1 l ow ky m q W h.r HKS0.out h.t
    rwa [HHA.out.holdV] at this)
  have HOWN : Hid (∀ W, RepSt w zb mb mo ln cm ao co l ow W → Calls Tryz.prog 49 #[ringA (some ⟨mb, mo, none⟩) ln cm ao co, .string ky] W fun e w' => e = .returned (.int .i64 o) ∧ Keep (fun _ => False) W w') := Lib.hid (fun W h => by
    have := owner_any _ 1 l ow W h.r ky (by have := HKS0.out; omega) h.t
    rwa [HHA.out.own] at this)
  have HAE := Lib.hid hA
  clear hB hA
  obtain ⟨y0, y1, y2, yf⟩ := HST.out.b
  go_wp2_with fail
  clear y0 y1 y2 yf
  with_reducible refine (HCOP.out W3 HST.out).mono ?_
  rintro e W4 ⟨va4, rfl, hia, k4⟩
  have HIA4 := Lib.hid hia
  have HST4 := Lib.hid (HST.out.kept k4)
  have hw3 : IntKind.i64.wrap ((m : Int) - 1) = (m : Int) - 1 := wrapI (by unfold I64; omega)
  clear hia k4 HST
  obtain ⟨y0, y1, y2, yf⟩ := HST4.out.b
  go_wp2_with fail
  clear y0 y1 y2 yf hw3
  with_reducible refine (HCOP1.out W4 HST4.out).mono ?_
  rintro e W5 ⟨vb5, rfl, hib, k5⟩
  have HIB5 := Lib.hid hib
  have HIA5 := Lib.hid (HIA4.out.kept k5)
  have HST5 := Lib.hid (HST4.out.kept k5)
  clear hib k5 HIA4 HST4
  obtain ⟨aa, ac, ab, aof, rfl, hacp, -⟩ : ∃ a c b off, va4 = .slice a A.length c ∧ A.length ≤ c ∧ (0 < A.length → a = some ⟨b, off, none⟩) := by
    obtain ⟨-, -, a, c, b, off, h1, h2, h3, -⟩ := HIA5.out
    exact ⟨a, c, b, off, h1, h2, h3⟩
  obtain ⟨ba, bc, bb, bof, rfl, hbcp, -⟩ : ∃ a c b off, vb5 = .slice a B.length c ∧ B.length ≤ c ∧ (0 < B.length → a = some ⟨b, off, none⟩) := by
    obtain ⟨-, -, a, c, b, off, h1, h2, h3, -⟩ := HIB5.out
    exact ⟨a, c, b, off, h1, h2, h3⟩
  have HLB : Hid (B.length ≤ A.length) := Lib.hid (by
    rcases Nat.lt_or_ge 1 m with h1 | h1
    · obtain ⟨t, e⟩ := HPRE.out.1 h1
      rw [e, List.length_append]; omega
    · rw [HPRE.out.2 (by omega)]; simp)
  obtain ⟨an, han⟩ : ∃ n, A.length = n := ⟨_, rfl⟩
  obtain ⟨bn, hbn⟩ : ∃ n, B.length = n := ⟨_, rfl⟩
  have HAN := Lib.hid han
  have HBN := Lib.hid hbn
  rw [han] at hacp HIA5 HLA HLB ⊢
  rw [hbn] at hbcp HIB5 HLB ⊢
  have hba := HLB.out
  have hbaz : ¬ (an : Int) < (bn : Int) := by omega
  have hbaz2 : (bn : Int) ≤ (an : Int) := by omega
  clear han hbn
  by_cases hm1 : 1 < m
  · have hm1z : (1 : Int) < (m : Int) := by omega
    have hme : ((m : Int) == 1) = false := by simp; omega
    have HCUT := Lib.hid (HIA5.out.cut (q := bn) hba).1
    have HSM : Hid (decide (B = A.take bn) = true) := Lib.hid (by
      obtain ⟨t, e⟩ := HPRE.out.1 hm1
      rw [decide_eq_true_eq, e, ← HBN.out, List.take_left])
    go_wp2_with fail
    have hc := sameInts_any _ _ B (A.take bn) W5 HIB5.out HCUT.out
    rw [HSM.out] at hc
    with_reducible refine hc.mono ?_
    clear hc
    rintro e W6 ⟨rfl, k6⟩
    have HST6 := Lib.hid (HST5.out.kept k6)
    have HIA6 := Lib.hid (HIA5.out.kept k6)
    clear k6 HST5 HIA5 HIB5 HCUT HSM
    go_upto_region 9 with (fail)
    clear hm1z hme hba hbaz hbaz2
    obtain ⟨y0, y1, y2, yf⟩ := HST6.out.b
    go_upto_region 9 with (fail)
    go_wp2_with fail
    clear y0 y1 y2 yf
    with_reducible refine (pick15_any wh ln _ HWH.out (by omega)).mono ?_
    rintro e w' ⟨rfl, rfl⟩
    have hpk := pk_bd wh ln (by omega)
    generalize pk wh ln = kk at *
    obtain ⟨k, rfl⟩ : ∃ k : Nat, kk = k := ⟨kk.toNat, by omega⟩
    have hkl : k < ln := by omega
    obtain ⟨x0, hx0⟩ : ∃ x, l[k]? = some x := ⟨_, List.getElem?_eq_getElem (by rw [HLN.out]; exact hkl)⟩
    have HX0 := Lib.hid hx0
    have HMM := Lib.hid (HST6.out.mem hx0).1
    have hkz : (k : Int) < (ln : Int) := by omega
    have hk0 : (0 : Int) ≤ (k : Int) := by omega
    clear hx0
    obtain ⟨q, hq⟩ : ∃ q, x0.node = q := ⟨_, rfl⟩
    have HQ := Lib.hid hq
    rw [hq] at HMM
    clear hq
    go_upto_region 10 with (fail)
    have y0 : ∀ p : KA (fun _ => False) W6, p.val.cell? ⟨zb, 0, none⟩ = some (.int .i64 1) := fun p => p.k.cell HST6.out.b.1 (fun h => h)
    have y1 : ∀ p : KA (fun _ => False) W6, p.val.cell? ⟨zb, 1, none⟩ = some (.slice (some ⟨mb, mo, none⟩) ln cm) := fun p => p.k.cell HST6.out.b.2.1 (fun h => h)
    have y2 : ∀ p : KA (fun _ => False) W6, p.val.cell? ⟨zb, 2, none⟩ = some (.slice ao 64 co) := fun p => p.k.cell HST6.out.b.2.2.1 (fun h => h)
    refine wp_region_walk [(true, 0), (true, 1), (true, 2), (true, 3), (true, 4), (false, 5), (false, 6), (false, 7), (false, 8), (false, 9)] (inKA (fun _ => False) W6) (by kernel_rfl) (by kernel_rfl) ?_
    iterate 5 (refine walkW_read rfl (fun K hK => ?_); go_simp; refine hK _ ?_; clear hK K)
    clear y0 y1 y2
    have HKD : Hid (Keep (fun _ => False) W6 W6.drew) := Lib.hid (Keep.refl _ W6).drew
    have cq : W6.drew.cell? ⟨mb, mo + k * 3, none⟩ = some (.int .i64 q) := HKD.out.cell HMM.out (fun h => h)
    have HSD := Lib.hid (HST6.out.kept HKD.out)
    generalize W6.drew = V1 at *
    iterate 4 (refine walkW_do rfl (inKA.of HKD.out) (fun K hK => ?_); go_simp; refine hK _ _ ?_; clear hK K)
    refine walkW_do rfl (inKA.of HKD.out) (fun K hK => ?_)
    go_simp
    refine (HHOL.out V1 HSD.out q).mono ?_
    rintro e V2 ⟨rfl, k2⟩
    have HK2 := Lib.hid (HKD.out.trans k2)
    have HS2 := Lib.hid (HST6.out.kept HK2.out)
    have HIA2 := Lib.hid (HIA6.out.kept HK2.out)
    clear k2 cq HSD
    refine hK _ _ ?_; clear hK K
    refine ⟨inKA.of HK2.out, ?_⟩
    cases hh : hasI H q with
    | true =>
      have HKF := Lib.hid HS2.out.k
      clear hh
      go_wp2_with fail
      go_ret
      exact ⟨rfl, HKF.out⟩
    | false =>
      have HQH : Hid (q ∉ H) := Lib.hid (fun h => by rw [hasI_true h] at hh; cases hh)
      have HVF : Hid (VL (lessL l k)) := Lib.hid (less_vl HV.out HX0.out HOM.out (fun e => HQH.out (by rw [← HQ.out, e]; exact HOH.out)))
      clear hh
      have HMB2 := Lib.hid HS2.out.mbs
      have HCK : Hid (Mbs V2 (.slice (some ⟨mb, mo, none⟩) k cm) (l.take k)) := Lib.hid (HMB2.out.cut (q := k) (by omega)).1
      obtain ⟨ra, rcp, HRA, HRK⟩ : ∃ ra rcp, Hid (ra = (if cm = k + 1 then some ⟨mb, mo, none⟩ else some ⟨mb, mo + (k + 1) * 3, none⟩ : Option Addr) ∧ rcp = cm - (k + 1)) ∧ Hid (Mbs V2 (.slice ra (ln - (k + 1)) rcp) (l.drop (k + 1))) := ⟨_, _, Lib.hid ⟨rfl, rfl⟩, Lib.hid (HMB2.out.rest (by omega))⟩
      have hk1z : ((k : Int) + 1) ≤ (ln : Int) := by omega
      have hkcm : k ≤ cm := by omega
      have hk10 : (0 : Int) ≤ (k : Int) + 1 := by omega
      have hlcm : ln ≤ cm := by omega
      have hwk : IntKind.i64.wrap ((k : Int) + 1) = ((k + 1 : Nat) : Int) := by rw [wrapI (by unfold I64; omega)]; omega
      go_upto_region 12 with (fail)
      have y1 : ∀ p : KA (fun _ => False) V2, p.val.cell? ⟨zb, 1, none⟩ = some (.slice (some ⟨mb, mo, none⟩) ln cm) := fun p => p.k.cell HS2.out.b.2.1 (fun h => h)
      refine wp_region_walk [(true, 1), (true, 2), (true, 3), (true, 4), (true, 6), (true, 7), (true, 8), (true, 9), (true, 10), (false, 0), (false, 5), (false, 11), (false, 12)] (inKA (fun _ => False) V2) (by kernel_rfl) (by kernel_rfl) ?_
      iterate 8 (refine walkW_read rfl (fun K hK => ?_); go_simp; refine hK _ ?_; clear hK K)
      refine walkW_read rfl (fun K hK => ?_)
      go_simp
      refine hK _ ?_; clear hK K
      clear y1
      rw [← HRA.out.1, ← HRA.out.2]
      have HKD2 : Hid (Keep (fun _ => False) V2 V2.drew) := Lib.hid (Keep.refl _ V2).drew
      generalize V2.drew = V3 at *
      have KE : Keep (fun _ => False) V3 (V3.alloc (.cells #[] 35)) := (Keep.refl _ V3).alloc _
      have hlit := World.ownsRow_lit (base := V2.heap.size) (e := 35) (size := 3) V3 #[] 0 HKD2.out.size (by decide) rfl
      have HK2E := Lib.hid (HKD2.out.trans KE)
      obtain ⟨v4, V4, hr4, hown4, hk4⟩ := app_mbs0 (V3.alloc (.cells #[] 35)) 25 V2.heap.size (.slice (some ⟨V3.heap.size, 0, none⟩) 0 0) (.slice (some ⟨mb, mo, none⟩) k cm) [] (l.take k) hlit (HCK.out.kept HK2E.out) (by simp; omega) HK2E.out.size
      rw [List.nil_append] at hown4
      have HK24 : Hid (Keep (fun _ => False) V2 V4) := Lib.hid (HK2E.out.trans' hk4 (fun j e => .inr (hlit.lt j e).1))
      obtain ⟨v5, V5, hr5, hown5, hk5⟩ := app_mbs0 V4 25 V2.heap.size v4 (.slice ra (ln - (k + 1)) rcp) (l.take k) (l.drop (k + 1)) hown4 (HRK.out.kept HK24.out) (by rw [List.length_take, List.length_drop]; have := HLN.out; omega) HK24.out.size
      have HK25 : Hid (Keep (fun _ => False) V2 V5) := Lib.hid (HK24.out.trans' hk5 (fun j e => .inr (hown4.lt j e).1))
      have HFEW : Hid (Mbs V5 v5 (lessL l k)) := Lib.hid (mbs_owns hown5 (by rw [less_len (by rw [HLN.out]; exact hkl), HLN.out]; omega) HVF.out.bd)
      have HR4 := Lib.hid hr4
      have HR5 := Lib.hid hr5
      clear hr4 hr5 hown4 hown5 hk4 hk5 hlit KE
      refine walkW_do rfl (inKA.of HKD2.out) (fun K hK => ?_)
      go_simp
      refine hK _ _ ?_; clear hK K
      refine walkW_do rfl (inKA.of HK2E.out) (fun K hK => ?_)
      rw [if_pos (by first | rfl | simp [Region.wanted, yielded])]
      refine wp_app (.tmp 80) (.tmp 84) 25 rfl rfl rfl HR4.out (hK _ _ ?_); clear hK K
      refine walkW_do rfl (inKA.of HK24.out) (fun K hK => ?_)
      rw [if_pos (by first | rfl | simp [Region.wanted, yielded])]
      refine wp_app (.tmp 85) (.tmp 90) 25 rfl rfl rfl HR5.out (hK _ _ ?_); clear hK K
      refine walkW_do rfl (inKA.of HK25.out) (fun K hK => ?_)
      go_simp
      refine hK _ _ ?_; clear hK K
      refine ⟨inKA.of HK25.out, ?_⟩
      have HS5 := Lib.hid (HS2.out.kept HK25.out)
      have HIA5 := Lib.hid (HIA2.out.kept HK25.out)
      clear HR4 HR5 HKD2 HK2E HK24 HCK HRK HRA HMB2 hk1z hkcm hlcm hwk hk10
      go_wp2_with fail
      have hnew : Calls Tryz.prog 13 #[.int .i64 2, v5] V5 (GoodN 2 (lessL l k) (ownersL PN QS (lessL l k)) V5) := (new_ok 2 v5 (lessL l k) V5 HFEW.out HVF.out HS5.out.t (by decide)).mono (fun _ _ h => h.good HVF.out (by unfold I64; decide))
      have HFOK : Hid (okRing 2 (lessL l k) (ownersL PN QS (lessL l k))) := Lib.hid (ok_new PN QS HVF.out (by decide))
      obtain ⟨few, hfew⟩ : ∃ f, lessL l k = f := ⟨_, rfl⟩
      have HLM : Hid (∀ m, m ∈ few ↔ m ∈ l ∧ m ≠ x0) := Lib.hid (by rw [← hfew]; exact less_mem HV.out.asc HX0.out)
      rw [hfew] at hnew HFOK
      have HVF2 : Hid (VL few) := Lib.hid (by rw [← hfew]; exact HVF.out)
      clear HFEW HVF hfew
      generalize ownersL PN QS few = fow at *
      obtain ⟨fn, hfn⟩ : ∃ n, few.length = n := ⟨_, rfl⟩
      unfold GoodN at hnew
      rw [hfn] at hnew
      with_reducible refine hnew.mono ?_
      clear hnew hfn
      rintro e V6 ⟨fam, fcm, fao, fco, rfl, hrf, k6⟩
      have HRF := Lib.hid hrf
      have HS6 := Lib.hid (HS5.out.kept k6)
      have HIA6 := Lib.hid (HIA5.out.kept k6)
      clear hrf k6
      have HBF := Lib.hid (Box3.new V6 (.int .i64 2) (.slice fam fn fcm) (.slice fao 64 fco) 27)
      have HKB : Hid (Keep (fun _ => False) V6 (V6.alloc (.cells #[.int .i64 2, .slice fam fn fcm, .slice fao 64 fco] 27))) := Lib.hid ((Keep.refl _ V6).alloc _)
      have HS7 := Lib.hid (HS6.out.kept HKB.out)
      have HIA7 := Lib.hid (HIA6.out.kept HKB.out)
      have HRF7 := Lib.hid (HRF.out.kept HKB.out)
      clear HS6 HIA6 HRF HKB HS5 HIA5
      go_upto_region 16 with (fail)
      generalize V6.alloc (.cells #[.int .i64 2, .slice fam fn fcm, .slice fao 64 fco] 27) = V7 at *
      generalize V6.heap.size = zf at *
      obtain ⟨fo, hfo⟩ : ∃ fo, ownerOf fow ky = fo := ⟨_, rfl⟩
      have HFOW : Hid (∀ W, Keep (fun _ => False) V7 W → Calls Tryz.prog 49 #[.agg #[.int .i64 2, .slice fam fn fcm, .slice fao 64 fco], .string ky] W fun e w' => e = .returned (.int .i64 fo) ∧ Keep (fun _ => False) W w') := Lib.hid (fun W k => by
        have := owner_any _ 2 few fow W (HRF7.out.kept k) ky (by have := HKS0.out; omega) (HS7.out.t.kept k)
        rwa [hfo] at this)
      have HFCO : Hid (fo = o → ∀ W, Keep (fun _ => False) V7 W → Calls Tryz.prog 35 #[.agg #[.int .i64 2, .slice fam fn fcm, .slice fao 64 fco], .string ky, .int .i64 m] W (HoldPost W A)) := Lib.hid (fun e W k => by
        have h9 := copies_any _ 2 few fow ky m W (HRF7.out.kept k) HKS0.out (HS7.out.t.kept k)
        have h8 : holdV 2 few fow ky m = H := by
          unfold holdV
          rw [if_pos ((validRB_iff 2 few fow).2 HFOK.out), if_neg (by omega), hfo, e, Int.toNat_natCast]
          have := hold_less (rk := rkOf ky) (o := o) HV.out.asc HVF2.out.asc HLM.out m (by rw [HHA.out.eq]; rw [HQ.out]; exact HQH.out) m (Nat.le_refl _)
          rw [this, HHA.out.eq]
        rwa [h8, HAE.out] at h9)
      clear hfo
      have y0 : ∀ p : KA (fun _ => False) V7, p.val.cell? ⟨zb, 0, none⟩ = some (.int .i64 1) := fun p => p.k.cell HS7.out.b.1 (fun h => h)
      have y1 : ∀ p : KA (fun _ => False) V7, p.val.cell? ⟨zb, 1, none⟩ = some (.slice (some ⟨mb, mo, none⟩) ln cm) := fun p => p.k.cell HS7.out.b.2.1 (fun h => h)
      have y2 : ∀ p : KA (fun _ => False) V7, p.val.cell? ⟨zb, 2, none⟩ = some (.slice ao 64 co) := fun p => p.k.cell HS7.out.b.2.2.1 (fun h => h)
      have u0 : ∀ p : KA (fun _ => False) V7, p.val.cell? ⟨zf, 0, none⟩ = some (.int .i64 2) := fun p => p.k.cell HBF.out.1 (fun h => h)
      have u1 : ∀ p : KA (fun _ => False) V7, p.val.cell? ⟨zf, 1, none⟩ = some (.slice fam fn fcm) := fun p => p.k.cell HBF.out.2.1 (fun h => h)
      have u2 : ∀ p : KA (fun _ => False) V7, p.val.cell? ⟨zf, 2, none⟩ = some (.slice fao 64 fco) := fun p => p.k.cell HBF.out.2.2.1 (fun h => h)
      refine wp_region_walk [(true, 0), (true, 1), (true, 3), (true, 4), (false, 2), (false, 5), (false, 6)] (inKA (fun _ => False) V7) (by kernel_rfl) (by kernel_rfl) ?_
      iterate 4 (refine walkW_read rfl (fun K hK => ?_); go_simp; refine hK _ ?_; clear hK K)
      clear y0 y1 y2 u0 u1 u2
      have HKD8 : Hid (Keep (fun _ => False) V7 V7.drew) := Lib.hid (Keep.refl _ V7).drew
      refine walkW_do rfl (inKA.of HKD8.out) (fun K hK => ?_)
      go_simp
      refine (HFOW.out _ HKD8.out).mono ?_
      rintro e V8 ⟨rfl, k8⟩
      have HK8 := Lib.hid (HKD8.out.trans k8)
      clear k8
      refine hK _ _ ?_; clear hK K
      refine walkW_do rfl (inKA.of HK8.out) (fun K hK => ?_)
      go_simp
      refine (HOWN.out _ (HS7.out.kept HK8.out)).mono ?_
      rintro e V9 ⟨rfl, k9⟩
      have HK9 := Lib.hid (HK8.out.trans k9)
      clear k9
      refine hK _ _ ?_; clear hK K
      obtain ⟨bq, hbq⟩ : ∃ b, (fo != o) = b := ⟨_, rfl⟩
      have HBQ := Lib.hid hbq
      refine walkW_do rfl (inKA.of HK9.out) (fun K hK => ?_)
      go_simp
      refine hK _ _ ?_; clear hK K
      refine ⟨inKA.of HK9.out, ?_⟩
      have HS9 := Lib.hid (HS7.out.kept HK9.out)
      have HIA9 := Lib.hid (HIA7.out.kept HK9.out)
      have HBF9 := Lib.hid (HBF.out.kept HK9.out)
      clear HKD8 HK8
      cases bq with
      | true =>
        have HKF := Lib.hid HS9.out.k
        clear hbq
        go_wp2_with fail
        go_ret
        exact ⟨rfl, HKF.out⟩
      | false =>
        have HFE : Hid (fo = o) := Lib.hid (by have := HBQ.out; simpa using this)
        clear hbq
        obtain ⟨u0, u1, u2, uf⟩ := HBF9.out
        go_wp2_with fail
        clear u0 u1 u2 uf
        with_reducible refine (HFCO.out HFE.out V9 HK9.out).mono ?_
        rintro e VA ⟨vca, rfl, hica, kA⟩
        have HICA := Lib.hid hica
        have HIAA := Lib.hid (HIA9.out.kept kA)
        have HSA := Lib.hid (HS9.out.kept kA)
        clear hica kA
        go_wp2_with fail
        have hc := sameInts_any _ _ A A VA HICA.out HIAA.out
        rw [show decide (A = A) = true from decide_eq_true rfl] at hc
        with_reducible refine hc.mono ?_
        clear hc
        rintro e VB ⟨rfl, kB⟩
        have HKB := Lib.hid (HSA.out.k.trans kB)
        clear kB
        go_wp2_with fail
        go_ret
        exact ⟨rfl, HKB.out⟩
  · obtain rfl : m = 1 := by omega
    have hbn0 : bn = 0 := by rw [← HBN.out, HPRE.out.2 rfl]; rfl
    subst hbn0
    have hm1z : ¬ (1 : Int) < ((1 : Nat) : Int) := by omega
    have HST6 := HST5
    have HIA6 := HIA5
    clear HST5 HIA5 HIB5
    go_upto_region 9 with (fail)
    clear hm1z hba hbaz hbaz2
    obtain ⟨y0, y1, y2, yf⟩ := HST6.out.b
    go_upto_region 9 with (fail)
    go_wp2_with fail
    clear y0 y1 y2 yf
    with_reducible refine (pick15_any wh ln _ HWH.out (by omega)).mono ?_
    rintro e w' ⟨rfl, rfl⟩
    have hpk := pk_bd wh ln (by omega)
    generalize pk wh ln = kk at *
    obtain ⟨k, rfl⟩ : ∃ k : Nat, kk = k := ⟨kk.toNat, by omega⟩
    have hkl : k < ln := by omega
    obtain ⟨x0, hx0⟩ : ∃ x, l[k]? = some x := ⟨_, List.getElem?_eq_getElem (by rw [HLN.out]; exact hkl)⟩
    have HX0 := Lib.hid hx0
    have HMM := Lib.hid (HST6.out.mem hx0).1
    have hkz : (k : Int) < (ln : Int) := by omega
    have hk0 : (0 : Int) ≤ (k : Int) := by omega
    clear hx0
    obtain ⟨q, hq⟩ : ∃ q, x0.node = q := ⟨_, rfl⟩
    have HQ := Lib.hid hq
    rw [hq] at HMM
    clear hq
    go_upto_region 10 with (fail)
    have y0 : ∀ p : KA (fun _ => False) W5, p.val.cell? ⟨zb, 0, none⟩ = some (.int .i64 1) := fun p => p.k.cell HST6.out.b.1 (fun h => h)
    have y1 : ∀ p : KA (fun _ => False) W5, p.val.cell? ⟨zb, 1, none⟩ = some (.slice (some ⟨mb, mo, none⟩) ln cm) := fun p => p.k.cell HST6.out.b.2.1 (fun h => h)
    have y2 : ∀ p : KA (fun _ => False) W5, p.val.cell? ⟨zb, 2, none⟩ = some (.slice ao 64 co) := fun p => p.k.cell HST6.out.b.2.2.1 (fun h => h)
    refine wp_region_walk [(true, 0), (true, 1), (true, 2), (true, 3), (true, 4), (false, 5), (false, 6), (false, 7), (false, 8), (false, 9)] (inKA (fun _ => False) W5) (by kernel_rfl) (by kernel_rfl) ?_
    iterate 5 (refine walkW_read rfl (fun K hK => ?_); go_simp; refine hK _ ?_; clear hK K)
    clear y0 y1 y2
    have HKD : Hid (Keep (fun _ => False) W5 W5.drew) := Lib.hid (Keep.refl _ W5).drew
    have cq : W5.drew.cell? ⟨mb, mo + k * 3, none⟩ = some (.int .i64 q) := HKD.out.cell HMM.out (fun h => h)
    have HSD := Lib.hid (HST6.out.kept HKD.out)
    generalize W5.drew = V1 at *
    iterate 4 (refine walkW_do rfl (inKA.of HKD.out) (fun K hK => ?_); go_simp; refine hK _ _ ?_; clear hK K)
    refine walkW_do rfl (inKA.of HKD.out) (fun K hK => ?_)
    go_simp
    refine (HHOL.out V1 HSD.out q).mono ?_
    rintro e V2 ⟨rfl, k2⟩
    have HK2 := Lib.hid (HKD.out.trans k2)
    have HS2 := Lib.hid (HST6.out.kept HK2.out)
    have HIA2 := Lib.hid (HIA6.out.kept HK2.out)
    clear k2 cq HSD
    refine hK _ _ ?_; clear hK K
    refine ⟨inKA.of HK2.out, ?_⟩
    cases hh : hasI H q with
    | true =>
      have HKF := Lib.hid HS2.out.k
      clear hh
      go_wp2_with fail
      go_ret
      exact ⟨rfl, HKF.out⟩
    | false =>
      have HQH : Hid (q ∉ H) := Lib.hid (fun h => by rw [hasI_true h] at hh; cases hh)
      have HVF : Hid (VL (lessL l k)) := Lib.hid (less_vl HV.out HX0.out HOM.out (fun e => HQH.out (by rw [← HQ.out, e]; exact HOH.out)))
      clear hh
      have HMB2 := Lib.hid HS2.out.mbs
      have HCK : Hid (Mbs V2 (.slice (some ⟨mb, mo, none⟩) k cm) (l.take k)) := Lib.hid (HMB2.out.cut (q := k) (by omega)).1
      obtain ⟨ra, rcp, HRA, HRK⟩ : ∃ ra rcp, Hid (ra = (if cm = k + 1 then some ⟨mb, mo, none⟩ else some ⟨mb, mo + (k + 1) * 3, none⟩ : Option Addr) ∧ rcp = cm - (k + 1)) ∧ Hid (Mbs V2 (.slice ra (ln - (k + 1)) rcp) (l.drop (k + 1))) := ⟨_, _, Lib.hid ⟨rfl, rfl⟩, Lib.hid (HMB2.out.rest (by omega))⟩
      have hk1z : ((k : Int) + 1) ≤ (ln : Int) := by omega
      have hkcm : k ≤ cm := by omega
      have hk10 : (0 : Int) ≤ (k : Int) + 1 := by omega
      have hlcm : ln ≤ cm := by omega
      have hwk : IntKind.i64.wrap ((k : Int) + 1) = ((k + 1 : Nat) : Int) := by rw [wrapI (by unfold I64; omega)]; omega
      go_upto_region 12 with (fail)
      have y1 : ∀ p : KA (fun _ => False) V2, p.val.cell? ⟨zb, 1, none⟩ = some (.slice (some ⟨mb, mo, none⟩) ln cm) := fun p => p.k.cell HS2.out.b.2.1 (fun h => h)
      refine wp_region_walk [(true, 1), (true, 2), (true, 3), (true, 4), (true, 6), (true, 7), (true, 8), (true, 9), (true, 10), (false, 0), (false, 5), (false, 11), (false, 12)] (inKA (fun _ => False) V2) (by kernel_rfl) (by kernel_rfl) ?_
      iterate 8 (refine walkW_read rfl (fun K hK => ?_); go_simp; refine hK _ ?_; clear hK K)
      refine walkW_read rfl (fun K hK => ?_)
      go_simp
      refine hK _ ?_; clear hK K
      clear y1
      rw [← HRA.out.1, ← HRA.out.2]
      have HKD2 : Hid (Keep (fun _ => False) V2 V2.drew) := Lib.hid (Keep.refl _ V2).drew
      generalize V2.drew = V3 at *
      have KE : Keep (fun _ => False) V3 (V3.alloc (.cells #[] 35)) := (Keep.refl _ V3).alloc _
      have hlit := World.ownsRow_lit (base := V2.heap.size) (e := 35) (size := 3) V3 #[] 0 HKD2.out.size (by decide) rfl
      have HK2E := Lib.hid (HKD2.out.trans KE)
      obtain ⟨v4, V4, hr4, hown4, hk4⟩ := app_mbs0 (V3.alloc (.cells #[] 35)) 25 V2.heap.size (.slice (some ⟨V3.heap.size, 0, none⟩) 0 0) (.slice (some ⟨mb, mo, none⟩) k cm) [] (l.take k) hlit (HCK.out.kept HK2E.out) (by simp; omega) HK2E.out.size
      rw [List.nil_append] at hown4
      have HK24 : Hid (Keep (fun _ => False) V2 V4) := Lib.hid (HK2E.out.trans' hk4 (fun j e => .inr (hlit.lt j e).1))
      obtain ⟨v5, V5, hr5, hown5, hk5⟩ := app_mbs0 V4 25 V2.heap.size v4 (.slice ra (ln - (k + 1)) rcp) (l.take k) (l.drop (k + 1)) hown4 (HRK.out.kept HK24.out) (by rw [List.length_take, List.length_drop]; have := HLN.out; omega) HK24.out.size
      have HK25 : Hid (Keep (fun _ => False) V2 V5) := Lib.hid (HK24.out.trans' hk5 (fun j e => .inr (hown4.lt j e).1))
      have HFEW : Hid (Mbs V5 v5 (lessL l k)) := Lib.hid (mbs_owns hown5 (by rw [less_len (by rw [HLN.out]; exact hkl), HLN.out]; omega) HVF.out.bd)
      have HR4 := Lib.hid hr4
      have HR5 := Lib.hid hr5
      clear hr4 hr5 hown4 hown5 hk4 hk5 hlit KE
      refine walkW_do rfl (inKA.of HKD2.out) (fun K hK => ?_)
      go_simp
      refine hK _ _ ?_; clear hK K
      refine walkW_do rfl (inKA.of HK2E.out) (fun K hK => ?_)
      rw [if_pos (by first | rfl | simp [Region.wanted, yielded])]
      refine wp_app (.tmp 80) (.tmp 84) 25 rfl rfl rfl HR4.out (hK _ _ ?_); clear hK K
      refine walkW_do rfl (inKA.of HK24.out) (fun K hK => ?_)
      rw [if_pos (by first | rfl | simp [Region.wanted, yielded])]
      refine wp_app (.tmp 85) (.tmp 90) 25 rfl rfl rfl HR5.out (hK _ _ ?_); clear hK K
      refine walkW_do rfl (inKA.of HK25.out) (fun K hK => ?_)
      go_simp
      refine hK _ _ ?_; clear hK K
      refine ⟨inKA.of HK25.out, ?_⟩
      have HS5 := Lib.hid (HS2.out.kept HK25.out)
      have HIA5 := Lib.hid (HIA2.out.kept HK25.out)
      clear HR4 HR5 HKD2 HK2E HK24 HCK HRK HRA HMB2 hk1z hkcm hlcm hwk hk10
      go_wp2_with fail
      have hnew : Calls Tryz.prog 13 #[.int .i64 2, v5] V5 (GoodN 2 (lessL l k) (ownersL PN QS (lessL l k)) V5) := (new_ok 2 v5 (lessL l k) V5 HFEW.out HVF.out HS5.out.t (by decide)).mono (fun _ _ h => h.good HVF.out (by unfold I64; decide))
      have HFOK : Hid (okRing 2 (lessL l k) (ownersL PN QS (lessL l k))) := Lib.hid (ok_new PN QS HVF.out (by decide))
      obtain ⟨few, hfew⟩ : ∃ f, lessL l k = f := ⟨_, rfl⟩
      have HLM : Hid (∀ m, m ∈ few ↔ m ∈ l ∧ m ≠ x0) := Lib.hid (by rw [← hfew]; exact less_mem HV.out.asc HX0.out)
      rw [hfew] at hnew HFOK
      have HVF2 : Hid (VL few) := Lib.hid (by rw [← hfew]; exact HVF.out)
      clear HFEW HVF hfew
      generalize ownersL PN QS few = fow at *
      obtain ⟨fn, hfn⟩ : ∃ n, few.length = n := ⟨_, rfl⟩
      unfold GoodN at hnew
      rw [hfn] at hnew
      with_reducible refine hnew.mono ?_
      clear hnew hfn
      rintro e V6 ⟨fam, fcm, fao, fco, rfl, hrf, k6⟩
      have HRF := Lib.hid hrf
      have HS6 := Lib.hid (HS5.out.kept k6)
      have HIA6 := Lib.hid (HIA5.out.kept k6)
      clear hrf k6
      have HBF := Lib.hid (Box3.new V6 (.int .i64 2) (.slice fam fn fcm) (.slice fao 64 fco) 27)
      have HKB : Hid (Keep (fun _ => False) V6 (V6.alloc (.cells #[.int .i64 2, .slice fam fn fcm, .slice fao 64 fco] 27))) := Lib.hid ((Keep.refl _ V6).alloc _)
      have HS7 := Lib.hid (HS6.out.kept HKB.out)
      have HIA7 := Lib.hid (HIA6.out.kept HKB.out)
      have HRF7 := Lib.hid (HRF.out.kept HKB.out)
      clear HS6 HIA6 HRF HKB HS5 HIA5
      go_upto_region 16 with (fail)
      generalize V6.alloc (.cells #[.int .i64 2, .slice fam fn fcm, .slice fao 64 fco] 27) = V7 at *
      generalize V6.heap.size = zf at *
      obtain ⟨fo, hfo⟩ : ∃ fo, ownerOf fow ky = fo := ⟨_, rfl⟩
      have HFOW : Hid (∀ W, Keep (fun _ => False) V7 W → Calls Tryz.prog 49 #[.agg #[.int .i64 2, .slice fam fn fcm, .slice fao 64 fco], .string ky] W fun e w' => e = .returned (.int .i64 fo) ∧ Keep (fun _ => False) W w') := Lib.hid (fun W k => by
        have := owner_any _ 2 few fow W (HRF7.out.kept k) ky (by have := HKS0.out; omega) (HS7.out.t.kept k)
        rwa [hfo] at this)
      have HFCO : Hid (fo = o → ∀ W, Keep (fun _ => False) V7 W → Calls Tryz.prog 35 #[.agg #[.int .i64 2, .slice fam fn fcm, .slice fao 64 fco], .string ky, .int .i64 1] W (HoldPost W A)) := Lib.hid (fun e W k => by
        have h9 := copies_any _ 2 few fow ky 1 W (HRF7.out.kept k) HKS0.out (HS7.out.t.kept k)
        have h8 : holdV 2 few fow ky 1 = H := by
          unfold holdV
          rw [if_pos ((validRB_iff 2 few fow).2 HFOK.out), if_neg (by omega), hfo, e, show ((1 : Int)).toNat = 1 from rfl]
          have := hold_less (rk := rkOf ky) (o := o) HV.out.asc HVF2.out.asc HLM.out 1 (by rw [HHA.out.eq]; rw [HQ.out]; exact HQH.out) 1 (Nat.le_refl _)
          rw [this, HHA.out.eq]
        rwa [h8, HAE.out] at h9)
      clear hfo
      have y0 : ∀ p : KA (fun _ => False) V7, p.val.cell? ⟨zb, 0, none⟩ = some (.int .i64 1) := fun p => p.k.cell HS7.out.b.1 (fun h => h)
      have y1 : ∀ p : KA (fun _ => False) V7, p.val.cell? ⟨zb, 1, none⟩ = some (.slice (some ⟨mb, mo, none⟩) ln cm) := fun p => p.k.cell HS7.out.b.2.1 (fun h => h)
      have y2 : ∀ p : KA (fun _ => False) V7, p.val.cell? ⟨zb, 2, none⟩ = some (.slice ao 64 co) := fun p => p.k.cell HS7.out.b.2.2.1 (fun h => h)
      have u0 : ∀ p : KA (fun _ => False) V7, p.val.cell? ⟨zf, 0, none⟩ = some (.int .i64 2) := fun p => p.k.cell HBF.out.1 (fun h => h)
      have u1 : ∀ p : KA (fun _ => False) V7, p.val.cell? ⟨zf, 1, none⟩ = some (.slice fam fn fcm) := fun p => p.k.cell HBF.out.2.1 (fun h => h)
      have u2 : ∀ p : KA (fun _ => False) V7, p.val.cell? ⟨zf, 2, none⟩ = some (.slice fao 64 fco) := fun p => p.k.cell HBF.out.2.2.1 (fun h => h)
      refine wp_region_walk [(true, 0), (true, 1), (true, 3), (true, 4), (false, 2), (false, 5), (false, 6)] (inKA (fun _ => False) V7) (by kernel_rfl) (by kernel_rfl) ?_
      iterate 4 (refine walkW_read rfl (fun K hK => ?_); go_simp; refine hK _ ?_; clear hK K)
      clear y0 y1 y2 u0 u1 u2
      have HKD8 : Hid (Keep (fun _ => False) V7 V7.drew) := Lib.hid (Keep.refl _ V7).drew
      refine walkW_do rfl (inKA.of HKD8.out) (fun K hK => ?_)
      go_simp
      refine (HFOW.out _ HKD8.out).mono ?_
      rintro e V8 ⟨rfl, k8⟩
      have HK8 := Lib.hid (HKD8.out.trans k8)
      clear k8
      refine hK _ _ ?_; clear hK K
      refine walkW_do rfl (inKA.of HK8.out) (fun K hK => ?_)
      go_simp
      refine (HOWN.out _ (HS7.out.kept HK8.out)).mono ?_
      rintro e V9 ⟨rfl, k9⟩
      have HK9 := Lib.hid (HK8.out.trans k9)
      clear k9
      refine hK _ _ ?_; clear hK K
      obtain ⟨bq, hbq⟩ : ∃ b, (fo != o) = b := ⟨_, rfl⟩
      have HBQ := Lib.hid hbq
      refine walkW_do rfl (inKA.of HK9.out) (fun K hK => ?_)
      go_simp
      refine hK _ _ ?_; clear hK K
      refine ⟨inKA.of HK9.out, ?_⟩
      have HS9 := Lib.hid (HS7.out.kept HK9.out)
      have HIA9 := Lib.hid (HIA7.out.kept HK9.out)
      have HBF9 := Lib.hid (HBF.out.kept HK9.out)
      clear HKD8 HK8
      cases bq with
      | true =>
        have HKF := Lib.hid HS9.out.k
        clear hbq
        go_wp2_with fail
        go_ret
        exact ⟨rfl, HKF.out⟩
      | false =>
        have HFE : Hid (fo = o) := Lib.hid (by have := HBQ.out; simpa using this)
        clear hbq
        obtain ⟨u0, u1, u2, uf⟩ := HBF9.out
        go_wp2_with fail
        clear u0 u1 u2 uf
        with_reducible refine (HFCO.out HFE.out V9 HK9.out).mono ?_
        rintro e VA ⟨vca, rfl, hica, kA⟩
        have HICA := Lib.hid hica
        have HIAA := Lib.hid (HIA9.out.kept kA)
        have HSA := Lib.hid (HS9.out.kept kA)
        clear hica kA
        go_wp2_with fail
        have hc := sameInts_any _ _ A A VA HICA.out HIAA.out
        rw [show decide (A = A) = true from decide_eq_true rfl] at hc
        with_reducible refine hc.mono ?_
        clear hc
        rintro e VB ⟨rfl, kB⟩
        have HKB := Lib.hid (HSA.out.k.trans kB)
        clear kB
        go_wp2_with fail
        go_ret
        exact ⟨rfl, HKB.out⟩
end Go.Proofs.YtplkmbfeeegaiaaGreatDoor
