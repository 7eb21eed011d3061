/-
  ValidRecord of package row.
-/
import Derived.Test.YtmndjicaofciiaaGreatDoorH6
namespace Go.Proofs.YtmndjicaofciiaaGreatDoor
open Go.RowKit Go.Shelf

abbrev recV (p : Int) (v : Value) : Value := .agg #[.int .i64 p, v]
theorem ascC_false {t k : Int} {c : Chg} {l : List Chg} (h : okCh c = false ∨ c.tb < t ∨ (c.tb = t ∧ c.ky ≤ k)) : ascC t k (c :: l) = false := by
  unfold ascC
  rcases h with h | h | ⟨h1, h2⟩
  · rw [h]; rfl
  · rw [decide_eq_true h]; simp
  · subst h1
    rw [decide_eq_true h2]; simp
theorem ascC_true {t k : Int} {c : Chg} {l : List Chg} (h : okCh c = true) (h1 : ¬ c.tb < t) (h2 : ¬ (c.tb = t ∧ c.ky ≤ k)) : ascC t k (c :: l) = ascC c.tb c.ky l := by
  rw [ascC, h, decide_eq_false h1]
  have : (c.tb == t && decide (c.ky ≤ k)) = false := by
    cases e : (c.tb == t && decide (c.ky ≤ k)) with
    | false => rfl
    | true =>
      simp only [Bool.and_eq_true, beq_iff_eq, decide_eq_true_eq] at e
      exact absurd e h2
  rw [this]
  rfl
theorem Chs.at_slice {W : World} {a : Option Addr} {n c : Nat} {l : List Chg} (h : Chs W (.slice a n c) l) {i : Nat} {ch : Chg} (hi : l[i]? = some ch) :
    ∃ b off, a = some ⟨b, off, none⟩ ∧ ∀ j x, (chC ch)[j]? = some x → W.cell? ⟨b, off + i * 10 + j, none⟩ = some x := by
  obtain ⟨hn, hf, a', c', b, off, hv, hc, ha, h1⟩ := h
  injection hv with e1 e2 e3
  subst e1 e2 e3
  exact ⟨b, off, ha (by have := (List.getElem?_eq_some_iff.1 hi).1; omega), fun j x hj => h1 i ch hi j x hj⟩
def zeroC : Chg := ⟨-1, 0, false, 0, 0, 0, false, 0, 0, 0⟩
set_option maxRecDepth 100000 in
set_option maxHeartbeats 4000000 in
theorem validRec_any (p : Int) (v : Value) (l : List Chg) (w : World) (h : Chs w v l) (hp : I64 p) : Calls Tryz.prog 46 #[recV p v] w fun e w' => e = .returned (.bool (okRec p l)) ∧ Keep (fun _ => False) w w' := by
  have K0 := keep_cells w #[.int .i64 p, v] 55
  have HB0 := Lib.hid (BoxL.new w [.int .i64 p, v] 55)
  have HC0 := Lib.hid (h.kept K0)
  have HK0 := Lib.hid K0
  have HP := Lib.hid hp
  have HO : Hid (okRec p l = (wiB 1 10000 [p] && (wiB 1 8 [(l.length : Int)] && ascC (-1) 0 l))) := Lib.hid rfl
  obtain ⟨ln, hln⟩ : ∃ n, l.length = n := ⟨_, rfl⟩
  have HLN := Lib.hid hln
  have hn := h.n
  obtain ⟨a, cp, bb, off, hv, hcp, ha, -⟩ := h.at_
  rw [hln] at HO hv hcp ha hn
  have HA := Lib.hid ha
  subst hv
  clear h hp hln ha K0
  go_enter Tryz.func46, Tryz.ntmps46
  go_upto_region 1 with (fail)
  generalize w.alloc (.cells #[.int .i64 p, .slice a ln cp] 55) = W0 at *
  generalize w.heap.size = z at *
  have c0 := HB0.out.cell 0 _ rfl
  have I1 := Lib.hid (its_one W0 p 3 HP.out)
  have KA1 := Lib.hid (HK0.out.alloc (.cells #[.int .i64 p] 3))
  have HB1 := Lib.hid (HB0.out.kept (keep_cells W0 #[.int .i64 p] 3))
  have HC1 := Lib.hid (HC0.out.kept (keep_cells W0 #[.int .i64 p] 3))
  go_wp2_with fail
  with_reducible refine (rwithin_any 1 10000 _ [p] _ I1.out).mono ?_
  rintro e W1 ⟨rfl, k1⟩
  have HK1 := Lib.hid (KA1.out.trans k1)
  have HB2 := Lib.hid (HB1.out.kept k1)
  have HC2 := Lib.hid (HC1.out.kept k1)
  clear k1 I1 KA1 HB1 HC1 c0
  cases h1 : wiB 1 10000 [p] with
  | false =>
    rw [h1] at HO
    go_wp2_with fail
    go_ret
    exact ⟨by rw [HO.out]; rfl, HK1.out⟩
  | true =>
    rw [h1] at HO
    have c1 := HB2.out.cell 1 _ rfl
    have I1 := Lib.hid (its_one W1 (ln : Int) 3 (by unfold I64; omega))
    have KA1 := Lib.hid (HK1.out.alloc (.cells #[.int .i64 (ln : Int)] 3))
    have HB1 := Lib.hid (HB2.out.kept (keep_cells W1 #[.int .i64 (ln : Int)] 3))
    have HC1 := Lib.hid (HC2.out.kept (keep_cells W1 #[.int .i64 (ln : Int)] 3))
    go_wp2_with fail
    with_reducible refine (rwithin_any 1 8 _ [(ln : Int)] _ I1.out).mono ?_
    rintro e W2 ⟨rfl, k1⟩
    have HK2 := Lib.hid (KA1.out.trans k1)
    have HB3 := Lib.hid (HB1.out.kept k1)
    have HC3 := Lib.hid (HC1.out.kept k1)
    clear k1 I1 KA1 HB1 HC1 c1
    cases h2 : wiB 1 8 [(ln : Int)] with
    | false =>
      rw [h2] at HO
      go_wp2_with fail
      go_ret
      exact ⟨by rw [HO.out]; rfl, HK2.out⟩
    | true =>
      rw [h2] at HO
      go_upto_region 4 with (fail)
      have HL3 := Lib.hid (BoxL.new W2 (chC zeroC) 51)
      have HK3 := Lib.hid (HK2.out.alloc (.cells (chC zeroC).toArray 51))
      have HB4 := Lib.hid (HB3.out.kept (keep_cells W2 (chC zeroC).toArray 51))
      have HC4 := Lib.hid (HC3.out.kept (keep_cells W2 (chC zeroC).toArray 51))
      have HK24 := Lib.hid (keep_cells W2 (chC zeroC).toArray 51)
      clear HB3
      have e1 : W2.alloc (.cells #[.int .i64 (-1), .int .i64 0, .bool false, .int .i64 0, .int .i64 0, .int .i64 0, .bool false, .int .i64 0, .int .i64 0, .int .i64 0] 51) = W2.alloc (.cells (chC zeroC).toArray 51) := rfl
      rw [e1]
      clear e1
      generalize W2.alloc (.cells (chC zeroC).toArray 51) = W4 at *
      obtain ⟨zl, hzl⟩ : ∃ z, W2.heap.size = z := ⟨_, rfl⟩
      have HZ := Lib.hid hzl
      rw [hzl] at HL3 ⊢
      clear hzl
      have c1 := HB4.out.cell 1 _ rfl
      go_wp2_with fail
      clear c1
      go_loopg [23] ln (fun gh v wr => ∃ (k : Nat) (lt lk : Int) (u2 u3 u4 u5 u6 u7 u8 u9 : Value), gh + k = ln ∧ v = .int .i64 k ∧ BoxL wr zl [.int .i64 lt, .int .i64 lk, u2, u3, u4, u5, u6, u7, u8, u9] ∧ Keep (fun _ => False) W2 wr ∧ Hid (ascC (-1) 0 l = ascC lt lk (l.drop k)))
      case atStart => exact ⟨0, -1, 0, _, _, _, _, _, _, _, _, by omega, rfl, HL3.out, HK24.out, Lib.hid rfl⟩
      case round =>
        obtain ⟨k, lt, lk, u2, u3, u4, u5, u6, u7, u8, u9, hk, rfl, hb, hkw, HE⟩ := hrel
        have HBL := Lib.hid hb
        have HKW := Lib.hid hkw
        clear hb hkw
        by_cases hlt : k < ln
        · obtain ⟨ch, hch⟩ : ∃ x, l[k]? = some x := ⟨_, List.getElem?_eq_getElem (by have := HLN.out; omega)⟩
          obtain ⟨b, off, hab, hcell⟩ := (HC3.out.kept HKW.out).at_slice hch
          subst hab
          have HV := Lib.hid (validCh_any ch (HC3.out.fine ch (List.mem_of_getElem? hch)))
          have HB5 := Lib.hid (BoxL.new wr (chC ch) 51)
          have HL5 := Lib.hid (HBL.out.kept (keep_cells wr (chC ch).toArray 51))
          have HK5 := Lib.hid (HKW.out.alloc (.cells (chC ch).toArray 51))
          have HDR : Hid (ascC (-1) 0 l = ascC lt lk (ch :: l.drop (k + 1))) := Lib.hid (by
            rw [HE.out, List.drop_eq_getElem_cons (by have := HLN.out; omega)]
            rw [List.getElem?_eq_getElem (by have := HLN.out; omega)] at hch
            cases hch
            rfl)
          have HQ : Hid (okCh ch = okCh ch) := Lib.hid rfl
          obtain ⟨ok, hok⟩ : ∃ o, okCh ch = o := ⟨_, rfl⟩
          have HOK := Lib.hid hok
          rw [hok] at HV
          clear hok HQ hch
          obtain ⟨tb, ky, had, o0, o1, o2, has, n0, n1, n2⟩ := ch
          have d0 := hcell 0 _ rfl
          have d1 := hcell 1 _ rfl
          have d2 := hcell 2 _ rfl
          have d3 := hcell 3 _ rfl
          have d4 := hcell 4 _ rfl
          have d5 := hcell 5 _ rfl
          have d6 := hcell 6 _ rfl
          have d7 := hcell 7 _ rfl
          have d8 := hcell 8 _ rfl
          have d9 := hcell 9 _ rfl
          rw [Nat.add_zero] at d0
          simp only [] at d0 d1 d2 d3 d4 d5 d6 d7 d8 d9
          clear hcell
          have hkz : (k : Int) < (ln : Int) := by omega
          have hk0 : (0 : Int) ≤ (k : Int) := by omega
          go_upto_region 7 with (fail)
          clear d0 d1 d2 d3 d4 d5 d6 d7 d8 d9
          have e1 : wr.alloc (.cells #[.int .i64 tb, .int .i64 ky, .bool had, .int .i64 o0, .int .i64 o1, .int .i64 o2, .bool has, .int .i64 n0, .int .i64 n1, .int .i64 n2] 51) = wr.alloc (.cells (chC ⟨tb, ky, had, o0, o1, o2, has, n0, n1, n2⟩).toArray 51) := rfl
          rw [e1]
          clear e1
          generalize wr.alloc (.cells (chC ⟨tb, ky, had, o0, o1, o2, has, n0, n1, n2⟩).toArray 51) = W5 at *
          generalize wr.heap.size = zc at *
          obtain ⟨c0, c1, c2, c3, c4, c5, c6, c7, c8, c9⟩ := HB5.out.chg
          simp only [] at c0 c1 c2 c3 c4 c5 c6 c7 c8 c9
          go_wp2_with fail
          clear c0 c1 c2 c3 c4 c5 c6 c7 c8 c9
          with_reducible refine (HV.out W5).mono ?_
          rintro e W6 ⟨rfl, k6⟩
          have HB6 := Lib.hid (HB5.out.kept k6)
          have HL6 := Lib.hid (HL5.out.kept k6)
          have HK6 := Lib.hid (HK5.out.trans k6)
          clear k6 HV HL5 HB5 HK5
          cases ok with
          | false =>
            have HF : Hid (okRec p l = false) := Lib.hid (by rw [HO.out, HDR.out, ascC_false (.inl HOK.out)]; rfl)
            go_wp2_with fail
            go_ret
            exact ⟨by rw [HF.out]; rfl, HK2.out.trans HK6.out⟩
          | true =>
            obtain ⟨c0, c1, c2, c3, c4, c5, c6, c7, c8, c9⟩ := HB6.out.chg
            simp only [] at c0 c1 c2 c3 c4 c5 c6 c7 c8 c9
            have l0 := HL6.out.cell 0 _ rfl
            have l1 := HL6.out.cell 1 _ rfl
            have l2 := HL6.out.cell 2 _ rfl
            have l3 := HL6.out.cell 3 _ rfl
            have l4 := HL6.out.cell 4 _ rfl
            have l5 := HL6.out.cell 5 _ rfl
            have l6 := HL6.out.cell 6 _ rfl
            have l7 := HL6.out.cell 7 _ rfl
            have l8 := HL6.out.cell 8 _ rfl
            have l9 := HL6.out.cell 9 _ rfl
            by_cases h1 : tb < lt
            · have HF : Hid (okRec p l = false) := Lib.hid (by rw [HO.out, HDR.out, ascC_false (.inr (.inl h1))]; rfl)
              go_wp2_with fail
              go_ret
              exact ⟨by rw [HF.out]; rfl, HK2.out.trans HK6.out⟩
            · by_cases h2 : tb = lt
              · have hb2 : (tb == lt) = true := by simpa using h2
                by_cases h3 : ky ≤ lk
                · have HF : Hid (okRec p l = false) := Lib.hid (by rw [HO.out, HDR.out, ascC_false (.inr (.inr ⟨h2, h3⟩))]; rfl)
                  clear h2
                  go_wp2_with fail
                  go_ret
                  exact ⟨by rw [HF.out]; rfl, HK2.out.trans HK6.out⟩
                · have HF : Hid (ascC (-1) 0 l = ascC tb ky (l.drop (k + 1))) := Lib.hid (by rw [HDR.out, ascC_true HOK.out h1 (fun h => h3 h.2)])
                  have fz := HL6.out.soft
                  clear h2
                  go_wp2_with fail
                  obtain ⟨W7, hW, hb, hkz⟩ := HL6.out.put10 ⟨tb, ky, had, o0, o1, o2, has, n0, n1, n2⟩
                  simp only [] at hW
                  rw [hW]
                  go_roundg (gk - 1)
                  case rel => exact ⟨k + 1, tb, ky, _, _, _, _, _, _, _, _, by omega, by go_num, hb, keep0 HK6.out (by have := HZ.out; omega) hkz, HF⟩
                  case measure => omega
              · have hb2 : (tb == lt) = false := by simpa using h2
                have HF : Hid (ascC (-1) 0 l = ascC tb ky (l.drop (k + 1))) := Lib.hid (by rw [HDR.out, ascC_true HOK.out h1 (fun h => h2 h.1)])
                have fz := HL6.out.soft
                clear h2
                go_wp2_with fail
                obtain ⟨W7, hW, hb, hkz⟩ := HL6.out.put10 ⟨tb, ky, had, o0, o1, o2, has, n0, n1, n2⟩
                simp only [] at hW
                rw [hW]
                go_roundg (gk - 1)
                case rel => exact ⟨k + 1, tb, ky, _, _, _, _, _, _, _, _, by omega, by go_num, hb, keep0 HK6.out (by have := HZ.out; omega) hkz, HF⟩
                case measure => omega
        · have HF : Hid (okRec p l = true) := Lib.hid (by
            rw [HO.out, HE.out, List.drop_eq_nil_of_le (by have := HLN.out; omega)]; rfl)
          have hkz : ¬ (k : Int) < (ln : Int) := by omega
          go_wp2_with fail
          go_ret
          exact ⟨by rw [HF.out]; rfl, HK2.out.trans HKW.out⟩
end Go.Proofs.YtmndjicaofciiaaGreatDoor
