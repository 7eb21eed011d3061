/-
  The reference's Load, Slot, Owner, ValidRing, Same.
-/
import Derived.Test.YtplkmbfeeegaiaaDoorR3
namespace Go.Proofs.YtplkmbfeeegaiaaDoor
open Go.RowKit Go.Shelf

set_option maxRecDepth 100000 in
set_option maxHeartbeats 1000000 in
theorem refLoad_any (v : Value) (ep : Int) (l : List Mb) (ow : List Int) (w : World) (h : Rng w v ep l ow) (q : Int) : Calls Tryd.prog 30 #[v, .int .i64 q] w fun e w' => e = .returned (.int .i64 (cnt ow q)) ∧ Keep (fun _ => False) w w' := by
  obtain ⟨-, vm, vo, rfl, -, hi⟩ := h
  obtain ⟨hn, -, a, c, b, off, rfl, hc, ha, hcell⟩ := hi
  have HC := Lib.hid hcell
  have HA := Lib.hid ha
  clear hcell ha
  obtain ⟨n, hn'⟩ : ∃ n, ow.length = n := ⟨_, rfl⟩
  have HL := Lib.hid hn'
  rw [hn'] at hn hc ⊢
  clear hn'
  have HK0 : Hid (Keep (fun _ => False) w (w.alloc (.cells #[.int .i64 ep, vm, .slice a n c] 31))) := Lib.hid ((Keep.refl _ w).alloc _)
  have HT3 := Lib.hid (three_cell w (.int .i64 ep) vm (.slice a n c) 31)
  go_enter Tryd.func30, Tryd.ntmps30
  go_wp2_with fail
  generalize w.alloc (.cells #[.int .i64 ep, vm, .slice a n c] 31) = W0 at *
  generalize w.heap.size = z at *
  have d2 : W0.cell? ⟨z, 2, none⟩ = some (.slice a n c) := HT3.out.2.2.1
  go_loopg [5, 6] n (fun gh v5 v wr => ∃ k : Nat, gh + k = n ∧ v = .int .i64 k ∧ v5 = .int .i64 (cnt (ow.take k) q) ∧ wr = W0)
  case atStart => exact ⟨0, by omega, rfl, by simp [cnt], rfl⟩
  case round =>
    obtain ⟨k, hk, rfl, rfl, rfl⟩ := hrel
    by_cases hlt : k < n
    · obtain ⟨x, hx⟩ : ∃ x, ow[k]? = some x := ⟨_, List.getElem?_eq_getElem (by have := HL.out; omega)⟩
      obtain rfl := HA.out (by have := HL.out; omega)
      have c1 := HK0.out.cell (HC.out k x hx) (fun h => h)
      have HS := Lib.hid (cnt_take_succ hx q)
      have hb0 := cnt_nn (ow.take k) q
      have hb1 : cnt (ow.take k) q ≤ k := by
        unfold cnt
        have := List.count_le_length (a := q) (l := ow.take k)
        rw [List.length_take] at this
        omega
      have hkz : (k : Int) < (n : Int) := by omega
      have hk0 : (0 : Int) ≤ (k : Int) := by omega
      clear hx
      generalize cnt (ow.take k) q = s0 at *
      by_cases hxq : x = q
      · subst hxq
        have hbe : (x == x) = true := by simp
        go_wp2_with fail
        go_roundg (gk - 1)
        case rel => exact ⟨k + 1, by omega, by go_num, by rw [HS.out]; simp, rfl⟩
        case measure => omega
      · have hbe : (x == q) = false := by simpa using hxq
        have HN := Lib.hid hxq
        clear hxq
        go_wp2_with fail
        go_roundg (gk - 1)
        case rel => exact ⟨k + 1, by omega, by go_num, by rw [HS.out, if_neg (fun e => HN.out e.symm), Int.add_zero], rfl⟩
        case measure => omega
    · have HE : Hid (cnt (ow.take k) q = cnt ow q) := Lib.hid (by rw [List.take_of_length_le (by have := HL.out; omega)])
      rw [HE.out]
      go_wp2_with fail
      go_ret
      exact ⟨rfl, HK0.out⟩

set_option maxRecDepth 100000 in
theorem refSlot_any (s : ByteArray) (hs : s.size ≤ 1000000) (w : World) : Calls Tryd.prog 35 #[.string s] w fun e w' => e = .returned (.int .i64 (slotOf s : Nat)) ∧ w = w' := by
  have HS := Lib.hid (refPoint_any s hs w)
  have hl := pt_lt s
  have HZ : Hid ((slotOf s : Int) = (pt s : Int) % 64) := Lib.hid (by unfold slotOf; omega)
  generalize slotOf s = z at *
  generalize pt s = p at *
  go_enter Tryd.func35, Tryd.ntmps35
  go_wp2_with fail
  with_reducible refine HS.out.mono ?_
  rintro e w' ⟨rfl, rfl⟩
  go_wp2_with fail
  go_ret
  exact ⟨by rw [HZ.out] <;> rfl, rfl⟩
set_option maxRecDepth 100000 in
set_option maxHeartbeats 1000000 in
theorem refOwner_any (v : Value) (ep : Int) (l : List Mb) (ow : List Int) (w : World) (h : Rng w v ep l ow) (key : ByteArray) (hk : key.size ≤ 1000000) : Calls Tryd.prog 28 #[v, .string key] w fun e w' => e = .returned (.int .i64 (ownerOf ow key)) ∧ Keep (fun _ => False) w w' := by
  obtain ⟨-, vm, vo, rfl, -, hi⟩ := h
  obtain ⟨hn, -, a, c, b, off, rfl, hc, ha, hcell⟩ := hi
  have HC := Lib.hid hcell
  have HA := Lib.hid ha
  have HK0 : Hid (Keep (fun _ => False) w (w.alloc (.cells #[.int .i64 ep, vm, .slice a ow.length c] 31))) := Lib.hid ((Keep.refl _ w).alloc _)
  have HT3 := Lib.hid (three_cell w (.int .i64 ep) vm (.slice a ow.length c) 31)
  have HS : Hid (∀ W, Calls Tryd.prog 35 #[.string key] W fun e w' => e = .returned (.int .i64 (slotOf key : Nat)) ∧ W = w') := Lib.hid (fun W => refSlot_any key hk W)
  have hsl := slotOf_lt key
  clear hcell ha
  by_cases h64 : ow.length = 64
  · have HO : Hid (ownerOf ow key = ow.getD (slotOf key) 0) := Lib.hid (by unfold ownerOf; rw [if_pos h64])
    obtain ⟨x, hx⟩ : ∃ x, ow[slotOf key]? = some x := ⟨_, List.getElem?_eq_getElem (by omega)⟩
    have HX : Hid (ownerOf ow key = x) := Lib.hid (by rw [HO.out, List.getD_eq_getElem?_getD, hx]; rfl)
    obtain rfl := HA.out (by omega)
    have HCX := Lib.hid (HC.out _ x hx)
    rw [h64] at hn hc HK0 HT3 ⊢
    clear hx h64
    generalize slotOf key = sl at *
    go_enter Tryd.func28, Tryd.ntmps28
    go_wp2_with fail
    generalize w.alloc (.cells #[.int .i64 ep, vm, .slice (some ⟨b, off, none⟩) 64 c] 31) = W0 at *
    generalize w.heap.size = z at *
    have d2 : W0.cell? ⟨z, 2, none⟩ = some (.slice (some ⟨b, off, none⟩) 64 c) := HT3.out.2.2.1
    have dx : W0.cell? ⟨b, off + sl, none⟩ = some (.int .i64 x) := HK0.out.cell HCX.out (fun h => h)
    have hs0 : (0 : Int) ≤ (sl : Int) := by omega
    have hs1 : (sl : Int) < 64 := by omega
    go_quiet ((go_at_call 35; exact quiet_same (HS.out _)))
    go_wp2_with fail
    go_ret
    exact ⟨by rw [HX.out] <;> rfl, HK0.out.drewN _⟩
  · have HO : Hid (ownerOf ow key = -1) := Lib.hid (by unfold ownerOf; rw [if_neg h64])
    obtain ⟨n, hn'⟩ : ∃ n, ow.length = n := ⟨_, rfl⟩
    rw [hn'] at hn hc h64 HK0 ⊢
    have hne : ((n : Int) != 64) = true := by simp; omega
    clear hn' h64 HT3
    go_enter Tryd.func28, Tryd.ntmps28
    go_wp2_with fail
    go_ret
    exact ⟨by rw [HO.out] <;> rfl, HK0.out⟩

set_option maxRecDepth 100000 in
set_option maxHeartbeats 4000000 in
theorem refSame_any (va vb : Value) (ep ep' : Int) (l l' : List Mb) (ow ow' : List Int) (w : World) (ha : Rng w va ep l ow) (hb : Rng w vb ep' l' ow') : Calls Tryd.prog 24 #[va, vb] w fun e w' => e = .returned (.bool (decide (ep = ep') && (decide (l = l') && decide (ow = ow')))) ∧ Keep (fun _ => False) w w' := by
  obtain ⟨-, vm, vo, rfl, hm, ho⟩ := ha
  obtain ⟨-, vm', vo', rfl, hm', ho'⟩ := hb
  obtain ⟨oa, on, oc, rfl⟩ : ∃ a n c, vo = .slice a n c := by
    obtain ⟨a', c', b', off', h2, _⟩ := ho.at_
    exact ⟨_, _, _, h2⟩
  obtain ⟨oa', on', oc', rfl⟩ : ∃ a n c, vo' = .slice a n c := by
    obtain ⟨a', c', b', off', h2, _⟩ := ho'.at_
    exact ⟨_, _, _, h2⟩
  have HEI : Hid (∀ W, Keep (fun _ => False) w W → Calls Tryd.prog 23 #[.slice oa on oc, .slice oa' on' oc'] W fun e w' => e = .returned (.bool (decide (ow = ow'))) ∧ Keep (fun _ => False) W w') := Lib.hid (fun W k => sameInts_any _ _ ow ow' W (ho.kept k) (ho'.kept k))
  clear ho ho'
  obtain ⟨hn1, -, ma, mc, b, off, rfl, hc, ha, hcell⟩ := hm
  obtain ⟨hn2, -, ma', mc', b', off', rfl, hc', ha', hcell'⟩ := hm'
  have HCA := Lib.hid hcell
  have HCB := Lib.hid hcell'
  have HAA := Lib.hid ha
  have HAB := Lib.hid ha'
  clear hcell hcell' ha ha'
  obtain ⟨mn, hmn⟩ : ∃ n, l.length = n := ⟨_, rfl⟩
  obtain ⟨mn', hmn'⟩ : ∃ n, l'.length = n := ⟨_, rfl⟩
  have HLA := Lib.hid hmn
  have HLB := Lib.hid hmn'
  rw [hmn] at hn1 hc ⊢
  rw [hmn'] at hn2 hc' ⊢
  clear hmn hmn'
  have t1 := three_cell w (.int .i64 ep) (.slice ma mn mc) (.slice oa on oc) 31
  have t2 := three_cell (w.alloc (.cells #[.int .i64 ep, .slice ma mn mc, .slice oa on oc] 31)) (.int .i64 ep') (.slice ma' mn' mc') (.slice oa' on' oc') 31
  have k1 : Keep (fun _ => False) w (w.alloc (.cells #[.int .i64 ep, .slice ma mn mc, .slice oa on oc] 31)) := (Keep.refl _ w).alloc _
  have k2 : Keep (fun _ => False) (w.alloc (.cells #[.int .i64 ep, .slice ma mn mc, .slice oa on oc] 31)) ((w.alloc (.cells #[.int .i64 ep, .slice ma mn mc, .slice oa on oc] 31)).alloc (.cells #[.int .i64 ep', .slice ma' mn' mc', .slice oa' on' oc'] 31)) := (Keep.refl _ _).alloc _
  have HX := Lib.hid (And.intro (k2.cell t1.1 (fun h => h)) (And.intro (k2.cell t1.2.1 (fun h => h)) (k2.cell t1.2.2.1 (fun h => h))))
  rw [World.size_alloc] at t2
  have HY := Lib.hid t2
  have HK := Lib.hid (k1.trans k2)
  clear t1 t2 k1 k2
  go_enter Tryd.func24, Tryd.ntmps24
  by_cases he : ep = ep'
  · have hbe : (ep != ep') = false := by simpa using he
    have HE := Lib.hid (decide_eq_true he)
    clear he
    by_cases hl : mn = mn'
    · subst hl
      have hble : ((mn : Int) != (mn : Int)) = false := by simp
      go_wp2_with fail
      generalize (w.alloc (.cells #[.int .i64 ep, .slice ma mn mc, .slice oa on oc] 31)).alloc (.cells #[.int .i64 ep', .slice ma' mn mc', .slice oa' on' oc'] 31) = W1 at *
      generalize w.heap.size = z at *
      with_reducible refine (HEI.out _ HK.out).mono ?_
      rintro e W2 ⟨rfl, k2⟩
      have HK2 := Lib.hid (HK.out.trans k2)
      have x1 := k2.cell HX.out.2.1 (fun h => h)
      have y1 := k2.cell HY.out.2.1 (fun h => h)
      clear k2
      cases ho : decide (ow = ow') with
      | true =>
        have HO := Lib.hid ho
        clear ho
        go_wp2_with fail
        go_loopg [5] (mn) (fun gh i wr => ∃ (k m : Nat), gh + k = mn ∧ i = .int .i64 k ∧ wr = W2.drewN m ∧ Hid (l.take k = l'.take k))
        case atStart => exact ⟨0, 0, Nat.add_zero _, rfl, rfl, rfl⟩
        case round =>
          obtain ⟨k, m, hk, rfl, rfl, HE2⟩ := hrel
          by_cases hlt : k < mn
          · have hkx : k < l.length := by rw [HLA.out]; exact hlt
            have hky : k < l'.length := by rw [HLB.out]; exact hlt
            obtain rfl := HAA.out (by omega)
            obtain rfl := HAB.out (by omega)
            have t1 : l.take (k + 1) = l.take k ++ [l[k]] := by rw [List.take_add_one, List.getElem?_eq_getElem hkx]; rfl
            have t2 : l'.take (k + 1) = l'.take k ++ [l'[k]] := by rw [List.take_add_one, List.getElem?_eq_getElem hky]; rfl
            have hb0 : (0 : Int) ≤ (k : Int) := by omega
            have hb1 : (k : Int) < (mn : Int) := by omega
            obtain ⟨qa0, qa1, qa2⟩ := HCA.out k _ (List.getElem?_eq_getElem hkx)
            obtain ⟨qb0, qb1, qb2⟩ := HCB.out k _ (List.getElem?_eq_getElem hky)
            have ca0 := HK2.out.cell qa0 (fun h => h)
            have ca1 := HK2.out.cell qa1 (fun h => h)
            have ca2 := HK2.out.cell qa2 (fun h => h)
            have cb0 := HK2.out.cell qb0 (fun h => h)
            have cb1 := HK2.out.cell qb1 (fun h => h)
            have cb2 := HK2.out.cell qb2 (fun h => h)
            clear qa0 qa1 qa2 qb0 qb1 qb2
            have hgd : Tryd.prog.eqGuardType Tryd.prog.depth 25 = false := by kernel_rfl
            -- the elements
            by_cases hst : l[k] = l'[k]
            · have HT : Hid (l.take (k + 1) = l'.take (k + 1)) := by
                show _ = _
                rw [t1, t2, HE2.out, hst]
              rw [← hst] at cb0 cb1 cb2
              clear t1 t2 hst
              generalize l[k] = x at *
              clear hkx hky
              obtain ⟨m0, m1, m2⟩ := x
              simp only [] at ca0 ca1 ca2 cb0 cb1 cb2
              go_wp2_with fail
              go_quiet (fail)
              go_wp2_with fail
              go_roundg (gk - 1)
              case rel => exact ⟨k + 1, _, by omega, by go_num, by first | rfl | exact World.drewN_drewN _ _ _, HT⟩
              case measure => omega
            · have HT : Hid (decide (l = l') = false) := Lib.hid (by
                rw [decide_eq_false_iff_not]
                intro e
                subst e
                exact hst rfl)
              generalize l[k] = x at *
              generalize l'[k] = y at *
              obtain ⟨m0, m1, m2⟩ := x
              obtain ⟨n0, n1, n2⟩ := y
              simp only [] at ca0 ca1 ca2 cb0 cb1 cb2
              have hst' : ¬ (m0 = n0 ∧ m1 = n1 ∧ m2 = n2) := fun ⟨a, b, c⟩ => hst (by rw [a, b, c])
              clear hkx hky t1 t2 hst
              by_cases q1 : m0 = n0
              · by_cases q2 : m1 = n1
                · have q3 : ¬ m2 = n2 := fun h => hst' ⟨q1, q2, h⟩
                  clear hst'
                  go_wp2_with fail
                  go_quiet (fail)
                  go_wp2_with fail
                  go_ret
                  exact ⟨by rw [HE.out, HT.out] <;> rfl, (HK2.out.drewN _).drewN _⟩
                · clear hst'
                  go_wp2_with fail
                  go_quiet (fail)
                  go_wp2_with fail
                  go_ret
                  exact ⟨by rw [HE.out, HT.out] <;> rfl, (HK2.out.drewN _).drewN _⟩
              · clear hst'
                go_wp2_with fail
                go_quiet (fail)
                go_wp2_with fail
                go_ret
                exact ⟨by rw [HE.out, HT.out] <;> rfl, (HK2.out.drewN _).drewN _⟩
          · have HT : Hid (decide (l = l') = true) := by
              show _ = _
              rw [decide_eq_true_eq]
              have h1 := HE2.out
              rw [List.take_of_length_le (by have := HLA.out; omega), List.take_of_length_le (by have := HLB.out; omega)] at h1
              exact h1
            go_wp2_with fail
            go_ret
            exact ⟨by rw [HE.out, HT.out, HO.out] <;> rfl, HK2.out.drewN _⟩
      | false =>
        have HO := Lib.hid ho
        clear ho
        go_wp2_with fail
        go_ret
        exact ⟨by rw [HO.out, Bool.and_false, Bool.and_false] <;> rfl, HK2.out⟩
    · have hble : ((mn : Int) != (mn' : Int)) = true := by simp; omega
      have HT : Hid (decide (l = l') = false) := Lib.hid (by
        rw [decide_eq_false_iff_not]
        intro e
        subst e
        have := HLA.out
        have := HLB.out
        omega)
      clear hl
      go_wp2_with fail
      go_ret
      exact ⟨by rw [HT.out, Bool.false_and, Bool.and_false] <;> rfl, HK.out⟩
  · have hbe : (ep != ep') = true := by simpa using he
    have HE := Lib.hid (decide_eq_false he)
    clear he
    go_wp2_with fail
    go_ret
    exact ⟨by rw [HE.out] <;> rfl, HK.out⟩

set_option maxRecDepth 100000 in
set_option maxHeartbeats 4000000 in
theorem refValidRing_any (v : Value) (ep : Int) (l : List Mb) (ow : List Int) (w : World) (h : Rng w v ep l ow) : Calls Tryd.prog 26 #[v] w fun e w' => e = .returned (.bool (validRB ep l ow)) ∧ Keep (fun _ => False) w w' := by
  have HR := Lib.hid h
  obtain ⟨-, vm, vo, rfl, hmb, hi⟩ := h
  have HLI : Hid (∀ W q, Keep (fun _ => False) w W → Calls Tryd.prog 22 #[vm, .int .i64 q] W fun e w' => e = .returned (.int .i64 (limitL l q)) ∧ Keep (fun _ => False) W w') := Lib.hid (fun W q k => refLimit_any vm l W (hmb.kept k) q)
  have HVA : Hid (∀ W, Keep (fun _ => False) w W → Calls Tryd.prog 20 #[vm] W fun e w' => e = .returned (.bool (validL l)) ∧ Keep (fun _ => False) W w') := Lib.hid (fun W k => refValid_any vm l W (hmb.kept k))
  have hform : ∃ ma mn mc, vm = .slice ma mn mc := by
    obtain ⟨a, c, b, off, h1, _⟩ := hmb.at_
    exact ⟨_, _, _, h1⟩
  obtain ⟨ma, mn, mc, rfl⟩ := hform
  obtain ⟨hn, hbd, a, c, b, off, rfl, hc, ha, hcell⟩ := hi
  have HC := Lib.hid hcell
  have HA := Lib.hid ha
  clear hcell ha hmb hbd
  obtain ⟨n, hn'⟩ : ∃ n, ow.length = n := ⟨_, rfl⟩
  have HL := Lib.hid hn'
  rw [hn'] at hn hc HR ⊢
  clear hn'
  have HLD : Hid (∀ W q, Keep (fun _ => False) w W → Calls Tryd.prog 30 #[.agg #[.int .i64 ep, .slice ma mn mc, .slice a n c], .int .i64 q] W fun e w' => e = .returned (.int .i64 (cnt ow q)) ∧ Keep (fun _ => False) W w') := Lib.hid (fun W q k => refLoad_any _ ep l ow W (HR.out.kept k) q)
  clear HR
  have HK0 : Hid (Keep (fun _ => False) w (w.alloc (.cells #[.int .i64 ep, .slice ma mn mc, .slice a n c] 31))) := Lib.hid ((Keep.refl _ w).alloc _)
  have HT3 := Lib.hid (three_cell w (.int .i64 ep) (.slice ma mn mc) (.slice a n c) 31)
  go_enter Tryd.func26, Tryd.ntmps26
  by_cases hep : 1 ≤ ep ∧ ep ≤ 1000000
  · have HE := Lib.hid (decide_eq_true hep)
    go_wp2_with fail
    generalize w.alloc (.cells #[.int .i64 ep, .slice ma mn mc, .slice a n c] 31) = W0 at *
    generalize w.heap.size = z at *
    with_reducible refine (rwithin_b ep 1 1000000 true HE.out _).mono ?_
    rintro e w' ⟨rfl, rfl⟩
    have d1 : W0.cell? ⟨z, 1, none⟩ = some (.slice ma mn mc) := HT3.out.2.1
    have d2 : W0.cell? ⟨z, 2, none⟩ = some (.slice a n c) := HT3.out.2.2.1
    go_wp2_with fail
    clear d1 d2
    with_reducible refine (HVA.out _ HK0.out).mono ?_
    rintro e W1 ⟨rfl, k1⟩
    have HK1 := Lib.hid (HK0.out.trans k1)
    have HZ0 := Lib.hid (k1.cell HT3.out.1 (fun h => h))
    have HZ1 := Lib.hid (k1.cell HT3.out.2.1 (fun h => h))
    have HZ2 := Lib.hid (k1.cell HT3.out.2.2.1 (fun h => h))
    clear k1
    by_cases hv : VL l
    · have HV := Lib.hid ((validL_iff l).2 hv)
      rw [HV.out]
      have d2 := HZ2.out
      by_cases h64 : n = 64
      · subst h64
        go_wp2_with fail
        clear d2
        go_loopg [3] 64 (fun gh v wr => ∃ k : Nat, gh + k = 64 ∧ v = .int .i64 k ∧ (∀ x ∈ ow.take k, cnt ow x ≤ limitL l x) ∧ Keep (fun _ => False) W1 wr)
        case atStart => exact ⟨0, by omega, rfl, by simp, Keep.refl _ _⟩
        case round =>
          obtain ⟨k, hk, rfl, hall, hkeep⟩ := hrel
          have HALL := Lib.hid hall
          have HK := Lib.hid hkeep
          clear hall hkeep
          have d2 := HK.out.cell HZ2.out (fun h => h)
          by_cases hlt : k < 64
          · obtain ⟨x, hx⟩ : ∃ x, ow[k]? = some x := ⟨_, List.getElem?_eq_getElem (by have := HL.out; omega)⟩
            obtain rfl := HA.out (by have := HL.out; omega)
            have HCX := Lib.hid (HC.out k x hx)
            have HX := Lib.hid hx
            clear hx
            have hkz : (k : Int) < 64 := by omega
            have hk0 : (0 : Int) ≤ (k : Int) := by omega
            have HLDx : Hid (∀ W, Keep (fun _ => False) w W → Calls Tryd.prog 30 #[.agg #[.int .i64 ep, .slice ma mn mc, .slice (some ⟨b, off, none⟩) 64 c], .int .i64 x] W fun e w' => e = .returned (.int .i64 (cnt ow x)) ∧ Keep (fun _ => False) W w') := Lib.hid (fun W k => HLD.out W x k)
            have HLIx : Hid (∀ W, Keep (fun _ => False) w W → Calls Tryd.prog 22 #[.slice ma mn mc, .int .i64 x] W fun e w' => e = .returned (.int .i64 (limitL l x)) ∧ Keep (fun _ => False) W w') := Lib.hid (fun W k => HLI.out W x k)
            have z0 : ∀ p : KW wr, p.val.cell? ⟨z, 0, none⟩ = some (.int .i64 ep) := fun p => p.k.cell (HK.out.cell HZ0.out (fun h => h)) (fun h => h)
            have z1 : ∀ p : KW wr, p.val.cell? ⟨z, 1, none⟩ = some (.slice ma mn mc) := fun p => p.k.cell (HK.out.cell HZ1.out (fun h => h)) (fun h => h)
            have z2 : ∀ p : KW wr, p.val.cell? ⟨z, 2, none⟩ = some (.slice (some ⟨b, off, none⟩) 64 c) := fun p => p.k.cell (HK.out.cell HZ2.out (fun h => h)) (fun h => h)
            have zx : ∀ p : KW wr, p.val.cell? ⟨b, off + k, none⟩ = some (.int .i64 x) := fun p => p.k.cell ((HK1.out.trans HK.out).cell HCX.out (fun h => h)) (fun h => h)
            by_cases hle : cnt ow x ≤ limitL l x
            · have HN : Hid (∀ y ∈ ow.take (k + 1), cnt ow y ≤ limitL l y) := Lib.hid (fun y hy => by
                rw [List.take_add_one, HX.out] at hy
                rcases List.mem_append.1 hy with hy | hy
                · exact HALL.out y hy
                · simp at hy; subst hy; exact hle)
              generalize cnt ow x = cx at *
              generalize limitL l x = lx at *
              have hng : ¬ (lx < cx) := by omega
              go_wp2_with fail
              clear d2
              refine wp_region_quiet_kept (by kernel_rfl) (by kernel_rfl) ?_
              repeat (quiet_step (first | (go_at_call 30; refine Calls.kept_of (HLDx.out _ ((HK1.out.trans HK.out).trans (KW.k _)))) | (go_at_call 22; refine Calls.kept_of (HLIx.out _ ((HK1.out.trans HK.out).trans (KW.k _))))))
              refine wpQuiet_nil ?_
              rintro _ ⟨p, rfl⟩
              have HP := Lib.hid (HK.out.trans p.k)
              clear z0 z1 z2 zx
              generalize p.val = W2 at *
              go_wp2_with fail
              go_roundg (gk - 1)
              case rel => exact ⟨k + 1, by omega, by go_num, HN.out, HP.out⟩
              case measure => omega
            · have HB : Hid (validRB ep l ow = false) := Lib.hid (by
                cases e : validRB ep l ow with
                | false => rfl
                | true =>
                  have := ((validRB_iff ep l ow).1 e).2.2.2.2 x
                  exact absurd this hle)
              generalize cnt ow x = cx at *
              generalize limitL l x = lx at *
              have hng : lx < cx := by omega
              go_wp2_with fail
              clear d2
              refine wp_region_quiet_kept (by kernel_rfl) (by kernel_rfl) ?_
              repeat (quiet_step (first | (go_at_call 30; refine Calls.kept_of (HLDx.out _ ((HK1.out.trans HK.out).trans (KW.k _)))) | (go_at_call 22; refine Calls.kept_of (HLIx.out _ ((HK1.out.trans HK.out).trans (KW.k _))))))
              refine wpQuiet_nil ?_
              rintro _ ⟨p, rfl⟩
              have HP := Lib.hid (HK1.out.trans (HK.out.trans p.k))
              clear z0 z1 z2 zx
              generalize p.val = W2 at *
              go_wp2_with fail
              go_ret
              exact ⟨by rw [HB.out] <;> rfl, HP.out⟩
          · obtain rfl : k = 64 := by omega
            have HB : Hid (validRB ep l ow = true) := Lib.hid (by
              have h1 := HALL.out
              rw [List.take_of_length_le (by have := HL.out; omega)] at h1
              unfold validRB
              rw [HE.out, HV.out, HL.out]
              simp only [decide_true, Bool.and_true, List.all_eq_true]
              exact fun y hy => decide_eq_true (h1 y hy))
            go_wp2_with fail
            go_ret
            exact ⟨by rw [HB.out] <;> rfl, HK1.out.trans HK.out⟩
      · have hne : ((n : Int) != 64) = true := by simp; omega
        have HB : Hid (validRB ep l ow = false) := Lib.hid (by unfold validRB; rw [HL.out, decide_eq_false h64]; simp)
        clear h64
        go_wp2_with fail
        go_ret
        exact ⟨by rw [HB.out] <;> rfl, HK1.out⟩
    · have HV := Lib.hid (validL_false hv)
      have HB : Hid (validRB ep l ow = false) := Lib.hid (by unfold validRB; rw [HV.out]; simp)
      rw [HV.out]
      go_wp2_with fail
      go_ret
      exact ⟨by rw [HB.out] <;> rfl, HK1.out⟩
  · have HE := Lib.hid (decide_eq_false hep)
    have HB : Hid (validRB ep l ow = false) := Lib.hid (by unfold validRB; rw [HE.out]; simp)
    go_wp2_with fail
    generalize w.alloc (.cells #[.int .i64 ep, .slice ma mn mc, .slice a n c] 31) = W0 at *
    with_reducible refine (rwithin_b ep 1 1000000 false HE.out _).mono ?_
    rintro e w' ⟨rfl, rfl⟩
    go_wp2_with fail
    go_ret
    exact ⟨by rw [HB.out] <;> rfl, HK0.out⟩
end Go.Proofs.YtplkmbfeeegaiaaDoor
