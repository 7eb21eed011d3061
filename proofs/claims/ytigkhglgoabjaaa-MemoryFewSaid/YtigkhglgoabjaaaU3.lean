/-
  MemoryFew: the walk.
-/
import Derived.Test.YtigkhglgoabjaaaU2
namespace Go.Proofs.Ytigkhglgoabjaaa
open Go.RowKit Go.Shelf

/-- The relation of the loop. -/
def FewR (w : World) (b p g cp bz : Nat) (cap : Int) (sh : List Int) (W : World) : Prop :=
  ∃ L Z, LW w p cap sh L ((Side.world b p g cp cap sh).and (.arr bz Z)) W ∧ InvZ L Z
def KeyR (W : World) (L : List E) (j : Nat) (v : Value) (wr : World) : Prop := ∃ nk, wr.ownsRow W.heap.size 9 1 v nk ((keysAll L j).map Value.string) ∧ Keep (fun _ => False) W wr

set_option maxRecDepth 100000 in
set_option maxHeartbeats 1000000 in
theorem few_some (c : Int) (a : Option Addr) (n cp : Nat) (xs : List Int) (lb lo ln lc : Nat) (f : Nat → Nat → Int) (w : World) (h1 : -9223372036854775808 ≤ c) (h2 : c ≤ 9223372036854775807) (hn : xs.length = n) (hn2 : n ≤ 9223372036854775807) (hx : RowIn w a xs) (hw : ∀ x ∈ xs, -9223372036854775808 ≤ x ∧ x ≤ 9223372036854775807)
    (hl : ln ≤ 9223372036854775807) (hst : Steps w lb lo ln f) :
    Calls Try.prog 6 #[.int .i64 c, .slice a n cp, .slice (some ⟨lb, lo, none⟩) ln lc] w fun e w' => e = .returned (.bool true) ∧ Below w.heap.size w w' := by
  have HX := Lib.hid hx; clear hx
  have HN := Lib.hid hn; clear hn
  have HW := Lib.hid hw; clear hw
  have HST := Lib.hid hst; clear hst
  go_enter Try.func6, Try.ntmps6
  go_wp2_with fail
  with_reducible refine (sane_any _).mono ?_
  rintro e W1 ⟨rfl, k⟩
  have K1 := Lib.hid k
  clear k
  go_wp2_with fail
  with_reducible refine (begin_any c a n cp xs _ h1 h2 HN.out hn2 (HX.out.keep K1.out) HW.out).mono ?_
  rintro e W2 hb
  obtain ⟨b, p, g, cp', rfl, hlw⟩ := hb.lw
  clear hb
  have HLW2 := Lib.hid (hlw.base K1.out)
  have HSO := Lib.hid (sharesOf_ok c xs)
  have HCB := Lib.hid (capOf_bd c)
  clear hlw
  generalize sharesOf c xs = sh at *
  generalize capOf c = cap at *
  clear HX HN HW
  obtain ⟨hla, hap⟩ := HLW2.out.add2 (T := .arr W2.heap.size (fun _ => 0)) ((Keep.refl _ W2).alloc _) (zero_arr W2) (fun b hb => by cases hb; exact ⟨Nat.le_refl _, by rw [World.size_alloc]; omega⟩)
  have HWZ : Hid (¬ (Side.world b p g cp' cap sh).D W2.heap.size) := Lib.hid (fun h => hap _ h rfl)
  have HBZ := Lib.hid HLW2.out.k.size
  have HL : Hid (FewR w b p g cp' W2.heap.size cap sh (W2.alloc (.cells #[.int .i64 0, .int .i64 0, .int .i64 0, .int .i64 0, .int .i64 0, .int .i64 0, .int .i64 0, .int .i64 0, .int .i64 0, .int .i64 0, .int .i64 0, .int .i64 0] 46))) := Lib.hid ⟨[], _, hla, fun e he => by cases he⟩
  clear hla hap HLW2
  go_wp2_with fail
  generalize W2.alloc (.cells #[.int .i64 0, .int .i64 0, .int .i64 0, .int .i64 0, .int .i64 0, .int .i64 0, .int .i64 0, .int .i64 0, .int .i64 0, .int .i64 0, .int .i64 0, .int .i64 0] 46) = Wz at *
  generalize W2.heap.size = bz at *
  go_loopw [11] (fun i wr => ∃ k : Nat, k ≤ ln ∧ k ≤ 60 ∧ i = .int .i64 k ∧ FewR w b p g cp' bz cap sh wr) (fun i _ => 60 - (intOf i).toNat)
  case atStart => exact ⟨0, by omega, by omega, rfl, HL.out⟩
  case round =>
    obtain ⟨k, hk, hk6, rfl, L, Z, hlw, hz⟩ := hrel
    have HLW := Lib.hid hlw
    have HIZ := Lib.hid hz
    clear hlw hz HL
    by_cases hlt : k < ln ∧ k < 60
    · obtain ⟨hlt, hlt6⟩ := hlt
      have hc2 := HLW.out.k.cell (HST.out.cell k 2 hlt (by omega)) (fun h => h)
      go_wp2_with fail
      with_reducible refine (name_any _ _ (HST.out.lo k 2) (HST.out.hi k 2)).mono ?_
      rintro e W3 ⟨rfl, k3⟩
      have HLW3 := Lib.hid (HLW.out.keep k3)
      clear hc2 HLW k3
      have hkey : (nm (f k 2)).size ≤ maxLen := one_small _
      have HK := Lib.hid hkey
      clear hkey
      obtain ⟨kx, hkx, hkx12⟩ := pk_lit (f k 2) 12 (by omega)
      have HKX := Lib.hid hkx
      have HKN : Hid (nm (f k 2) = one (97 + (kx : Int))) := Lib.hid (by unfold nm; rw [hkx])
      clear hkx
      generalize nm (f k 2) = key at *
      have hc1 := HLW3.out.k.cell (HST.out.cell k 1 hlt (by omega)) (fun h => h)
      have hw2 := HLW3.out.q.1.c2
      have hm1 := HSO.out.2.1
      have hm2 := HSO.out.2.2
      obtain ⟨t, ht, htm⟩ := pk_nat (f k 1) sh.length (by omega)
      have HT := Lib.hid ht
      clear ht
      go_wp2_with fail
      go_quiet ((go_at_call 14; exact quiet_same (pick_nat _ _ _ _ (HST.out.lo k 1) (HST.out.hi k 1) (by omega) (by omega) HT.out)))
      have HLW4 := Lib.hid (HLW3.out.keep ((Keep.refl _ W3).drewN nq))
      clear HLW3 hc1 hw2
      generalize W3.drewN nq = W4 at *
      have hc3 := HLW4.out.k.cell (HST.out.cell k 3 hlt (by omega)) (fun h => h)
      have hpb := pk_bd (f k 3) 14 (by omega)
      go_wp2_with fail
      with_reducible refine (pick_any _ _ _ (HST.out.lo k 3) (HST.out.hi k 3) (by omega) (by omega)).mono ?_
      rintro e w' ⟨rfl, rfl⟩
      go_wp2_with fail
      obtain ⟨z, hz⟩ : ∃ z, 1 + pk (f k 3) 14 = z := ⟨_, rfl⟩
      rw [hz]
      have hz1 : 1 ≤ z := by omega
      have hz2 : z ≤ 14 := by omega
      clear hz hpb hc3
      have HSN := Lib.hid HLW4.out.sane
      have HKZ := Lib.hid (inv_small HIZ.out)
      have hLl : L.length ≤ 1000000 := by
        have hsn := HSN.out
        have := length_le_tot L (fun x hx => (hsn.rng x hx).2)
        have := hsn.le
        have := hsn.cap
        omega
      go_loopw [15, 16] (fun v i W5 => ∃ j : Nat, j ≤ sh.length ∧ i = .int .i64 j ∧ KeyR W4 L j v W5) (fun _ i _ => sh.length - (intOf i).toNat)
      case atStart => exact ⟨0, by omega, rfl, 0, World.ownsRow_nil _ _ _ _, Keep.refl _ _⟩
      case round =>
        obtain ⟨j, hj, rfl, nk, ho, kk⟩ := hrel
        have hnk : nk ≤ 4000000 := by
          have h1 := ho.1
          have h2 := keysAll_len L j
          have h3 : j * L.length ≤ 4 * 1000000 := Nat.mul_le_mul (by omega) hLl
          simp at h1
          omega
        obtain ⟨a1, c1, rfl⟩ := ownsRow_form ho
        have HLW5 := Lib.hid (HLW4.out.keep kk)
        have hw0 := HLW5.out.q.1.c0
        have hw2 := HLW5.out.q.1.c2
        by_cases hjl : j < sh.length
        · have HO := Lib.hid ho
          have HKK := Lib.hid kk
          clear ho kk
          go_wp2_with fail
          with_reducible refine (keys_lw2 _ HLW5.out).mono ?_
          rintro e W6 ⟨aK, cK, rfl, hsK, hdK, k6⟩
          have hkl : (keysOf L (j : Int)).length ≤ 1000000 := Nat.le_trans (keysOf_length L _) hLl
          obtain ⟨v', w', r1, r2, r3⟩ := app_row W6 W4.heap.size (.slice a1 nk c1) nk (keysAll L j) (keysOf L (j : Int)) aK _ cK (ownsRow_keep HO.out k6 (fun _ _ h => h)) hsK hdK (by omega) (Nat.le_trans HKK.out.size k6.size)
          have hlt' := HO.out.lt
          have HF : Hid (KeyR W4 L (j + 1) v' w') := Lib.hid ⟨_, by rw [keysAll_succ]; exact r2, (HKK.out.trans k6).none_of r3 (fun i hi => (hlt' i hi).1)⟩
          clear r2 r3 hsK hdK k6 hw0 hw2 hlt' HLW5
          go_wp2_with (at_builtin; refine wpList_app rfl (.tmp 78) (.tmp 84) 38 rfl rfl rfl r1 ?_)
          go_roundw
          case rel => exact ⟨j + 1, by omega, by go_num, HF.out⟩
          case measure => simp [intOf]; omega
        · obtain rfl : j = sh.length := by omega
          have HKM : Hid (∀ x ∈ keysAll L sh.length, x ∈ L.map E.key) := Lib.hid (fun x hx => keysAll_mem hx)
          have HNK : Hid (nk = (keysAll L sh.length).length) := Lib.hid (by have := ho.1; simp at this; omega)
          generalize keysAll L sh.length = ks at *
          obtain ⟨hla, hap⟩ := HLW4.out.add2 (T := .strs (.slice a1 nk c1) ks) kk (StrsAt.of_owns ho) (fun b hb => ho.lt b hb)
          have HLW6 : Hid (LW w p cap sh L (((Side.world b p g cp' cap sh).and (.strs (.slice a1 nk c1) ks)).and (.arr bz Z)) wr) := Lib.hid (hla.imp (T := ((Side.world b p g cp' cap sh).and (.strs (.slice a1 nk c1) ks)).and (.arr bz Z)) (fun h => ⟨⟨h.1.1, h.2⟩, h.1.2⟩) (fun b hb => hb.elim (fun h => h.elim (fun h => .inl (.inl h)) (fun h => .inr h)) (fun h => .inl (.inr h))))
          have HSZ : Hid (¬ ((Side.world b p g cp' cap sh).and (.strs (.slice a1 nk c1) ks)).D bz) := Lib.hid (fun h => h.elim (fun h => HWZ.out h) (fun h => hap bz (.inr rfl) h))
          clear hla hap ho kk HLW5
          have hsn := HSN.out
          have hle := hsn.le
          have hcap := hsn.cap
          have ht0 := tot_nonneg L (fun x hx => (hsn.rng x hx).2)
          have HFP := Lib.hid (few_put hsn key htm hz1 HIZ.out)
          clear hsn
          go_wp2_with fail
          with_reducible refine (free_lw HLW6.out).mono ?_
          rintro e w' ⟨rfl, rfl⟩
          go_wp2_with fail
          with_reducible refine (put_lw2 _ _ _ HLW6.out HK.out (by omega)).mono ?_
          rintro e W7 ⟨a7, c7, rfl, h, hap⟩
          clear hw0 hw2 HLW6
          generalize putI cap sh L (t : Int) key z = r at *
          obtain ⟨d, T, M⟩ := r
          simp only at HFP h hap ⊢
          have HLW7 : Hid (LW w p cap sh M ((((Side.world b p g cp' cap sh).and (.strs (.slice a1 nk c1) ks)).and (.strs (.slice a7 T.length c7) (T.map E.key))).and (.arr bz Z)) W7) := Lib.hid (h.imp (T := (((Side.world b p g cp' cap sh).and (.strs (.slice a1 nk c1) ks)).and (.strs (.slice a7 T.length c7) (T.map E.key))).and (.arr bz Z)) (fun h => ⟨⟨h.1.1, h.2⟩, h.1.2⟩) (fun b hb => hb.elim (fun h => h.elim (fun h => .inl (.inl h)) (fun h => .inr h)) (fun h => .inl (.inr h))))
          have HSZ2 : Hid (¬ (((Side.world b p g cp' cap sh).and (.strs (.slice a1 nk c1) ks)).and (.strs (.slice a7 T.length c7) (T.map E.key))).D bz) := Lib.hid (fun h => h.elim (fun h => HSZ.out h) (fun h => hap bz (.inr rfl) h))
          clear h hap HSZ
          cases d with
          | false =>
            obtain ⟨hT, hM⟩ := HFP.out.2 rfl
            subst hT
            subst hM
            have HLW8 := Lib.hid (HLW7.out.imp (T := ((Side.world b p g cp' cap sh).and (.strs (.slice a1 nk c1) ks)).and (.arr bz Z)) (fun h => ⟨h.1.1, h.2⟩) (fun b hb => hb.elim (fun h => .inl (.inl h)) (fun h => .inr h)))
            clear HLW7 HSZ2 HFP
            have hw0 := HLW8.out.q.1.1.c0
            have hdd : (cap - tot M != cap - tot M) = false := by simp
            go_wp2_with fail
            with_reducible refine (free_lw HLW8.out).mono ?_
            rintro e w' ⟨rfl, rfl⟩
            go_wp2_with fail
            go_loopw [20] (fun i W9 => ∃ m : Nat, m ≤ nk ∧ i = .int .i64 m ∧ LW w p cap sh M (((Side.world b p g cp' cap sh).and (.strs (.slice a1 nk c1) ks)).and (.arr bz Z)) W9) (fun i _ => nk - (intOf i).toNat)
            case atStart => exact ⟨0, by omega, rfl, HLW8.out⟩
            case round =>
              obtain ⟨m, hm, rfl, h⟩ := hrel
              have HLW9 := Lib.hid h
              clear h HLW8 hw0
              by_cases hml : m < nk
              · have hgm : ks[m]? = some (ks.getD m ⟨#[]⟩) := by rw [List.getD_eq_getElem?_getD, List.getElem?_eq_getElem (by have := HNK.out; omega)]; rfl
                obtain ⟨b9, o9, rfl, hc9⟩ := (strs_q HLW9.out.q.1.2).cell hgm
                have HAT : Hid ((atKey M (ks.getD m ⟨#[]⟩)).isSome = true) := Lib.hid (atKey_isSome.2 (HKM.out _ (List.mem_of_getElem? hgm)))
                have hks9 : (ks.getD m ⟨#[]⟩).size ≤ maxLen := HKZ.out _ (HKM.out _ (List.mem_of_getElem? hgm))
                have HKS := Lib.hid hks9
                clear hgm hks9
                generalize ks.getD m ⟨#[]⟩ = y at *
                have hw0 := HLW9.out.q.1.1.c0
                go_wp2_with fail
                go_quiet ((go_at_call 21; exact quiet_same (has_eq (HLW9.out.keep ((Keep.refl _ _).drewN _)) HKS.out HAT.out)))
                have HLWa := Lib.hid (HLW9.out.keep ((Keep.refl _ _).drewN nq))
                go_wp2_with fail
                go_roundw
                case rel => exact ⟨m + 1, by omega, by go_num, HLWa.out⟩
                case measure => simp [intOf]; omega
              · have HE : Hid (FewR w b p g cp' bz cap sh wr) := Lib.hid ⟨M, Z, HLW9.out.imp (T := (Side.world b p g cp' cap sh).and (.arr bz Z)) (fun h => ⟨h.1.1, h.2⟩) (fun b hb => hb.elim (fun h => .inl (.inl h)) (fun h => .inr h)), HIZ.out⟩
                go_wp2_with fail
                go_roundw
                case rel => exact ⟨k + 1, by omega, by omega, by go_num, HE.out⟩
                case measure => simp [intOf]; omega
          | true =>
            have HP := Lib.hid (HFP.out.1 rfl)
            clear HFP
            have hTl : T.length ≤ 1000000 := Nat.le_trans HP.out.len hLl
            have HSUB := Lib.hid HP.out.sub
            go_wp2_with fail
            go_loopw [21, 22] (fun la i W9 => ∃ m : Nat, m ≤ T.length ∧ i = .int .i64 m ∧ la = .int .i64 (lastZ (T.take m)) ∧ LW w p cap sh M ((((Side.world b p g cp' cap sh).and (.strs (.slice a1 nk c1) ks)).and (.strs (.slice a7 T.length c7) (T.map E.key))).and (.arr bz (zeroZ Z (T.take m)))) W9) (fun _ i _ => T.length - (intOf i).toNat)
            case atStart => exact ⟨0, by omega, rfl, rfl, HLW7.out.arr_eq (fun i hi => (zeroZ_nil Z i).symm)⟩
            case round =>
              obtain ⟨m, hm, rfl, rfl, h⟩ := hrel
              have HLW9 := Lib.hid h
              clear h HLW7
              by_cases hml : m < T.length
              · have hgx : T[m]? = some T[m] := List.getElem?_eq_getElem hml
                obtain ⟨j, hj12, hjk, hjz⟩ := zeroZ_last HIZ.out HSUB.out HP.out.nod hgx
                have hgy : (T.map E.key)[m]? = some T[m].key := by rw [List.getElem?_map, hgx]; rfl
                obtain ⟨b9, o9, rfl, hc9⟩ := (strs_q HLW9.out.q.1.2).cell hgy
                obtain ⟨hgo, hnk⟩ := HP.out.gone _ (List.mem_of_getElem? hgy)
                have HGO := Lib.hid hgo
                have HZS := Lib.hid (zeroZ_step (Z := Z) hgx hj12 hjk)
                have HLS : Hid (lastZ (T.take (m + 1)) = T[m].z) := Lib.hid (lastZ_succ hgx)
                have HJZ := Lib.hid hjz
                have hbe : (T[m].key.toList == key.toList) = false := by
                  rw [beq_eq_false_iff_ne]
                  intro e
                  exact hnk (toList_inj e)
                have HKS : Hid (T[m].key.size ≤ maxLen) := Lib.hid (by rw [hjk]; exact one_small _)
                have hsz : T[m].key.size = 1 := by rw [hjk]; rfl
                have HBY : Hid (∀ h : 0 < T[m].key.size, (T[m].key[0]'h).toNat = 97 + j) := Lib.hid (by
                  have : ∀ y (hy : y = one (97 + (j : Int))) (h : 0 < y.size), (y[0]'h).toNat = 97 + j := by
                    rintro y rfl h
                    exact one_get j hj12 h
                  exact fun h => this _ hjk h)
                have HJK := Lib.hid hjk
                have HGY := Lib.hid hgy
                clear hgy hnk hgo hgx hjk hjz
                generalize T[m].z = xz at *
                generalize T[m].key = y at *
                have hw0 := HLW9.out.q.1.1.1.c0
                have hl1 : ((y.size : Int) != 1) = false := by rw [hsz]; rfl
                have HSIZE := Lib.hid hsz
                go_wp2_with fail
                go_quiet ((go_at_call 21; exact quiet_same (has_eq (HLW9.out.keep ((Keep.refl _ _).drewN _)) HKS.out HGO.out)))
                have HLWa := Lib.hid (HLW9.out.keep ((Keep.refl _ _).drewN nq))
                clear hc9 hw0
                generalize wr.drewN nq = Wa at *
                obtain ⟨b9', o9', e9, hc9⟩ := (strs_q HLWa.out.q.1.2).cell HGY.out
                injection e9 with e9
                injection e9 with e9a e9b
                subst e9a e9b
                have hzc := HLWa.out.q.2.1 j hj12
                rw [HJZ.out] at hzc
                have hzf := HLWa.out.q.2.2 j
                have hy0 : 0 < y.size := by omega
                have HPJ : Hid (pk (j : Int) 12 = (j : Int)) := Lib.hid (by unfold pk; rw [if_neg (by omega)]; omega)
                have HBJ : Hid (∀ h : 0 < y.size, (((y[0]'h).toNat : Int) - 97) % 256 = (j : Int)) := Lib.hid (fun h => by rw [HBY.out h]; omega)
                have HST2 := Lib.hid ((HLWa.out.set HSZ2.out HBZ.out hj12 0).arr_eq HZS.out)
                go_wp2_with fail
                rw [HBJ.out hy0]
                with_reducible refine (pick_lit (j : Int) 12 j _ (by omega) (by omega) (by omega) (by omega) HPJ.out).mono ?_
                rintro e w' ⟨rfl, rfl⟩
                go_wp2_with fail
                rw [HBJ.out hy0]
                with_reducible refine (pick_lit (j : Int) 12 j _ (by omega) (by omega) (by omega) (by omega) HPJ.out).mono ?_
                rintro e w' ⟨rfl, rfl⟩
                go_wp2_with fail
                go_roundw
                case rel => exact ⟨m + 1, by omega, by go_num, by rw [HLS.out], HST2.out⟩
                case measure => simp [intOf]; omega
              · have hmT : T.take m = T := List.take_of_length_le (by omega)
                rw [hmT]
                have HLWb : Hid (LW w p cap sh M ((((Side.world b p g cp' cap sh).and (.strs (.slice a1 nk c1) ks)).and (.strs (.slice a7 T.length c7) (T.map E.key))).and (.arr bz (zeroZ Z T))) wr) := Lib.hid (by have := HLW9.out; rw [hmT] at this; exact this)
                clear hmT HLW9
                have hc2 := HLWb.out.k.cell (HST.out.cell k 2 hlt (by omega)) (fun h => h)
                have hzc := HLWb.out.q.2.1 kx (by omega)
                have hzf := HLWb.out.q.2.2 kx
                have HST3 := Lib.hid (HLWb.out.set HSZ2.out HBZ.out (show kx < 12 by omega) z)
                have HIN := Lib.hid (HP.out.inv kx (by omega) HKN.out)
                go_wp2_with fail
                with_reducible refine (pick_lit _ 12 kx _ (HST.out.lo k 2) (HST.out.hi k 2) (by omega) (by omega) HKX.out).mono ?_
                rintro e w' ⟨rfl, rfl⟩
                have hsn := HLWb.out.sane
                have hle' := hsn.le
                have ht0' := tot_nonneg M (fun x hx => (hsn.rng x hx).2)
                have HLSX : Hid (0 < T.length → cap - tot M - lastZ T < 0 ∧ lastZ T ≤ 1000000) := Lib.hid (fun h => by
                  have hne : T ≠ [] := fun e => by rw [e] at h; simp at h
                  have e := (List.dropLast_concat_getLast hne).symm
                  have h1 := HP.out.last _ _ e
                  have h2 : lastZ T = (T.getLast hne).z := by unfold lastZ; rw [List.getLast?_eq_some_getLast hne]; rfl
                  rw [h2]
                  refine ⟨h1, ?_⟩
                  have h3 := HSN.out.rng _ (HSUB.out _ (List.getLast_mem hne))
                  have h4 := (HSUB.out _ (List.getLast_mem hne))
                  obtain ⟨X, Y, hXY⟩ := List.append_of_mem h4
                  have h5 := HSN.out.le
                  rw [hXY, tot_append, tot_cons] at h5
                  have h6 := tot_nonneg X (fun x hx => (HSN.out.rng x (by rw [hXY]; simp [hx])).2)
                  have h7 := tot_nonneg Y (fun x hx => (HSN.out.rng x (by rw [hXY]; simp [hx])).2)
                  omega)
                clear hsn
                have hw0 := HST3.out.q.1.1.1.c0
                by_cases hT0 : 0 < T.length
                · have hTd : decide (0 < (T.length : Int)) = true := by simp; omega
                  obtain ⟨hl0, hl1⟩ := HLSX.out hT0
                  have hln : 0 ≤ lastZ T := by omega
                  generalize hlz : lastZ T = lz at *
                  clear hlz
                  go_wp2_with fail
                  generalize wr.setCell ⟨bz, kx, none⟩ (.int .i64 z) = Wc at *
                  with_reducible refine (free_lw HST3.out).mono ?_
                  rintro e w' ⟨rfl, rfl⟩
                  have hdn : decide (0 ≤ cap - tot M - lz) = false := by simp; omega
                  have hdn' : decide (lz ≤ cap - tot M) = false := by simp; omega
                  go_wp2_with fail
                  go_loopw [23] (fun i W9 => ∃ q : Nat, q ≤ nk ∧ i = .int .i64 q ∧ LW w p cap sh M ((((Side.world b p g cp' cap sh).and (.strs (.slice a1 nk c1) ks)).and (.strs (.slice a7 T.length c7) (T.map E.key))).and (.arr bz (updZ (zeroZ Z T) kx z))) W9) (fun i _ => nk - (intOf i).toNat)
                  case atStart => exact ⟨0, by omega, rfl, HST3.out⟩
                  case round =>
                    obtain ⟨q, hq, rfl, h⟩ := hrel
                    have HLWq := Lib.hid h
                    clear h HST3
                    by_cases hql : q < nk
                    · have hgq : ks[q]? = some (ks.getD q ⟨#[]⟩) := by rw [List.getD_eq_getElem?_getD, List.getElem?_eq_getElem (by have := HNK.out; omega)]; rfl
                      obtain ⟨b9, o9, rfl, hc9⟩ := (strs_q HLWq.out.q.1.1.2).cell hgq
                      have HALL := Lib.hid (HP.out.all _ (HKM.out _ (List.mem_of_getElem? hgq)))
                      have HKS : Hid ((ks.getD q ⟨#[]⟩).size ≤ maxLen) := Lib.hid (HKZ.out _ (HKM.out _ (List.mem_of_getElem? hgq)))
                      have HGQ := Lib.hid hgq
                      clear hgq hc9
                      generalize ks.getD q ⟨#[]⟩ = x at *
                      go_wp2_with fail
                      go_loopw [24, 25] (fun gv i W9 => ∃ m : Nat, m ≤ T.length ∧ i = .int .i64 m ∧ gv = .bool (hasK ((T.map E.key).take m) x) ∧ LW w p cap sh M ((((Side.world b p g cp' cap sh).and (.strs (.slice (some ⟨b9, o9, none⟩) nk c1) ks)).and (.strs (.slice a7 T.length c7) (T.map E.key))).and (.arr bz (updZ (zeroZ Z T) kx z))) W9) (fun _ i _ => T.length - (intOf i).toNat)
                      case atStart => exact ⟨0, by omega, rfl, rfl, HLWq.out⟩
                      case round =>
                        obtain ⟨m, hm, rfl, rfl, h⟩ := hrel
                        have HLWm := Lib.hid h
                        clear h HLWq
                        by_cases hml : m < T.length
                        · have hgy : (T.map E.key)[m]? = some ((T.map E.key).getD m ⟨#[]⟩) := by rw [List.getD_eq_getElem?_getD, List.getElem?_eq_getElem (by simp; omega)]; rfl
                          obtain ⟨b8, o8, rfl, hc8⟩ := (strs_q HLWm.out.q.1.2).cell hgy
                          obtain ⟨b9', o9', e9, hc9⟩ := (strs_q HLWm.out.q.1.1.2).cell HGQ.out
                          injection e9 with e9
                          injection e9 with e9a e9b
                          subst e9a e9b
                          have HHT := Lib.hid (hasK_take (x := x) hgy)
                          clear hgy
                          generalize (T.map E.key).getD m ⟨#[]⟩ = y at *
                          cases hg : hasK ((T.map E.key).take m) x with
                          | true =>
                            have HN : Hid (hasK ((T.map E.key).take (m + 1)) x = true) := Lib.hid (by rw [HHT.out, hg]; rfl)
                            clear hg HHT
                            go_wp2_with fail
                            go_quiet (fail)
                            have HLWn := Lib.hid (HLWm.out.keep ((Keep.refl _ _).drewN nq))
                            go_wp2_with fail
                            go_roundw
                            case rel => exact ⟨m + 1, by omega, by go_num, by rw [HN.out], HLWn.out⟩
                            case measure => simp [intOf]; omega
                          | false =>
                            by_cases hyx : y = x
                            · have hbe : (y.toList == x.toList) = true := by rw [hyx]; simp
                              have HN : Hid (hasK ((T.map E.key).take (m + 1)) x = true) := Lib.hid (by rw [HHT.out, hg]; simpa using hyx)
                              clear hg HHT hyx
                              go_wp2_with fail
                              go_quiet (fail)
                              have HLWn := Lib.hid (HLWm.out.keep ((Keep.refl _ _).drewN nq))
                              go_wp2_with fail
                              go_roundw
                              case rel => exact ⟨m + 1, by omega, by go_num, by rw [HN.out], HLWn.out⟩
                              case measure => simp [intOf]; omega
                            · have hbe : (y.toList == x.toList) = false := by
                                rw [beq_eq_false_iff_ne]
                                intro e
                                exact hyx (toList_inj e)
                              have HN : Hid (hasK ((T.map E.key).take (m + 1)) x = false) := Lib.hid (by rw [HHT.out, hg]; simpa using hyx)
                              clear hg HHT hyx
                              go_wp2_with fail
                              go_quiet (fail)
                              have HLWn := Lib.hid (HLWm.out.keep ((Keep.refl _ _).drewN nq))
                              go_wp2_with fail
                              go_roundw
                              case rel => exact ⟨m + 1, by omega, by go_num, by rw [HN.out], HLWn.out⟩
                              case measure => simp [intOf]; omega
                        · have hmT : (T.map E.key).take m = T.map E.key := List.take_of_length_le (by simp; omega)
                          rw [hmT]
                          clear hmT
                          have hw0 := HLWm.out.q.1.1.1.c0
                          obtain ⟨b9', o9', e9, hc9⟩ := (strs_q HLWm.out.q.1.1.2).cell HGQ.out
                          injection e9 with e9
                          injection e9 with e9a e9b
                          subst e9a e9b
                          cases hg : hasK (T.map E.key) x with
                          | true =>
                            have HAT : Hid ((atKey M x).isSome = false) := Lib.hid (by rw [HALL.out, hg]; rfl)
                            clear hg HALL
                            go_wp2_with fail
                            go_quiet ((go_at_call 21; exact quiet_same (has_eq (HLWm.out.keep ((Keep.refl _ _).drewN _)) HKS.out HAT.out)))
                            have HLWn := Lib.hid (HLWm.out.keep ((Keep.refl _ _).drewN nq))
                            go_wp2_with fail
                            go_roundw
                            case rel => exact ⟨q + 1, by omega, by go_num, HLWn.out⟩
                            case measure => simp [intOf]; omega
                          | false =>
                            have HAT : Hid ((atKey M x).isSome = true) := Lib.hid (by rw [HALL.out, hg]; rfl)
                            clear hg HALL
                            go_wp2_with fail
                            go_quiet ((go_at_call 21; exact quiet_same (has_eq (HLWm.out.keep ((Keep.refl _ _).drewN _)) HKS.out HAT.out)))
                            have HLWn := Lib.hid (HLWm.out.keep ((Keep.refl _ _).drewN nq))
                            go_wp2_with fail
                            go_roundw
                            case rel => exact ⟨q + 1, by omega, by go_num, HLWn.out⟩
                            case measure => simp [intOf]; omega
                    · have HE : Hid (FewR w b p g cp' bz cap sh wr) := Lib.hid ⟨M, _, HLWq.out.imp (T := (Side.world b p g cp' cap sh).and (.arr bz (updZ (zeroZ Z T) kx z))) (fun h => ⟨h.1.1.1, h.2⟩) (fun b hb => hb.elim (fun h => .inl (.inl (.inl h))) (fun h => .inr h)), HIN.out⟩
                      go_wp2_with fail
                      go_roundw
                      case rel => exact ⟨k + 1, by omega, by omega, by go_num, HE.out⟩
                      case measure => simp [intOf]; omega
                · have hTd : decide (0 < (T.length : Int)) = false := decide_eq_false (by omega)
                  go_wp2_with fail
                  generalize wr.setCell ⟨bz, kx, none⟩ (.int .i64 z) = Wc at *
                  go_wp2_with fail
                  go_loopw [23] (fun i W9 => ∃ q : Nat, q ≤ nk ∧ i = .int .i64 q ∧ LW w p cap sh M ((((Side.world b p g cp' cap sh).and (.strs (.slice a1 nk c1) ks)).and (.strs (.slice a7 T.length c7) (T.map E.key))).and (.arr bz (updZ (zeroZ Z T) kx z))) W9) (fun i _ => nk - (intOf i).toNat)
                  case atStart => exact ⟨0, by omega, rfl, HST3.out⟩
                  case round =>
                    obtain ⟨q, hq, rfl, h⟩ := hrel
                    have HLWq := Lib.hid h
                    clear h HST3
                    by_cases hql : q < nk
                    · have hgq : ks[q]? = some (ks.getD q ⟨#[]⟩) := by rw [List.getD_eq_getElem?_getD, List.getElem?_eq_getElem (by have := HNK.out; omega)]; rfl
                      obtain ⟨b9, o9, rfl, hc9⟩ := (strs_q HLWq.out.q.1.1.2).cell hgq
                      have HALL := Lib.hid (HP.out.all _ (HKM.out _ (List.mem_of_getElem? hgq)))
                      have HKS : Hid ((ks.getD q ⟨#[]⟩).size ≤ maxLen) := Lib.hid (HKZ.out _ (HKM.out _ (List.mem_of_getElem? hgq)))
                      have HGQ := Lib.hid hgq
                      clear hgq hc9
                      generalize ks.getD q ⟨#[]⟩ = x at *
                      go_wp2_with fail
                      go_loopw [24, 25] (fun gv i W9 => ∃ m : Nat, m ≤ T.length ∧ i = .int .i64 m ∧ gv = .bool (hasK ((T.map E.key).take m) x) ∧ LW w p cap sh M ((((Side.world b p g cp' cap sh).and (.strs (.slice (some ⟨b9, o9, none⟩) nk c1) ks)).and (.strs (.slice a7 T.length c7) (T.map E.key))).and (.arr bz (updZ (zeroZ Z T) kx z))) W9) (fun _ i _ => T.length - (intOf i).toNat)
                      case atStart => exact ⟨0, by omega, rfl, rfl, HLWq.out⟩
                      case round =>
                        obtain ⟨m, hm, rfl, rfl, h⟩ := hrel
                        have HLWm := Lib.hid h
                        clear h HLWq
                        by_cases hml : m < T.length
                        · have hgy : (T.map E.key)[m]? = some ((T.map E.key).getD m ⟨#[]⟩) := by rw [List.getD_eq_getElem?_getD, List.getElem?_eq_getElem (by simp; omega)]; rfl
                          obtain ⟨b8, o8, rfl, hc8⟩ := (strs_q HLWm.out.q.1.2).cell hgy
                          obtain ⟨b9', o9', e9, hc9⟩ := (strs_q HLWm.out.q.1.1.2).cell HGQ.out
                          injection e9 with e9
                          injection e9 with e9a e9b
                          subst e9a e9b
                          have HHT := Lib.hid (hasK_take (x := x) hgy)
                          clear hgy
                          generalize (T.map E.key).getD m ⟨#[]⟩ = y at *
                          cases hg : hasK ((T.map E.key).take m) x with
                          | true =>
                            have HN : Hid (hasK ((T.map E.key).take (m + 1)) x = true) := Lib.hid (by rw [HHT.out, hg]; rfl)
                            clear hg HHT
                            go_wp2_with fail
                            go_quiet (fail)
                            have HLWn := Lib.hid (HLWm.out.keep ((Keep.refl _ _).drewN nq))
                            go_wp2_with fail
                            go_roundw
                            case rel => exact ⟨m + 1, by omega, by go_num, by rw [HN.out], HLWn.out⟩
                            case measure => simp [intOf]; omega
                          | false =>
                            by_cases hyx : y = x
                            · have hbe : (y.toList == x.toList) = true := by rw [hyx]; simp
                              have HN : Hid (hasK ((T.map E.key).take (m + 1)) x = true) := Lib.hid (by rw [HHT.out, hg]; simpa using hyx)
                              clear hg HHT hyx
                              go_wp2_with fail
                              go_quiet (fail)
                              have HLWn := Lib.hid (HLWm.out.keep ((Keep.refl _ _).drewN nq))
                              go_wp2_with fail
                              go_roundw
                              case rel => exact ⟨m + 1, by omega, by go_num, by rw [HN.out], HLWn.out⟩
                              case measure => simp [intOf]; omega
                            · have hbe : (y.toList == x.toList) = false := by
                                rw [beq_eq_false_iff_ne]
                                intro e
                                exact hyx (toList_inj e)
                              have HN : Hid (hasK ((T.map E.key).take (m + 1)) x = false) := Lib.hid (by rw [HHT.out, hg]; simpa using hyx)
                              clear hg HHT hyx
                              go_wp2_with fail
                              go_quiet (fail)
                              have HLWn := Lib.hid (HLWm.out.keep ((Keep.refl _ _).drewN nq))
                              go_wp2_with fail
                              go_roundw
                              case rel => exact ⟨m + 1, by omega, by go_num, by rw [HN.out], HLWn.out⟩
                              case measure => simp [intOf]; omega
                        · have hmT : (T.map E.key).take m = T.map E.key := List.take_of_length_le (by simp; omega)
                          rw [hmT]
                          clear hmT
                          have hw0 := HLWm.out.q.1.1.1.c0
                          obtain ⟨b9', o9', e9, hc9⟩ := (strs_q HLWm.out.q.1.1.2).cell HGQ.out
                          injection e9 with e9
                          injection e9 with e9a e9b
                          subst e9a e9b
                          cases hg : hasK (T.map E.key) x with
                          | true =>
                            have HAT : Hid ((atKey M x).isSome = false) := Lib.hid (by rw [HALL.out, hg]; rfl)
                            clear hg HALL
                            go_wp2_with fail
                            go_quiet ((go_at_call 21; exact quiet_same (has_eq (HLWm.out.keep ((Keep.refl _ _).drewN _)) HKS.out HAT.out)))
                            have HLWn := Lib.hid (HLWm.out.keep ((Keep.refl _ _).drewN nq))
                            go_wp2_with fail
                            go_roundw
                            case rel => exact ⟨q + 1, by omega, by go_num, HLWn.out⟩
                            case measure => simp [intOf]; omega
                          | false =>
                            have HAT : Hid ((atKey M x).isSome = true) := Lib.hid (by rw [HALL.out, hg]; rfl)
                            clear hg HALL
                            go_wp2_with fail
                            go_quiet ((go_at_call 21; exact quiet_same (has_eq (HLWm.out.keep ((Keep.refl _ _).drewN _)) HKS.out HAT.out)))
                            have HLWn := Lib.hid (HLWm.out.keep ((Keep.refl _ _).drewN nq))
                            go_wp2_with fail
                            go_roundw
                            case rel => exact ⟨q + 1, by omega, by go_num, HLWn.out⟩
                            case measure => simp [intOf]; omega
                    · have HE : Hid (FewR w b p g cp' bz cap sh wr) := Lib.hid ⟨M, _, HLWq.out.imp (T := (Side.world b p g cp' cap sh).and (.arr bz (updZ (zeroZ Z T) kx z))) (fun h => ⟨h.1.1.1, h.2⟩) (fun b hb => hb.elim (fun h => .inl (.inl (.inl h))) (fun h => .inr h)), HIN.out⟩
                      go_wp2_with fail
                      go_roundw
                      case rel => exact ⟨k + 1, by omega, by omega, by go_num, HE.out⟩
                      case measure => simp [intOf]; omega
    · by_cases hkn : k < ln
      · go_wp2_with fail
        go_ret
        exact ⟨rfl, HLW.out.k.low⟩
      · go_wp2_with fail
        go_ret
        exact ⟨rfl, HLW.out.k.low⟩
end Go.Proofs.Ytigkhglgoabjaaa
