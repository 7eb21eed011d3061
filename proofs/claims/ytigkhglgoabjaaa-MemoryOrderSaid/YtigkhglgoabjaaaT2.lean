/-
  MemoryOrder: the walk.
-/
import Derived.Test.YtigkhglgoabjaaaT1
namespace Go.Proofs.Ytigkhglgoabjaaa
open Go.RowKit Go.Shelf

theorem ints_new1 (W : World) (x : Int) : IntsAt (W.alloc (.cells #[.int .i64 x] 3)) W.heap.size 0 [x] := by
  intro j v hj
  have hh : (W.alloc (.cells #[.int .i64 x] 3)).heap[W.heap.size]? = some (.cells #[.int .i64 x] 3) := World.alloc_heap_new _ _
  match j, hj with
  | 0, hj => cases hj; unfold World.cell?; simp only [hh]; rfl
theorem StrsAt.cell {W : World} {a : Option Addr} {n c : Nat} {xs : List ByteArray} (h : StrsAt W (.slice a n c) xs) {j : Nat} {s : ByteArray} (hj : xs[j]? = some s) : ∃ b off, a = some ⟨b, off, none⟩ ∧ W.cell? ⟨b, off + j, none⟩ = some (.string s) := by
  obtain ⟨a', c', e, h⟩ := h
  cases e
  exact h j s hj

/-- The relation of the loop: want is what the pool holds. -/
def OrdR (w : World) (p : Nat) (n : Int) (v : Value) (W : World) : Prop :=
  ∃ L a nw cw, v = .slice a nw cw ∧ nw = L.length ∧ LW w p n [n] L (.strs (.slice a nw cw) (L.map E.key)) W ∧ ∀ x ∈ L, x.t = 0

/-- The inner loop: what is kept so far. -/
def RestR (W : World) (ks : List ByteArray) (key : ByteArray) (j : Nat) (v : Value) (wr : World) : Prop :=
  ∃ nr, wr.ownsRow W.heap.size 9 1 v nr ((woK (ks.take j) key).map Value.string) ∧ Keep (fun _ => False) W wr

set_option maxRecDepth 100000 in
set_option maxHeartbeats 1000000 in
theorem order_some (c : Int) (lb lo ln lc : Nat) (f : Nat → Nat → Int) (w : World) (h1 : -9223372036854775808 ≤ c) (h2 : c ≤ 9223372036854775807)
    (hl : ln ≤ 9223372036854775807) (hst : Steps w lb lo ln f) :
    Calls Try.prog 7 #[.int .i64 c, .slice (some ⟨lb, lo, none⟩) ln lc] w fun e w' => e = .returned (.bool true) ∧ Below w.heap.size w w' := by
  have HST := Lib.hid hst; clear hst
  go_enter Try.func7, Try.ntmps7
  go_wp2_with fail
  with_reducible refine (sane_any _).mono ?_
  rintro e W1 ⟨rfl, k⟩
  have K1 := Lib.hid k
  clear k
  have hpb := pk_bd c 30 (by omega)
  go_wp2_with fail
  with_reducible refine (pick_any _ _ _ h1 h2 (by omega) (by omega)).mono ?_
  rintro e w' ⟨rfl, rfl⟩
  go_wp2_with fail
  obtain ⟨n, hn⟩ : ∃ n, 1 + pk c 30 = n := ⟨_, rfl⟩
  rw [hn]
  have hn1 : 1 ≤ n := by omega
  have hn2 : n ≤ 30 := by omega
  clear hn hpb
  with_reducible refine (new_ok n _ 0 1 1 [n] _ rfl (by omega) (by omega) (by decide) (by decide) (ints_new1 _ n) (by simp [sharesOk]; omega)).mono ?_
  rintro e W2 ⟨P, rfl, hP, e1, e2, e3, k2, hf⟩
  have HL : Hid (OrdR w P.p n (.slice none 0 0) W2) := Lib.hid ⟨[], none, 0, 0, rfl, rfl, ⟨P, ⟨hP, (K1.out.alloc _).trans k2, fun i hi => Nat.le_trans (K1.out.alloc _).size (hf i hi)⟩, rfl, e1, e2, e3, ⟨none, 0, rfl, fun j s hj => by cases hj⟩, fun b hb => by cases hb⟩, fun x hx => by cases hx⟩
  clear hP k2 hf e1 e2 e3
  generalize P.p = p at *
  clear P
  go_wp2_with fail
  go_loopw [9, 10] (fun v i wr => ∃ k : Nat, k ≤ ln ∧ k ≤ 60 ∧ i = .int .i64 k ∧ OrdR w p n v wr) (fun _ i _ => 60 - (intOf i).toNat)
  case atStart => exact ⟨0, by omega, by omega, rfl, HL.out⟩
  case round =>
    obtain ⟨k, hk, hk6, rfl, L, a, nw, cw, rfl, hnw, hlw, h0⟩ := hrel
    have HLW := Lib.hid hlw
    have H0 := Lib.hid h0
    have HNW := Lib.hid hnw
    clear hlw h0 hnw HL
    by_cases hlt : k < ln ∧ k < 60
    · obtain ⟨hlt, hlt6⟩ := hlt
      have hc2 := HLW.out.k.cell (HST.out.cell k 2 hlt (by omega)) (fun h => h)
      go_wp2_with fail
      with_reducible refine (name_any _ _ (HST.out.lo k 2) (HST.out.hi k 2)).mono ?_
      rintro e W3 ⟨rfl, k3⟩
      have HLW3 := Lib.hid (HLW.out.keep k3)
      clear hc2 HLW k3
      have hkey : (nm (f k 2)).size ≤ maxLen := one_small _
      have HK := Lib.hid hkey
      clear hkey
      generalize nm (f k 2) = key at *
      have hnwb : nw ≤ 1000000 := by
        have hsn := HLW3.out.sane
        have := length_le_tot L (fun x hx => (hsn.rng x hx).2)
        have := hsn.le
        have := hsn.cap
        have := HNW.out
        omega
      have HSN := Lib.hid HLW3.out.sane
      go_wp2_with fail
      go_loopw [12, 13] (fun v i W4 => ∃ j : Nat, j ≤ nw ∧ i = .int .i64 j ∧ RestR W3 (L.map E.key) key j v W4) (fun _ i _ => nw - (intOf i).toNat)
      case atStart => exact ⟨0, by omega, rfl, 0, World.ownsRow_nil _ _ _ _, Keep.refl _ _⟩
      case round =>
        obtain ⟨j, hj, rfl, nr, ho, kk⟩ := hrel
        have hnr : nr ≤ j := by
          have := ho.1
          have h2 := woK_le (L.map E.key) key j
          simp at this
          omega
        obtain ⟨a', c', rfl⟩ := ownsRow_form ho
        by_cases hjl : j < nw
        · have hgj : (L.map E.key)[j]? = some ((L.map E.key).getD j ⟨#[]⟩) := by rw [List.getD_eq_getElem?_getD, List.getElem?_eq_getElem (by have := HNW.out; simp; omega)]; rfl
          obtain ⟨bw, ow, rfl, hcw⟩ := (HLW3.out.keep kk).q.cell hgj
          have HWT := Lib.hid (woK_take (L.map E.key) key hgj)
          clear hgj
          generalize (L.map E.key).getD j ⟨#[]⟩ = y at *
          by_cases hyk : y = key
          · have hbe : (y.toList == key.toList) = true := by rw [hyk]; simp
            have HF : Hid (RestR W3 (L.map E.key) key (j + 1) (.slice a' nr c') wr) := Lib.hid ⟨nr, by rw [HWT.out, if_pos hyk, List.append_nil]; exact ho, kk⟩
            clear hyk HWT ho kk
            go_wp2_with fail
            go_roundw
            case rel => exact ⟨j + 1, by omega, by go_num, HF.out⟩
            case measure => simp [intOf]; omega
          · have hbe : (y.toList == key.toList) = false := by
              rw [beq_eq_false_iff_ne]
              intro e
              exact hyk (toList_inj e)
            obtain ⟨v', w', r1, r2, r3, r4, r5⟩ := app_str wr 38 W3.heap.size (.slice a' nr c') nr _ y ho (by omega) kk.size
            have hlt' := ho.lt
            have HF : Hid (RestR W3 (L.map E.key) key (j + 1) v' w') := Lib.hid ⟨nr + 1, by rw [HWT.out, if_neg hyk, List.map_append]; exact r2, kk.none_of r3 (fun i hi => (hlt' i hi).1)⟩
            clear hyk HWT ho kk r2 r3 r4 r5 hlt'
            go_wp2_with (at_builtin; refine wpList_app rfl (.tmp 62) (.tmp 67) 38 rfl rfl rfl r1 ?_)
            go_roundw
            case rel => exact ⟨j + 1, by omega, by go_num, HF.out⟩
            case measure => simp [intOf]; omega
        · have hall : (L.map E.key).take j = L.map E.key := List.take_of_length_le (by have := HNW.out; simp; omega)
          rw [hall, woK_keys] at ho
          have HLW4 : Hid (LW w p n [n] L ((Side.strs (.slice a nw cw) (L.map E.key)).and (.owns w.heap.size (.slice a' nr c') nr ((woE L key).map E.key))) wr) := Lib.hid ((HLW3.out.add (T := .owns W3.heap.size (.slice a' nr c') nr ((woE L key).map E.key)) kk ho (fun b hb => ho.lt b hb)).imp (T := (Side.strs (.slice a nw cw) (L.map E.key)).and (.owns w.heap.size (.slice a' nr c') nr ((woE L key).map E.key))) (fun h => ⟨h.1, ownsRow_lower h.2 HLW3.out.k.size⟩) (fun b hb => hb))
          have HNR : Hid (nr = (woE L key).length) := Lib.hid (by have := ho.1; simp at this; omega)
          clear ho kk hall HLW3
          by_cases hth : nr < nw
          · have hc0 := HLW4.out.k.cell (HST.out.cell k 0 hlt (by omega)) (fun h => h)
            rw [Nat.add_zero] at hc0
            have hthd : decide (nr < nw) = true := by simpa using hth
            have HIS : Hid ((atKey L key).isSome = true) := Lib.hid (by rw [woE_len HSN.out.keys, ← HNR.out, ← HNW.out]; exact hthd)
            go_wp2_with fail
            obtain ⟨q, hq, hq8⟩ := pk_lit (f k 0) 8 (by omega)
            with_reducible refine (pick_lit (f k 0) 8 q _ (HST.out.lo k 0) (HST.out.hi k 0) (by omega) (by omega) hq).mono ?_
            rintro e w' ⟨rfl, rfl⟩
            clear hq hc0
            by_cases hq0 : q = 0
            · subst hq0
              go_wp2_with fail
              with_reducible refine (touch_lw _ HLW4.out HK.out).mono ?_
              rintro e W5 ⟨rfl, h⟩
              have HLW5 := Lib.hid h
              clear h HLW4
              rw [HIS.out]
              obtain ⟨v', w', r1, r2, r3, r4, g5, c5, rfl⟩ := app_str W5 38 w.heap.size (.slice a' nr c') nr _ key HLW5.out.q.2 (by omega) HLW5.out.k.size
              have HE : Hid (LW w p n [n] (touI L key) (.strs (.slice (some ⟨g5, 0, none⟩) (nr + 1) c5) ((touI L key).map E.key)) w') := Lib.hid (by
                rw [(tou_keys HSN.out.keys key HIS.out).1]
                exact (HLW5.out.right.app (Nat.le_refl _) r2 r3 r4).imp (T := .strs _ _) owns_strs (fun b hb => hb))
              have HM0 : Hid (∀ x ∈ touI L key, x.t = 0) := Lib.hid ((tou_keys HSN.out.keys key HIS.out).2 H0.out)
              have HVL : Hid (nr + 1 = (touI L key).length) := Lib.hid (by
                have := congrArg List.length (tou_keys HSN.out.keys key HIS.out).1
                rw [List.length_map, List.length_append, List.length_map, ← HNR.out] at this
                exact this.symm)
              clear HLW5 HIS r2 r3 r4
              generalize touI L key = M at *
              go_wp2_with (at_builtin; refine wpList_app rfl (.tmp 130) (.tmp 132) 38 rfl rfl rfl r1 ?_)
              have hle : M.length ≤ 1000000 := by
                have hsn := HE.out.sane
                have := length_le_tot M (fun x hx => (hsn.rng x hx).2)
                have := hsn.le
                have := hsn.cap
                omega
              have HB : Hid (keysOf M 0 = M.map E.key) := Lib.hid (keysOf_all HM0.out)
              go_wp2_with fail
              with_reducible refine (keys_lw 0 HE.out).mono ?_
              rintro e W7 ⟨a7, c7, rfl, h, _⟩
              have HE7 := Lib.hid h
              clear h
              have HQ1 := Lib.hid (strs_q HE7.out.q.1)
              have HQ2 := Lib.hid (strs_q HE7.out.q.2)
              go_wp2_with fail
              with_reducible refine (same_any _ _ (keysOf M 0) (M.map E.key) _ HQ2.out HQ1.out (by rw [HB.out, List.length_map]; omega) (by rw [List.length_map]; omega)).mono ?_
              rintro e W8 ⟨rfl, m8, rfl⟩
              have HE8 := Lib.hid (HE7.out.left.keep ((Keep.refl _ W7).drewN m8))
              rw [show decide (keysOf M 0 = M.map E.key) = true from decide_eq_true HB.out]
              go_wp2_with fail
              go_roundw
              case rel => exact ⟨k + 1, by omega, by omega, by go_num, M, _, _, _, rfl, HVL.out, HE8.out, HM0.out⟩
              case measure => simp [intOf]; omega
            · have hq0' : ((q : Int) == 0) = false := by simp; omega
              by_cases hq1 : q = 1
              · subst hq1
                go_wp2_with fail
                with_reducible refine (remove_lw _ HLW4.out HK.out).mono ?_
                rintro e W5 ⟨rfl, h⟩
                have HLW5 := Lib.hid h
                clear h HLW4
                rw [HIS.out]
                have HE : Hid (LW w p n [n] (woE L key) (.strs (.slice a' nr c') ((woE L key).map E.key)) W5) := Lib.hid (HLW5.out.right.imp (T := .strs _ _) owns_strs (fun b hb => hb))
                have HM0 : Hid (∀ x ∈ woE L key, x.t = 0) := Lib.hid (fun x hx => H0.out x (woE_mem hx).1)
                have HVL := HNR
                clear HLW5 HIS
                have hle : (woE L key).length ≤ 1000000 := by
                  have hsn := HE.out.sane
                  have := length_le_tot (woE L key) (fun x hx => (hsn.rng x hx).2)
                  have := hsn.le
                  have := hsn.cap
                  omega
                have HB : Hid (keysOf (woE L key) 0 = (woE L key).map E.key) := Lib.hid (keysOf_all HM0.out)
                go_wp2_with fail
                with_reducible refine (keys_lw 0 HE.out).mono ?_
                rintro e W7 ⟨a7, c7, rfl, h, _⟩
                have HE7 := Lib.hid h
                clear h
                have HQ1 := Lib.hid (strs_q HE7.out.q.1)
                have HQ2 := Lib.hid (strs_q HE7.out.q.2)
                go_wp2_with fail
                with_reducible refine (same_any _ _ (keysOf (woE L key) 0) ((woE L key).map E.key) _ HQ2.out HQ1.out (by rw [HB.out, List.length_map]; omega) (by rw [List.length_map]; omega)).mono ?_
                rintro e W8 ⟨rfl, m8, rfl⟩
                have HE8 := Lib.hid (HE7.out.left.keep ((Keep.refl _ W7).drewN m8))
                rw [show decide (keysOf (woE L key) 0 = (woE L key).map E.key) = true from decide_eq_true HB.out]
                go_wp2_with fail
                go_roundw
                case rel => exact ⟨k + 1, by omega, by omega, by go_num, (woE L key), _, _, _, rfl, HVL.out, HE8.out, HM0.out⟩
                case measure => simp [intOf]; omega
              · have hq1' : ((q : Int) == 1) = false := by simp; omega
                have hc3 := HLW4.out.k.cell (HST.out.cell k 3 hlt (by omega)) (fun h => h)
                have hpb := pk_bd (f k 3) 12 (by omega)
                clear HIS
                go_wp2_with fail
                with_reducible refine (pick_any _ _ _ (HST.out.lo k 3) (HST.out.hi k 3) (by omega) (by omega)).mono ?_
                rintro e w' ⟨rfl, rfl⟩
                clear hc3
                generalize pk (f k 3) 12 = z at *
                go_wp2_with fail
                have HOP := Lib.hid (order_put (z := 1 + z) HSN.out H0.out key (by omega))
                with_reducible refine (put_lw 0 _ _ HLW4.out HK.out (by omega)).mono ?_
                rintro e W5 ⟨a5, c5, rfl, h⟩
                clear HLW4
                generalize putI n [n] L 0 key (1 + z) = r at *
                obtain ⟨d, T, M⟩ := r
                simp only at HOP h ⊢
                have HLW5 := Lib.hid h
                clear h
                cases d with
                | false =>
                  obtain ⟨hT, hM⟩ := HOP.out.2 rfl
                  subst hT; subst hM
                  have HE : Hid (LW w p n [n] M (.strs (.slice a nw cw) (M.map E.key)) W5) := Lib.hid HLW5.out.left.left
                  have HM0 := H0
                  have HVL := HNW
                  clear HLW5 HOP
                  have hle : M.length ≤ 1000000 := by
                    have hsn := HE.out.sane
                    have := length_le_tot M (fun x hx => (hsn.rng x hx).2)
                    have := hsn.le
                    have := hsn.cap
                    omega
                  have HB : Hid (keysOf M 0 = M.map E.key) := Lib.hid (keysOf_all HM0.out)
                  go_wp2_with fail
                  with_reducible refine (keys_lw 0 HE.out).mono ?_
                  rintro e W7 ⟨a7, c7, rfl, h, _⟩
                  have HE7 := Lib.hid h
                  clear h
                  have HQ1 := Lib.hid (strs_q HE7.out.q.1)
                  have HQ2 := Lib.hid (strs_q HE7.out.q.2)
                  go_wp2_with fail
                  with_reducible refine (same_any _ _ (keysOf M 0) (M.map E.key) _ HQ2.out HQ1.out (by rw [HB.out, List.length_map]; omega) (by rw [List.length_map]; omega)).mono ?_
                  rintro e W8 ⟨rfl, m8, rfl⟩
                  have HE8 := Lib.hid (HE7.out.left.keep ((Keep.refl _ W7).drewN m8))
                  rw [show decide (keysOf M 0 = M.map E.key) = true from decide_eq_true HB.out]
                  go_wp2_with fail
                  go_roundw
                  case rel => exact ⟨k + 1, by omega, by omega, by go_num, M, _, _, _, rfl, HVL.out, HE8.out, HM0.out⟩
                  case measure => simp [intOf]; omega
                | true =>
                  obtain ⟨Mx, hwo, hM⟩ := HOP.out.1 rfl
                  subst hM
                  have HWO := Lib.hid hwo
                  clear hwo HOP
                  have hTn : T.length ≤ nr := by rw [HNR.out, HWO.out]; simp
                  have HTL : Hid (T.length ≤ (woE L key).length) := Lib.hid (by rw [HWO.out]; simp)
                  have HSQ := Lib.hid (owns_strs HLW5.out.q.1.2)
                  have HSO := Lib.hid (strs_q HLW5.out.q.2)
                  have HSE : Hid (decide (T.map E.key = ((woE L key).map E.key).take T.length) = true) := Lib.hid (decide_eq_true (by rw [HWO.out, List.map_append, List.take_left' (by simp)]))
                  have hnl : (woE L key).length ≤ 1000000 := by rw [← HNR.out]; omega
                  rcases ownsRow_cap HLW5.out.q.1.2 with ⟨rfl, rfl, rfl⟩ | ⟨g, rfl, hrc, hcm⟩
                  · have hT0 : T = [] := List.eq_nil_of_length_eq_zero (by omega)
                    subst hT0
                    have hMx : Mx = [] := by
                      have := HWO.out
                      have h2 := HNR.out
                      rw [this] at h2
                      simp at h2
                      exact List.eq_nil_of_length_eq_zero h2.symm
                    subst hMx
                    have HS0 : Hid (StrsAt W5 (.slice a5 0 c5) []) := Lib.hid HSO.out
                    have HNN : Hid (StrsAt W5 (.slice none 0 0) []) := Lib.hid ⟨none, 0, rfl, fun j s hj => by cases hj⟩
                    go_wp2_with fail
                    with_reducible refine (same_any _ _ _ _ _ HS0.out HNN.out (by simp) (by simp)).mono ?_
                    rintro e W6 ⟨rfl, m6, rfl⟩
                    rw [show decide (([] : List ByteArray) = []) = true from rfl]
                    have HLW6 := Lib.hid (HLW5.out.keep ((Keep.refl _ W5).drewN m6))
                    clear HLW5 HSQ HSO HSE HTL HNN HS0
                    generalize W5.drewN m6 = W6 at *
                    have HLN : Hid (LW w p n [n] ([] ++ [⟨key, 0, 1 + z⟩]) (.owns w.heap.size (.slice none 0 0) 0 []) W6) := Lib.hid (HLW6.out.imp (T := .owns _ _ _ _) (fun _ => World.ownsRow_nil _ _ _ _) (fun b hb => by cases hb))
                    obtain ⟨v', w', r1, r2, r3, r4, g5, c6, rfl⟩ := app_str W6 38 w.heap.size (.slice none 0 0) 0 [] key (World.ownsRow_nil _ _ _ _) (by omega) HLN.out.k.size
                    have HE : Hid (LW w p n [n] ([] ++ [⟨key, 0, 1 + z⟩]) (.strs (.slice (some ⟨g5, 0, none⟩) 1 c6) (([] ++ [⟨key, 0, 1 + z⟩] : List E).map E.key)) w') := Lib.hid ((HLN.out.app (Nat.le_refl _) r2 r3 r4).imp (T := .strs _ _) owns_strs (fun b hb => hb))
                    have HM0 : Hid (∀ x ∈ ([] ++ [⟨key, 0, 1 + z⟩] : List E), x.t = 0) := Lib.hid (fun x hx => by simp at hx; rw [hx])
                    have HVL : Hid (1 = ([] ++ [⟨key, 0, 1 + z⟩] : List E).length) := Lib.hid rfl
                    clear HLW6 HLN r2 r3 r4 HWO
                    generalize ([] ++ [⟨key, 0, 1 + z⟩] : List E) = M at *
                    go_wp2_with (at_builtin; refine wpList_app rfl (.tmp 118) (.tmp 120) 38 rfl rfl rfl r1 ?_)
                    have hle : M.length ≤ 1000000 := by
                      have hsn := HE.out.sane
                      have := length_le_tot M (fun x hx => (hsn.rng x hx).2)
                      have := hsn.le
                      have := hsn.cap
                      omega
                    have HB : Hid (keysOf M 0 = M.map E.key) := Lib.hid (keysOf_all HM0.out)
                    go_wp2_with fail
                    with_reducible refine (keys_lw 0 HE.out).mono ?_
                    rintro e W7 ⟨a7, c7, rfl, h, _⟩
                    have HE7 := Lib.hid h
                    clear h
                    have HQ1 := Lib.hid (strs_q HE7.out.q.1)
                    have HQ2 := Lib.hid (strs_q HE7.out.q.2)
                    go_wp2_with fail
                    with_reducible refine (same_any _ _ (keysOf M 0) (M.map E.key) _ HQ2.out HQ1.out (by rw [HB.out, List.length_map]; omega) (by rw [List.length_map]; omega)).mono ?_
                    rintro e W8 ⟨rfl, m8, rfl⟩
                    have HE8 := Lib.hid (HE7.out.left.keep ((Keep.refl _ W7).drewN m8))
                    rw [show decide (keysOf M 0 = M.map E.key) = true from decide_eq_true HB.out]
                    go_wp2_with fail
                    go_roundw
                    case rel => exact ⟨k + 1, by omega, by omega, by go_num, M, _, _, _, rfl, HVL.out, HE8.out, HM0.out⟩
                    case measure => simp [intOf]; omega
                  · have HSS := Lib.hid (HSQ.out.take T.length c' (by rw [List.length_map]; exact HTL.out))
                    go_wp2_with fail
                    with_reducible refine (same_any _ _ _ _ _ HSO.out HSS.out (by rw [List.length_map]; omega) (by rw [List.length_take, List.length_map]; omega)).mono ?_
                    rintro e W6 ⟨rfl, m6, rfl⟩
                    rw [HSE.out]
                    have HLW6 := Lib.hid (HLW5.out.keep ((Keep.refl _ W5).drewN m6))
                    clear HLW5
                    generalize W5.drewN m6 = W6 at *
                    have hTT : T.length ≤ nr ∧ nr ≤ c' := by omega
                    have HSR := Lib.hid (owns_strs HLW6.out.q.1.2)
                    have HML : Hid (nr - T.length = Mx.length) := Lib.hid (by have := HNR.out; rw [HWO.out] at this; simp at this; omega)
                    have HM0 : Hid (∀ x ∈ Mx ++ [⟨key, 0, 1 + z⟩], x.t = 0) := Lib.hid (fun x hx => by
                      rcases List.mem_append.1 hx with hx | hx
                      · exact H0.out x (woE_mem (by rw [HWO.out]; exact List.mem_append_right _ hx)).1
                      · rw [List.mem_singleton] at hx; rw [hx])
                    have HVL : Hid (nr - T.length + 1 = (Mx ++ [⟨key, 0, 1 + z⟩] : List E).length) := Lib.hid (by rw [HML.out]; simp)
                    by_cases hTe : T.length = nr
                    · have hMx : Mx = [] := List.eq_nil_of_length_eq_zero (by have := HML.out; omega)
                      subst hMx
                      obtain ⟨v', w', r1, r2, r3, g5, c6, rfl⟩ := app_cut W6 g 0 0 [] key rfl (fun j s hj => by cases hj) (by omega)
                      have HE : Hid (LW w p n [n] ([] ++ [⟨key, 0, 1 + z⟩]) (.strs (.slice (some ⟨g5, 0, none⟩) 1 c6) (([] ++ [⟨key, 0, 1 + z⟩] : List E).map E.key)) w') := Lib.hid (HLW6.out.add (T := .strs (.slice (some ⟨g5, 0, none⟩) 1 c6) (([] ++ [⟨key, 0, 1 + z⟩] : List E).map E.key)) r3 (StrsAt.of_owns r2) (fun b hb => World.ownsRow.lt r2 b hb)).right
                      have HVL2 : Hid (1 = ([] ++ [⟨key, 0, 1 + z⟩] : List E).length) := Lib.hid rfl
                      clear HVL
                      have HVL := HVL2
                      clear HVL2 HLW6 r2 r3 HWO HSR HML HSS HSE HSQ HSO HTL
                      generalize ([] ++ [⟨key, 0, 1 + z⟩] : List E) = M at *
                      go_wp2_with (at_builtin; refine wpList_app rfl (.tmp 118) (.tmp 120) 38 rfl rfl rfl r1 ?_)
                      have hle : M.length ≤ 1000000 := by
                        have hsn := HE.out.sane
                        have := length_le_tot M (fun x hx => (hsn.rng x hx).2)
                        have := hsn.le
                        have := hsn.cap
                        omega
                      have HB : Hid (keysOf M 0 = M.map E.key) := Lib.hid (keysOf_all HM0.out)
                      go_wp2_with fail
                      with_reducible refine (keys_lw 0 HE.out).mono ?_
                      rintro e W7 ⟨a7, c7, rfl, h, _⟩
                      have HE7 := Lib.hid h
                      clear h
                      have HQ1 := Lib.hid (strs_q HE7.out.q.1)
                      have HQ2 := Lib.hid (strs_q HE7.out.q.2)
                      go_wp2_with fail
                      with_reducible refine (same_any _ _ (keysOf M 0) (M.map E.key) _ HQ2.out HQ1.out (by rw [HB.out, List.length_map]; omega) (by rw [List.length_map]; omega)).mono ?_
                      rintro e W8 ⟨rfl, m8, rfl⟩
                      have HE8 := Lib.hid (HE7.out.left.keep ((Keep.refl _ W7).drewN m8))
                      rw [show decide (keysOf M 0 = M.map E.key) = true from decide_eq_true HB.out]
                      go_wp2_with fail
                      go_roundw
                      case rel => exact ⟨k + 1, by omega, by omega, by go_num, M, _, _, _, rfl, HVL.out, HE8.out, HM0.out⟩
                      case measure => simp [intOf]; omega
                    · have hTl : T.length < nr := by omega
                      obtain ⟨v', w', r1, r2, r3, g5, c6, rfl⟩ := app_cut W6 g T.length (nr - T.length) (Mx.map E.key) key (by rw [List.length_map, HML.out]) (fun j s hj => by
                        have hj2 : ((woE L key).map E.key)[T.length + j]? = some s := by rw [HWO.out, List.map_append, List.getElem?_append_right (by simp)]; simpa using hj
                        obtain ⟨b', o', e', hc'⟩ := HSR.out.cell hj2
                        injection e' with e'
                        injection e' with e1 e2
                        subst e1 e2
                        rw [Nat.zero_add] at hc'
                        exact hc') (by omega)
                      have HE : Hid (LW w p n [n] (Mx ++ [⟨key, 0, 1 + z⟩]) (.strs (.slice (some ⟨g5, 0, none⟩) (nr - T.length + 1) c6) ((Mx ++ [⟨key, 0, 1 + z⟩] : List E).map E.key)) w') := Lib.hid (HLW6.out.add (T := .strs (.slice (some ⟨g5, 0, none⟩) (nr - T.length + 1) c6) ((Mx ++ [⟨key, 0, 1 + z⟩] : List E).map E.key)) r3 (by rw [List.map_append]; exact StrsAt.of_owns r2) (fun b hb => World.ownsRow.lt r2 b hb)).right
                      clear HLW6 r2 r3 HWO HSR HML HSS HSE HSQ HSO HTL
                      generalize Mx ++ [⟨key, 0, 1 + z⟩] = M at *
                      go_wp2_with (at_builtin; refine wpList_app rfl (.tmp 118) (.tmp 120) 38 rfl rfl rfl r1 ?_)
                      have hle : M.length ≤ 1000000 := by
                        have hsn := HE.out.sane
                        have := length_le_tot M (fun x hx => (hsn.rng x hx).2)
                        have := hsn.le
                        have := hsn.cap
                        omega
                      have HB : Hid (keysOf M 0 = M.map E.key) := Lib.hid (keysOf_all HM0.out)
                      go_wp2_with fail
                      with_reducible refine (keys_lw 0 HE.out).mono ?_
                      rintro e W7 ⟨a7, c7, rfl, h, _⟩
                      have HE7 := Lib.hid h
                      clear h
                      have HQ1 := Lib.hid (strs_q HE7.out.q.1)
                      have HQ2 := Lib.hid (strs_q HE7.out.q.2)
                      go_wp2_with fail
                      with_reducible refine (same_any _ _ (keysOf M 0) (M.map E.key) _ HQ2.out HQ1.out (by rw [HB.out, List.length_map]; omega) (by rw [List.length_map]; omega)).mono ?_
                      rintro e W8 ⟨rfl, m8, rfl⟩
                      have HE8 := Lib.hid (HE7.out.left.keep ((Keep.refl _ W7).drewN m8))
                      rw [show decide (keysOf M 0 = M.map E.key) = true from decide_eq_true HB.out]
                      go_wp2_with fail
                      go_roundw
                      case rel => exact ⟨k + 1, by omega, by omega, by go_num, M, _, _, _, rfl, HVL.out, HE8.out, HM0.out⟩
                      case measure => simp [intOf]; omega
          · have hc0 := HLW4.out.k.cell (HST.out.cell k 0 hlt (by omega)) (fun h => h)
            rw [Nat.add_zero] at hc0
            have hthd : decide (nr < nw) = false := by simpa using hth
            have HIS : Hid ((atKey L key).isSome = false) := Lib.hid (by rw [woE_len HSN.out.keys, ← HNR.out, ← HNW.out]; exact hthd)
            go_wp2_with fail
            obtain ⟨q, hq, hq8⟩ := pk_lit (f k 0) 8 (by omega)
            with_reducible refine (pick_lit (f k 0) 8 q _ (HST.out.lo k 0) (HST.out.hi k 0) (by omega) (by omega) hq).mono ?_
            rintro e w' ⟨rfl, rfl⟩
            clear hq hc0
            by_cases hq0 : q = 0
            · subst hq0
              go_wp2_with fail
              with_reducible refine (touch_lw _ HLW4.out HK.out).mono ?_
              rintro e W5 ⟨rfl, h⟩
              have HLW5 := Lib.hid h
              clear h HLW4
              rw [HIS.out]
              have HTN := Lib.hid (tou_none HIS.out)
              have HE : Hid (LW w p n [n] L (.strs (.slice a nw cw) (L.map E.key)) W5) := Lib.hid (by have := HLW5.out.left; rw [HTN.out.1] at this; exact this)
              have HM0 := H0
              have HVL := HNW
              clear HLW5 HIS HTN
              have hle : L.length ≤ 1000000 := by
                have hsn := HE.out.sane
                have := length_le_tot L (fun x hx => (hsn.rng x hx).2)
                have := hsn.le
                have := hsn.cap
                omega
              have HB : Hid (keysOf L 0 = L.map E.key) := Lib.hid (keysOf_all HM0.out)
              go_wp2_with fail
              with_reducible refine (keys_lw 0 HE.out).mono ?_
              rintro e W7 ⟨a7, c7, rfl, h, _⟩
              have HE7 := Lib.hid h
              clear h
              have HQ1 := Lib.hid (strs_q HE7.out.q.1)
              have HQ2 := Lib.hid (strs_q HE7.out.q.2)
              go_wp2_with fail
              with_reducible refine (same_any _ _ (keysOf L 0) (L.map E.key) _ HQ2.out HQ1.out (by rw [HB.out, List.length_map]; omega) (by rw [List.length_map]; omega)).mono ?_
              rintro e W8 ⟨rfl, m8, rfl⟩
              have HE8 := Lib.hid (HE7.out.left.keep ((Keep.refl _ W7).drewN m8))
              rw [show decide (keysOf L 0 = L.map E.key) = true from decide_eq_true HB.out]
              go_wp2_with fail
              go_roundw
              case rel => exact ⟨k + 1, by omega, by omega, by go_num, L, _, _, _, rfl, HVL.out, HE8.out, HM0.out⟩
              case measure => simp [intOf]; omega
            · have hq0' : ((q : Int) == 0) = false := by simp; omega
              by_cases hq1 : q = 1
              · subst hq1
                go_wp2_with fail
                with_reducible refine (remove_lw _ HLW4.out HK.out).mono ?_
                rintro e W5 ⟨rfl, h⟩
                have HLW5 := Lib.hid h
                clear h HLW4
                rw [HIS.out]
                have HE : Hid (LW w p n [n] (woE L key) (.strs (.slice a' nr c') ((woE L key).map E.key)) W5) := Lib.hid (HLW5.out.right.imp (T := .strs _ _) owns_strs (fun b hb => hb))
                have HM0 : Hid (∀ x ∈ woE L key, x.t = 0) := Lib.hid (fun x hx => H0.out x (woE_mem hx).1)
                have HVL := HNR
                clear HLW5 HIS
                have hle : (woE L key).length ≤ 1000000 := by
                  have hsn := HE.out.sane
                  have := length_le_tot (woE L key) (fun x hx => (hsn.rng x hx).2)
                  have := hsn.le
                  have := hsn.cap
                  omega
                have HB : Hid (keysOf (woE L key) 0 = (woE L key).map E.key) := Lib.hid (keysOf_all HM0.out)
                go_wp2_with fail
                with_reducible refine (keys_lw 0 HE.out).mono ?_
                rintro e W7 ⟨a7, c7, rfl, h, _⟩
                have HE7 := Lib.hid h
                clear h
                have HQ1 := Lib.hid (strs_q HE7.out.q.1)
                have HQ2 := Lib.hid (strs_q HE7.out.q.2)
                go_wp2_with fail
                with_reducible refine (same_any _ _ (keysOf (woE L key) 0) ((woE L key).map E.key) _ HQ2.out HQ1.out (by rw [HB.out, List.length_map]; omega) (by rw [List.length_map]; omega)).mono ?_
                rintro e W8 ⟨rfl, m8, rfl⟩
                have HE8 := Lib.hid (HE7.out.left.keep ((Keep.refl _ W7).drewN m8))
                rw [show decide (keysOf (woE L key) 0 = (woE L key).map E.key) = true from decide_eq_true HB.out]
                go_wp2_with fail
                go_roundw
                case rel => exact ⟨k + 1, by omega, by omega, by go_num, (woE L key), _, _, _, rfl, HVL.out, HE8.out, HM0.out⟩
                case measure => simp [intOf]; omega
              · have hq1' : ((q : Int) == 1) = false := by simp; omega
                have hc3 := HLW4.out.k.cell (HST.out.cell k 3 hlt (by omega)) (fun h => h)
                have hpb := pk_bd (f k 3) 12 (by omega)
                clear HIS
                go_wp2_with fail
                with_reducible refine (pick_any _ _ _ (HST.out.lo k 3) (HST.out.hi k 3) (by omega) (by omega)).mono ?_
                rintro e w' ⟨rfl, rfl⟩
                clear hc3
                generalize pk (f k 3) 12 = z at *
                go_wp2_with fail
                have HOP := Lib.hid (order_put (z := 1 + z) HSN.out H0.out key (by omega))
                with_reducible refine (put_lw 0 _ _ HLW4.out HK.out (by omega)).mono ?_
                rintro e W5 ⟨a5, c5, rfl, h⟩
                clear HLW4
                generalize putI n [n] L 0 key (1 + z) = r at *
                obtain ⟨d, T, M⟩ := r
                simp only at HOP h ⊢
                have HLW5 := Lib.hid h
                clear h
                cases d with
                | false =>
                  obtain ⟨hT, hM⟩ := HOP.out.2 rfl
                  subst hT; subst hM
                  have HE : Hid (LW w p n [n] M (.strs (.slice a nw cw) (M.map E.key)) W5) := Lib.hid HLW5.out.left.left
                  have HM0 := H0
                  have HVL := HNW
                  clear HLW5 HOP
                  have hle : M.length ≤ 1000000 := by
                    have hsn := HE.out.sane
                    have := length_le_tot M (fun x hx => (hsn.rng x hx).2)
                    have := hsn.le
                    have := hsn.cap
                    omega
                  have HB : Hid (keysOf M 0 = M.map E.key) := Lib.hid (keysOf_all HM0.out)
                  go_wp2_with fail
                  with_reducible refine (keys_lw 0 HE.out).mono ?_
                  rintro e W7 ⟨a7, c7, rfl, h, _⟩
                  have HE7 := Lib.hid h
                  clear h
                  have HQ1 := Lib.hid (strs_q HE7.out.q.1)
                  have HQ2 := Lib.hid (strs_q HE7.out.q.2)
                  go_wp2_with fail
                  with_reducible refine (same_any _ _ (keysOf M 0) (M.map E.key) _ HQ2.out HQ1.out (by rw [HB.out, List.length_map]; omega) (by rw [List.length_map]; omega)).mono ?_
                  rintro e W8 ⟨rfl, m8, rfl⟩
                  have HE8 := Lib.hid (HE7.out.left.keep ((Keep.refl _ W7).drewN m8))
                  rw [show decide (keysOf M 0 = M.map E.key) = true from decide_eq_true HB.out]
                  go_wp2_with fail
                  go_roundw
                  case rel => exact ⟨k + 1, by omega, by omega, by go_num, M, _, _, _, rfl, HVL.out, HE8.out, HM0.out⟩
                  case measure => simp [intOf]; omega
                | true =>
                  obtain ⟨Mx, hwo, hM⟩ := HOP.out.1 rfl
                  subst hM
                  have HWO := Lib.hid hwo
                  clear hwo HOP
                  have hTn : T.length ≤ nr := by rw [HNR.out, HWO.out]; simp
                  have HTL : Hid (T.length ≤ (woE L key).length) := Lib.hid (by rw [HWO.out]; simp)
                  have HSQ := Lib.hid (owns_strs HLW5.out.q.1.2)
                  have HSO := Lib.hid (strs_q HLW5.out.q.2)
                  have HSE : Hid (decide (T.map E.key = ((woE L key).map E.key).take T.length) = true) := Lib.hid (decide_eq_true (by rw [HWO.out, List.map_append, List.take_left' (by simp)]))
                  have hnl : (woE L key).length ≤ 1000000 := by rw [← HNR.out]; omega
                  rcases ownsRow_cap HLW5.out.q.1.2 with ⟨rfl, rfl, rfl⟩ | ⟨g, rfl, hrc, hcm⟩
                  · have hT0 : T = [] := List.eq_nil_of_length_eq_zero (by omega)
                    subst hT0
                    have hMx : Mx = [] := by
                      have := HWO.out
                      have h2 := HNR.out
                      rw [this] at h2
                      simp at h2
                      exact List.eq_nil_of_length_eq_zero h2.symm
                    subst hMx
                    have HS0 : Hid (StrsAt W5 (.slice a5 0 c5) []) := Lib.hid HSO.out
                    have HNN : Hid (StrsAt W5 (.slice none 0 0) []) := Lib.hid ⟨none, 0, rfl, fun j s hj => by cases hj⟩
                    go_wp2_with fail
                    with_reducible refine (same_any _ _ _ _ _ HS0.out HNN.out (by simp) (by simp)).mono ?_
                    rintro e W6 ⟨rfl, m6, rfl⟩
                    rw [show decide (([] : List ByteArray) = []) = true from rfl]
                    have HLW6 := Lib.hid (HLW5.out.keep ((Keep.refl _ W5).drewN m6))
                    clear HLW5 HSQ HSO HSE HTL HNN HS0
                    generalize W5.drewN m6 = W6 at *
                    have HLN : Hid (LW w p n [n] ([] ++ [⟨key, 0, 1 + z⟩]) (.owns w.heap.size (.slice none 0 0) 0 []) W6) := Lib.hid (HLW6.out.imp (T := .owns _ _ _ _) (fun _ => World.ownsRow_nil _ _ _ _) (fun b hb => by cases hb))
                    obtain ⟨v', w', r1, r2, r3, r4, g5, c6, rfl⟩ := app_str W6 38 w.heap.size (.slice none 0 0) 0 [] key (World.ownsRow_nil _ _ _ _) (by omega) HLN.out.k.size
                    have HE : Hid (LW w p n [n] ([] ++ [⟨key, 0, 1 + z⟩]) (.strs (.slice (some ⟨g5, 0, none⟩) 1 c6) (([] ++ [⟨key, 0, 1 + z⟩] : List E).map E.key)) w') := Lib.hid ((HLN.out.app (Nat.le_refl _) r2 r3 r4).imp (T := .strs _ _) owns_strs (fun b hb => hb))
                    have HM0 : Hid (∀ x ∈ ([] ++ [⟨key, 0, 1 + z⟩] : List E), x.t = 0) := Lib.hid (fun x hx => by simp at hx; rw [hx])
                    have HVL : Hid (1 = ([] ++ [⟨key, 0, 1 + z⟩] : List E).length) := Lib.hid rfl
                    clear HLW6 HLN r2 r3 r4 HWO
                    generalize ([] ++ [⟨key, 0, 1 + z⟩] : List E) = M at *
                    go_wp2_with (at_builtin; refine wpList_app rfl (.tmp 118) (.tmp 120) 38 rfl rfl rfl r1 ?_)
                    have hle : M.length ≤ 1000000 := by
                      have hsn := HE.out.sane
                      have := length_le_tot M (fun x hx => (hsn.rng x hx).2)
                      have := hsn.le
                      have := hsn.cap
                      omega
                    have HB : Hid (keysOf M 0 = M.map E.key) := Lib.hid (keysOf_all HM0.out)
                    go_wp2_with fail
                    with_reducible refine (keys_lw 0 HE.out).mono ?_
                    rintro e W7 ⟨a7, c7, rfl, h, _⟩
                    have HE7 := Lib.hid h
                    clear h
                    have HQ1 := Lib.hid (strs_q HE7.out.q.1)
                    have HQ2 := Lib.hid (strs_q HE7.out.q.2)
                    go_wp2_with fail
                    with_reducible refine (same_any _ _ (keysOf M 0) (M.map E.key) _ HQ2.out HQ1.out (by rw [HB.out, List.length_map]; omega) (by rw [List.length_map]; omega)).mono ?_
                    rintro e W8 ⟨rfl, m8, rfl⟩
                    have HE8 := Lib.hid (HE7.out.left.keep ((Keep.refl _ W7).drewN m8))
                    rw [show decide (keysOf M 0 = M.map E.key) = true from decide_eq_true HB.out]
                    go_wp2_with fail
                    go_roundw
                    case rel => exact ⟨k + 1, by omega, by omega, by go_num, M, _, _, _, rfl, HVL.out, HE8.out, HM0.out⟩
                    case measure => simp [intOf]; omega
                  · have HSS := Lib.hid (HSQ.out.take T.length c' (by rw [List.length_map]; exact HTL.out))
                    go_wp2_with fail
                    with_reducible refine (same_any _ _ _ _ _ HSO.out HSS.out (by rw [List.length_map]; omega) (by rw [List.length_take, List.length_map]; omega)).mono ?_
                    rintro e W6 ⟨rfl, m6, rfl⟩
                    rw [HSE.out]
                    have HLW6 := Lib.hid (HLW5.out.keep ((Keep.refl _ W5).drewN m6))
                    clear HLW5
                    generalize W5.drewN m6 = W6 at *
                    have hTT : T.length ≤ nr ∧ nr ≤ c' := by omega
                    have HSR := Lib.hid (owns_strs HLW6.out.q.1.2)
                    have HML : Hid (nr - T.length = Mx.length) := Lib.hid (by have := HNR.out; rw [HWO.out] at this; simp at this; omega)
                    have HM0 : Hid (∀ x ∈ Mx ++ [⟨key, 0, 1 + z⟩], x.t = 0) := Lib.hid (fun x hx => by
                      rcases List.mem_append.1 hx with hx | hx
                      · exact H0.out x (woE_mem (by rw [HWO.out]; exact List.mem_append_right _ hx)).1
                      · rw [List.mem_singleton] at hx; rw [hx])
                    have HVL : Hid (nr - T.length + 1 = (Mx ++ [⟨key, 0, 1 + z⟩] : List E).length) := Lib.hid (by rw [HML.out]; simp)
                    by_cases hTe : T.length = nr
                    · have hMx : Mx = [] := List.eq_nil_of_length_eq_zero (by have := HML.out; omega)
                      subst hMx
                      obtain ⟨v', w', r1, r2, r3, g5, c6, rfl⟩ := app_cut W6 g 0 0 [] key rfl (fun j s hj => by cases hj) (by omega)
                      have HE : Hid (LW w p n [n] ([] ++ [⟨key, 0, 1 + z⟩]) (.strs (.slice (some ⟨g5, 0, none⟩) 1 c6) (([] ++ [⟨key, 0, 1 + z⟩] : List E).map E.key)) w') := Lib.hid (HLW6.out.add (T := .strs (.slice (some ⟨g5, 0, none⟩) 1 c6) (([] ++ [⟨key, 0, 1 + z⟩] : List E).map E.key)) r3 (StrsAt.of_owns r2) (fun b hb => World.ownsRow.lt r2 b hb)).right
                      have HVL2 : Hid (1 = ([] ++ [⟨key, 0, 1 + z⟩] : List E).length) := Lib.hid rfl
                      clear HVL
                      have HVL := HVL2
                      clear HVL2 HLW6 r2 r3 HWO HSR HML HSS HSE HSQ HSO HTL
                      generalize ([] ++ [⟨key, 0, 1 + z⟩] : List E) = M at *
                      go_wp2_with (at_builtin; refine wpList_app rfl (.tmp 118) (.tmp 120) 38 rfl rfl rfl r1 ?_)
                      have hle : M.length ≤ 1000000 := by
                        have hsn := HE.out.sane
                        have := length_le_tot M (fun x hx => (hsn.rng x hx).2)
                        have := hsn.le
                        have := hsn.cap
                        omega
                      have HB : Hid (keysOf M 0 = M.map E.key) := Lib.hid (keysOf_all HM0.out)
                      go_wp2_with fail
                      with_reducible refine (keys_lw 0 HE.out).mono ?_
                      rintro e W7 ⟨a7, c7, rfl, h, _⟩
                      have HE7 := Lib.hid h
                      clear h
                      have HQ1 := Lib.hid (strs_q HE7.out.q.1)
                      have HQ2 := Lib.hid (strs_q HE7.out.q.2)
                      go_wp2_with fail
                      with_reducible refine (same_any _ _ (keysOf M 0) (M.map E.key) _ HQ2.out HQ1.out (by rw [HB.out, List.length_map]; omega) (by rw [List.length_map]; omega)).mono ?_
                      rintro e W8 ⟨rfl, m8, rfl⟩
                      have HE8 := Lib.hid (HE7.out.left.keep ((Keep.refl _ W7).drewN m8))
                      rw [show decide (keysOf M 0 = M.map E.key) = true from decide_eq_true HB.out]
                      go_wp2_with fail
                      go_roundw
                      case rel => exact ⟨k + 1, by omega, by omega, by go_num, M, _, _, _, rfl, HVL.out, HE8.out, HM0.out⟩
                      case measure => simp [intOf]; omega
                    · have hTl : T.length < nr := by omega
                      obtain ⟨v', w', r1, r2, r3, g5, c6, rfl⟩ := app_cut W6 g T.length (nr - T.length) (Mx.map E.key) key (by rw [List.length_map, HML.out]) (fun j s hj => by
                        have hj2 : ((woE L key).map E.key)[T.length + j]? = some s := by rw [HWO.out, List.map_append, List.getElem?_append_right (by simp)]; simpa using hj
                        obtain ⟨b', o', e', hc'⟩ := HSR.out.cell hj2
                        injection e' with e'
                        injection e' with e1 e2
                        subst e1 e2
                        rw [Nat.zero_add] at hc'
                        exact hc') (by omega)
                      have HE : Hid (LW w p n [n] (Mx ++ [⟨key, 0, 1 + z⟩]) (.strs (.slice (some ⟨g5, 0, none⟩) (nr - T.length + 1) c6) ((Mx ++ [⟨key, 0, 1 + z⟩] : List E).map E.key)) w') := Lib.hid (HLW6.out.add (T := .strs (.slice (some ⟨g5, 0, none⟩) (nr - T.length + 1) c6) ((Mx ++ [⟨key, 0, 1 + z⟩] : List E).map E.key)) r3 (by rw [List.map_append]; exact StrsAt.of_owns r2) (fun b hb => World.ownsRow.lt r2 b hb)).right
                      clear HLW6 r2 r3 HWO HSR HML HSS HSE HSQ HSO HTL
                      generalize Mx ++ [⟨key, 0, 1 + z⟩] = M at *
                      go_wp2_with (at_builtin; refine wpList_app rfl (.tmp 118) (.tmp 120) 38 rfl rfl rfl r1 ?_)
                      have hle : M.length ≤ 1000000 := by
                        have hsn := HE.out.sane
                        have := length_le_tot M (fun x hx => (hsn.rng x hx).2)
                        have := hsn.le
                        have := hsn.cap
                        omega
                      have HB : Hid (keysOf M 0 = M.map E.key) := Lib.hid (keysOf_all HM0.out)
                      go_wp2_with fail
                      with_reducible refine (keys_lw 0 HE.out).mono ?_
                      rintro e W7 ⟨a7, c7, rfl, h, _⟩
                      have HE7 := Lib.hid h
                      clear h
                      have HQ1 := Lib.hid (strs_q HE7.out.q.1)
                      have HQ2 := Lib.hid (strs_q HE7.out.q.2)
                      go_wp2_with fail
                      with_reducible refine (same_any _ _ (keysOf M 0) (M.map E.key) _ HQ2.out HQ1.out (by rw [HB.out, List.length_map]; omega) (by rw [List.length_map]; omega)).mono ?_
                      rintro e W8 ⟨rfl, m8, rfl⟩
                      have HE8 := Lib.hid (HE7.out.left.keep ((Keep.refl _ W7).drewN m8))
                      rw [show decide (keysOf M 0 = M.map E.key) = true from decide_eq_true HB.out]
                      go_wp2_with fail
                      go_roundw
                      case rel => exact ⟨k + 1, by omega, by omega, by go_num, M, _, _, _, rfl, HVL.out, HE8.out, HM0.out⟩
                      case measure => simp [intOf]; omega
    · by_cases hkn : k < ln
      · go_wp2_with fail
        go_ret
        exact ⟨rfl, HLW.out.k.low⟩
      · go_wp2_with fail
        go_ret
        exact ⟨rfl, HLW.out.k.low⟩
end Go.Proofs.Ytigkhglgoabjaaa
