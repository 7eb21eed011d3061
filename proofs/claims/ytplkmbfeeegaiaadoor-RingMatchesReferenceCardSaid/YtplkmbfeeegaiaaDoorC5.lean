/-
  RingRegions.
-/
import Derived.Test.YtplkmbfeeegaiaaDoorB9
import Derived.Test.YtplkmbfeeegaiaaDoorP3
import Derived.Test.YtplkmbfeeegaiaaDoorR0
import Derived.Test.YtplkmbfeeegaiaaDoorR2
namespace Go.Proofs.YtplkmbfeeegaiaaDoor
open Go.RowKit Go.Shelf

theorem encMb_len (m : Mb) : (encMb m).length = 3 := rfl
/-- A copy of members of its own. -/
theorem lit_app (W : World) (v : Value) (l : List Mb) (h : Mbs W v l) (hne : 0 < l.length) (hl : l.length ≤ 1000) :
    ∃ g c W', (Builtin.append_ #[22, 22] 22 #[.slice (some ⟨W.heap.size, 0, none⟩) 0 0, v]).run Tryd.prog (W.alloc (.cells #[] 25)) = .ok (.slice (some ⟨g, 0, none⟩) l.length c) W' ∧ OwnB W l (.slice (some ⟨g, 0, none⟩) l.length c) W' := by
  have k1 : Keep (fun _ => False) W (W.alloc (.cells #[] 25)) := (Keep.refl _ W).alloc _
  obtain ⟨v', W2, hr, hown, hkp, hob⟩ := app_mbs (W.alloc (.cells #[] 25)) 22 W.heap.size (.slice (some ⟨W.heap.size, 0, none⟩) 0 0) v [] l (World.ownsRow_lit W #[] 0 (Nat.le_refl _) (by decide) rfl) (h.kept k1) hne (by simp; omega) (by simp)
  rw [List.nil_append] at hown
  have hown' := hown
  rcases hown.2 with ⟨_, e0⟩ | ⟨g, c, cur, rfl, _⟩
  · omega
  · exact ⟨g, c, W2, hr, k1.trans' hkp (fun j e => by cases e; exact .inr (Nat.le_refl _)), hown'⟩
/-- A field of a member of its own is stored. -/
theorem OwnB.set {w W : World} {l : List Mb} {g c n : Nat} (hn : n = l.length) (h : OwnB w l (.slice (some ⟨g, 0, none⟩) n c) W) {k r : Nat} {x : Int} {m y : Mb} (hm : l[k]? = some m) (hr : r < 3) (he : (encMb m).set r (.int .i64 x) = encMb y) :
    OwnB w (l.set k y) (.slice (some ⟨g, 0, none⟩) n c) (W.setCell ⟨g, k * 3 + r, none⟩ (.int .i64 x)) := by
  subst hn
  have h1 := (h.2.stored (k * 3 + r) (.int .i64 x)).1
  unfold flatB at h1
  rw [flat_set encMb_len hr l k m y hm he] at h1
  refine ⟨h.1.setCell (p := ⟨g, k * 3 + r, none⟩) _ (.inr (h.2.lt g rfl).1), ?_⟩
  rw [List.length_set]
  exact h1
theorem OwnB.cells {w W : World} {l : List Mb} {g c n : Nat} (hn : n = l.length) (h : OwnB w l (.slice (some ⟨g, 0, none⟩) n c) W) {k : Nat} {m : Mb} (hm : l[k]? = some m) : W.cell? ⟨g, k * 3, none⟩ = some (.int .i64 m.node) ∧ W.cell? ⟨g, k * 3 + 1, none⟩ = some (.int .i64 m.region) ∧ W.cell? ⟨g, k * 3 + 2, none⟩ = some (.int .i64 m.weight) ∧ ∀ o, W.frozen? ⟨g, o, none⟩ = false := by
  subst hn
  have hk : k < l.length := (List.getElem?_eq_some_iff.1 hm).1
  refine ⟨?_, ?_, ?_, fun o => h.2.frozenAt o⟩
  · rw [h.2.cellAt (k * 3) (by omega)]; exact flat_get encMb_len l k m 0 hm (by decide)
  · rw [h.2.cellAt (k * 3 + 1) (by omega)]; exact flat_get encMb_len l k m 1 hm (by decide)
  · rw [h.2.cellAt (k * 3 + 2) (by omega)]; exact flat_get encMb_len l k m 2 hm (by decide)

theorem OwnB.other {w W W' : World} {l : List Mb} {g c n b : Nat} (h : OwnB w l (.slice (some ⟨g, 0, none⟩) n c) W) (k : Keep (fun j => j = b) W W') (hb : w.heap.size ≤ b) (hne : g ≠ b) : OwnB w l (.slice (some ⟨g, 0, none⟩) n c) W' :=
  ⟨h.1.trans' k (fun j e => .inr (e ▸ hb)), ownsRow_keep h.2 k (fun b' e => by cases e; exact hne)⟩
theorem OwnB.mbs' {w W : World} {l : List Mb} {g c n : Nat} (hn : n = l.length) (h : OwnB w l (.slice (some ⟨g, 0, none⟩) n c) W) (hv : VL l) : Mbs W (.slice (some ⟨g, 0, none⟩) n c) l := by
  subst hn
  exact h.mbs hv

set_option maxRecDepth 100000 in
set_option maxHeartbeats 8000000 in
theorem regions_any (v : Value) (xs : List Int) (v2 : Value) (rs : List Int) (tm : Int) (w : World) (h : Its w v xs) (h2 : Its w v2 rs) (htm : I64 tm) (hT : Tab w) : Calls Tryd.prog 8 #[v, v2, .int .i64 tm] w fun e w' => e = .returned (.bool true) ∧ Keep (fun _ => False) w w' := by
  have HT := Lib.hid hT
  have HI := Lib.hid h
  have HTM := Lib.hid htm
  obtain ⟨va, vn, vc, rfl⟩ : ∃ a n c, v = .slice a n c := by
    obtain ⟨-, -, a, c, b, off, rfl, -⟩ := h
    exact ⟨_, _, _, rfl⟩
  obtain ⟨hrn, hrbd, ra, rc, rb, ro, rfl, hrc, hra, hrcell⟩ := h2
  have HRC := Lib.hid hrcell
  have HRA := Lib.hid hra
  have HRB := Lib.hid hrbd
  obtain ⟨rn, hrn'⟩ : ∃ n, rs.length = n := ⟨_, rfl⟩
  have HRN := Lib.hid hrn'
  rw [hrn'] at hrn hrc HRA ⊢
  clear hT h htm hrcell hra hrbd hrn'
  obtain ⟨l, hl⟩ : ∃ l, someL xs = l := ⟨_, rfl⟩
  have hv : VL l := by rw [← hl]; exact someL_ok xs
  have hp1 := pk_bd tm 3 (by decide)
  go_enter Tryd.func8, Tryd.ntmps8
  go_wp2_with fail
  with_reducible refine (sane_any w HT.out).mono ?_
  rintro e W1 ⟨rfl, k1⟩
  have HK1 := Lib.hid k1
  clear k1
  go_wp2_with fail
  with_reducible refine (some_any _ xs _ (HI.out.kept HK1.out)).mono ?_
  rintro e W2 ⟨vl, rfl, hol⟩
  rw [hl] at hol
  have HM : Hid (Mbs W2 vl l) := Lib.hid (hol.mbs hv)
  have HK2 := Lib.hid (HK1.out.trans hol.1)
  have HT2 := Lib.hid (HT.out.kept HK2.out)
  have HV := Lib.hid hv
  clear hol hl HK1 HT HI
  obtain ⟨la, ln, lc, lb, lo, rfl, hln, hlc, hla, hlcell⟩ : ∃ a n c b off, vl = .slice a n c ∧ n = l.length ∧ n ≤ c ∧ (0 < n → a = some ⟨b, off, none⟩) ∧ ∀ (j : Nat) (m : Mb), l[j]? = some m → W2.cell? ⟨b, off + j * 3, none⟩ = some (.int .i64 m.node) ∧ W2.cell? ⟨b, off + j * 3 + 1, none⟩ = some (.int .i64 m.region) ∧ W2.cell? ⟨b, off + j * 3 + 2, none⟩ = some (.int .i64 m.weight) := by
    obtain ⟨-, -, a, c, b, off, rfl, hc, ha, hcell⟩ := HM.out
    exact ⟨_, _, _, b, off, rfl, rfl, hc, ha, hcell⟩
  obtain rfl := hla (by rw [hln]; exact List.length_pos_iff.2 hv.ne)
  have HLC := Lib.hid hlcell
  have HLN := Lib.hid hln
  have hln24 : ln ≤ 24 := by rw [hln]; exact hv.len
  have hln1 : 0 < ln := by rw [hln]; exact List.length_pos_iff.2 hv.ne
  clear hla hlcell hln hv
  go_wp2_with fail
  with_reducible refine (assign_ok _ l _ HM.out HV.out HT2.out).mono ?_
  rintro e W3 ⟨va1, rfl, hown1, kz1⟩
  have HA1 : Hid (Its W3 va1 (ownersL PN QS l)) := Lib.hid (its_owns hown1 (by rw [(owners_ok PN QS HV.out).1]; decide) HV.out.obd)
  have HM3 := Lib.hid (HM.out.kept kz1)
  have HK3 := Lib.hid (HK2.out.trans kz1)
  have HKL3 := Lib.hid kz1
  have HT3 := Lib.hid (HT2.out.kept kz1)
  obtain ⟨aa, ac, hae⟩ : ∃ a c, va1 = .slice a 64 c := by
    obtain ⟨-, -, a, c, b, off, h1, _⟩ := HA1.out
    rw [(owners_ok PN QS HV.out).1] at h1
    exact ⟨_, _, h1⟩
  subst hae
  clear hown1 kz1 HK2 HT2
  obtain ⟨go, co, W4, hr4, ho4⟩ := lit_app W3 _ l HM3.out (by have := HLN.out; omega) (by have := HLN.out; omega)
  obtain ⟨gh', ch, W5, hr5, ho5⟩ := lit_app W4 _ l (HM3.out.kept ho4.1) (by have := HLN.out; omega) (by have := HLN.out; omega)
  rw [← HLN.out] at hr4 ho4 hr5 ho5
  have HR4 := Lib.hid hr4
  have HR5 := Lib.hid hr5
  have HO5 : Hid (OwnB W3 l (.slice (some ⟨go, 0, none⟩) ln co) W5) := Lib.hid (ho4.keep ho5.1)
  have HH5 : Hid (OwnB W3 l (.slice (some ⟨gh', 0, none⟩) ln ch) W5) := Lib.hid ⟨ho4.1.trans ho5.1, ownsRow_lo ho5.2 ho4.1.size⟩
  have HGH : Hid (W3.heap.size ≤ go ∧ W3.heap.size ≤ gh' ∧ go ≠ gh') := Lib.hid (by
    have h1 := ho4.2.lt go rfl
    have h2 := ho5.2.lt gh' rfl
    have h3 := ho4.1.size
    omega)
  clear hr4 hr5 ho4 ho5
  go_wp2_with (first | (at_builtin; refine wpList_app rfl (.tmp 25) (.tmp 26) 22 rfl rfl rfl HR4.out ?_) | (at_builtin; refine wpList_app rfl (.tmp 28) (.tmp 29) 22 rfl rfl rfl HR5.out ?_))
  with_reducible refine (pick_any tm 3 _ HTM.out (by decide)).mono ?_
  rintro e w' ⟨rfl, rfl⟩
  generalize pk tm 3 = pt3 at *
  have hwp : IntKind.i64.wrap (1 + pt3) = 1 + pt3 := wrapI (by unfold I64; omega)
  go_wp2_with fail
  clear hwp
  obtain ⟨t, ht⟩ : ∃ t, 1 + pt3 = t := ⟨_, rfl⟩
  rw [ht]
  have htb : 1 ≤ t ∧ t ≤ 3 := by omega
  clear ht hp1
  -- the worlds: W3 behind Assign, W5 behind the copies
  have HKA : Hid (Keep (fun _ => False) W3 W5) := Lib.hid HO5.out.1
  go_loopg [13] ln (fun gh v13 wr => ∃ (k : Nat) (l1 l2 : List Mb), gh + k = ln ∧ v13 = .int .i64 k ∧ OwnB W3 l1 (.slice (some ⟨go, 0, none⟩) ln co) wr ∧ OwnB W3 l2 (.slice (some ⟨gh', 0, none⟩) ln ch) wr ∧ Hid (RegSt l l1 l2 t k))
  case atStart => exact ⟨0, l, l, by omega, rfl, HO5.out, HH5.out, Lib.hid (RegSt.start HV.out t)⟩
  case round =>
    clear HO5 HH5
    obtain ⟨k, l1, l2, hk, rfl, hq1, hq2, HST⟩ := hrel
    have H1 := Lib.hid hq1
    have H2 := Lib.hid hq2
    clear hq1 hq2
    have HL1 : Hid (ln = l1.length) := Lib.hid (by rw [HST.out.lenO]; exact HLN.out)
    have HL2 : Hid (ln = l2.length) := Lib.hid (by rw [HST.out.lenH]; exact HLN.out)
    by_cases hlt : k < ln
    · obtain ⟨m, hm⟩ : ∃ m, l[k]? = some m := ⟨_, List.getElem?_eq_getElem (by have := HLN.out; omega)⟩
      have HMM := Lib.hid hm
      have hok := HV.out.ok m (List.mem_of_getElem? hm)
      have hkz : (k : Int) < (ln : Int) := by omega
      have hk0 : (0 : Int) ≤ (k : Int) := by omega
      obtain ⟨r0, hr0, hr0b⟩ := HST.out.o k m hm
      have hm2 := HST.out.h k m hm
      rw [if_neg (by omega)] at hm2
      have HM1 := Lib.hid hr0
      have HM2 := Lib.hid hm2
      clear hm hr0 hm2
      obtain ⟨mn, mr, mw⟩ := m
      unfold okMb at hok
      simp only [] at hok HM1
      have hx1 : IntKind.i64.wrap (t * mw) = t * mw := by
        have h1 : t * mw ≤ 3 * 16 := Int.mul_le_mul htb.2 (by omega) (by omega) (by decide)
        have h2 : 0 ≤ t * mw := Int.mul_nonneg (by omega) (by omega)
        exact wrapI (by unfold I64; omega)
      by_cases hkr : k < rn
      · obtain ⟨x, hx⟩ : ∃ x, rs[k]? = some x := ⟨_, List.getElem?_eq_getElem (by rw [HRN.out]; exact hkr)⟩
        obtain rfl := HRA.out (by omega)
        have hkrz : (k : Int) < (rn : Int) := by omega
        have xc := (HK3.out.trans H1.out.1).cell (HRC.out k x hx) (fun h => h)
        have HXB := Lib.hid (HRB.out x (List.mem_of_getElem? hx))
        have hpb := pk_bd x 4 (by decide)
        obtain ⟨o0, o1, o2, of⟩ := H1.out.cells HL1.out HM1.out
        simp only [] at o1
        clear hx o0 o2
        go_wp2_with fail
        with_reducible refine (pick_any x 4 _ HXB.out (by decide)).mono ?_
        rintro e w' ⟨rfl, rfl⟩
        generalize pk x 4 = r at *
        have hq1 : OwnB W3 (l1.set k ⟨mn, r, mw⟩) (.slice (some ⟨go, 0, none⟩) ln co) (wr.setCell ⟨go, k * 3 + 1, none⟩ (.int .i64 r)) := H1.out.set HL1.out HM1.out (by decide) rfl
        have hq2 : OwnB W3 l2 (.slice (some ⟨gh', 0, none⟩) ln ch) (wr.setCell ⟨go, k * 3 + 1, none⟩ (.int .i64 r)) := H2.out.other ((Keep.refl (fun j => j = go) wr).setCell (p := ⟨go, k * 3 + 1, none⟩) _ (.inl rfl)) HGH.out.1 (fun e => HGH.out.2.2 e.symm)
        have HST' : Hid (RegSt l (l1.set k ⟨mn, r, mw⟩) l2 t k) := Lib.hid (HST.out.region HMM.out (by omega))
        have HL1' : Hid (ln = (l1.set k ⟨mn, r, mw⟩).length) := Lib.hid (by rw [List.length_set]; exact HL1.out)
        have H1' := Lib.hid hq1
        have H2' := Lib.hid hq2
        clear hq1 hq2
        have w2 := (H2'.out.cells HL2.out HM2.out).2.2.1
        have wf := (H2'.out.cells HL2.out HM2.out).2.2.2
        simp only [] at w2
        have HE2 : Hid (OwnB W3 (l2.set k ⟨mn, mr, t * mw⟩) (.slice (some ⟨gh', 0, none⟩) ln ch) ((wr.setCell ⟨go, k * 3 + 1, none⟩ (.int .i64 r)).setCell ⟨gh', k * 3 + 2, none⟩ (.int .i64 (t * mw)))) := Lib.hid (H2'.out.set HL2.out HM2.out (by decide) rfl)
        have HE1 : Hid (OwnB W3 (l1.set k ⟨mn, r, mw⟩) (.slice (some ⟨go, 0, none⟩) ln co) ((wr.setCell ⟨go, k * 3 + 1, none⟩ (.int .i64 r)).setCell ⟨gh', k * 3 + 2, none⟩ (.int .i64 (t * mw)))) := Lib.hid (H1'.out.other ((Keep.refl (fun j => j = gh') _).setCell (p := ⟨gh', k * 3 + 2, none⟩) _ (.inl rfl)) HGH.out.2.1 HGH.out.2.2)
        by_cases hw : t * mw ≤ 16
        · have hw16 : ¬ (16 < t * mw) := by omega
          have HSN := Lib.hid (HST'.out.heavy HMM.out hw)
          clear hw
          obtain ⟨tw, htw⟩ : ∃ tw, t * mw = tw := ⟨_, rfl⟩
          rw [htw] at HE1 HE2 hw16 HSN
          have hx2 : IntKind.i64.wrap (t * mw) = tw := by rw [hx1, htw]
          clear hx1 htw
          go_wp2_with fail
          go_roundg (gk - 1)
          case rel => exact ⟨k + 1, _, _, by omega, by go_num, HE1.out, HE2.out, HSN⟩
          case measure => omega
        · have hw16 : 16 < t * mw := by omega
          clear hw
          obtain ⟨tw, htw⟩ : ∃ tw, t * mw = tw := ⟨_, rfl⟩
          rw [htw] at HE1 HE2 hw16
          have hx2 : IntKind.i64.wrap (t * mw) = tw := by rw [hx1, htw]
          clear hx1 htw
          go_wp2_with fail
          go_ret
          exact ⟨rfl, HK3.out.trans HE1.out.1⟩
      · have hkrz : ¬ ((k : Int) < (rn : Int)) := by omega
        have hq1 := H1.out
        have hq2 := H2.out
        have HST' := HST
        have HL1' := HL1
        have H1' := Lib.hid hq1
        have H2' := Lib.hid hq2
        clear hq1 hq2
        have w2 := (H2'.out.cells HL2.out HM2.out).2.2.1
        have wf := (H2'.out.cells HL2.out HM2.out).2.2.2
        simp only [] at w2
        have HE2 : Hid (OwnB W3 (l2.set k ⟨mn, mr, t * mw⟩) (.slice (some ⟨gh', 0, none⟩) ln ch) (wr.setCell ⟨gh', k * 3 + 2, none⟩ (.int .i64 (t * mw)))) := Lib.hid (H2'.out.set HL2.out HM2.out (by decide) rfl)
        have HE1 : Hid (OwnB W3 l1 (.slice (some ⟨go, 0, none⟩) ln co) (wr.setCell ⟨gh', k * 3 + 2, none⟩ (.int .i64 (t * mw)))) := Lib.hid (H1'.out.other ((Keep.refl (fun j => j = gh') _).setCell (p := ⟨gh', k * 3 + 2, none⟩) _ (.inl rfl)) HGH.out.2.1 HGH.out.2.2)
        by_cases hw : t * mw ≤ 16
        · have hw16 : ¬ (16 < t * mw) := by omega
          have HSN := Lib.hid (HST'.out.heavy HMM.out hw)
          clear hw
          obtain ⟨tw, htw⟩ : ∃ tw, t * mw = tw := ⟨_, rfl⟩
          rw [htw] at HE1 HE2 hw16 HSN
          have hx2 : IntKind.i64.wrap (t * mw) = tw := by rw [hx1, htw]
          clear hx1 htw
          go_wp2_with fail
          go_roundg (gk - 1)
          case rel => exact ⟨k + 1, _, _, by omega, by go_num, HE1.out, HE2.out, HSN⟩
          case measure => omega
        · have hw16 : 16 < t * mw := by omega
          clear hw
          obtain ⟨tw, htw⟩ : ∃ tw, t * mw = tw := ⟨_, rfl⟩
          rw [htw] at HE1 HE2 hw16
          have hx2 : IntKind.i64.wrap (t * mw) = tw := by rw [hx1, htw]
          clear hx1 htw
          go_wp2_with fail
          go_ret
          exact ⟨rfl, HK3.out.trans HE1.out.1⟩
    · obtain rfl : k = ln := by omega
      have HVO := Lib.hid (HST.out.okO HV.out)
      have HE2 := Lib.hid (HST.out.all (by have := HLN.out; omega))
      rw [HE2.out] at H2 HL2
      have HVS : Hid (VL (scaled l t)) := Lib.hid (scaled_ok HV.out htb.1 (fun m hm => by
        obtain ⟨i, hi⟩ := List.mem_iff_getElem?.1 hm
        exact HST.out.w i m (by have := (List.getElem?_eq_some_iff.1 hi).1; have := HLN.out; omega) hi))
      have HOE : Hid (ownersL PN QS l1 = ownersL PN QS l) := Lib.hid (owners_eq PN QS HST.out.mapO HV.out HVO.out).symm
      have HLE : Hid (∀ n, limitL (scaled l t) n = limitL l n) := Lib.hid (fun n => limitL_scaled HV.out HVS.out htb.1 n)
      have HMO := Lib.hid (H1.out.mbs' HL1.out HVO.out)
      have HMS := Lib.hid (H2.out.mbs' HL2.out HVS.out)
      have HKE := Lib.hid H1.out.1
      clear HST HE2 H1 H2
      go_wp2_with fail
      with_reducible refine (assign_ok _ l1 _ HMO.out HVO.out (HT3.out.kept HKE.out)).mono ?_
      rintro e Z1 ⟨va2, rfl, hown2, kz2⟩
      rw [HOE.out] at hown2
      have HA2 : Hid (Its Z1 va2 (ownersL PN QS l)) := Lib.hid (its_owns hown2 (by rw [(owners_ok PN QS HV.out).1]; decide) HV.out.obd)
      have HA1' := Lib.hid (HA1.out.kept (HKE.out.trans kz2))
      have HKZ := Lib.hid (HKE.out.trans kz2)
      have HMS2 := Lib.hid (HMS.out.kept kz2)
      have HMZ := Lib.hid (HM3.out.kept HKZ.out)
      obtain ⟨aa2, ac2, hae⟩ : ∃ a c, va2 = .slice a 64 c := by
        obtain ⟨-, -, a, c, b, off, h1, _⟩ := HA2.out
        rw [(owners_ok PN QS HV.out).1] at h1
        exact ⟨_, _, h1⟩
      subst hae
      have HKFIN := Lib.hid (HK3.out.trans HKZ.out)
      have HLCZ := Lib.hid (fun (j : Nat) (m : Mb) hj => (HKL3.out.trans HKZ.out).cell (HLC.out j m hj).1 (fun h => h))
      clear hown2 kz2 HMO HMS HKE HM3 HT3 HA1 HKL3
      go_wp2_with fail
      go_loopg [16] k (fun gh v16 wr => ∃ (i : Nat), gh + i = k ∧ v16 = .int .i64 i ∧ Keep (fun _ => False) Z1 wr)
      case atStart => exact ⟨0, by omega, rfl, Keep.refl _ _⟩
      case round =>
        obtain ⟨i, hi, rfl, hkeep⟩ := hrel
        have HK := Lib.hid hkeep
        clear hkeep
        by_cases hik : i < k
        · obtain ⟨m, hm⟩ : ∃ m, l[i]? = some m := ⟨_, List.getElem?_eq_getElem (by have := HLN.out; omega)⟩
          obtain ⟨x, hx⟩ : ∃ x, m.node = x := ⟨_, rfl⟩
          have HCX : Hid (Z1.cell? ⟨lb, lo + i * 3, none⟩ = some (.int .i64 x)) := Lib.hid (by rw [← hx]; exact HLCZ.out i m hm)
          have HXB : Hid (I64 x) := Lib.hid (by rw [← hx]; exact (HV.out.bd m (List.mem_of_getElem? hm)).1)
          have hiz : (i : Int) < (k : Int) := by omega
          have hi0 : (0 : Int) ≤ (i : Int) := by omega
          clear hm hx
          have HL1x : Hid (∀ W, Keep (fun _ => False) Z1 W → Calls Tryd.prog 21 #[.slice (some ⟨lb, lo, none⟩) k lc, .int .i64 x] W fun e w' => e = .returned (.int .i64 (limitL l x)) ∧ Keep (fun _ => False) W w') := Lib.hid (fun W kk => limit_any _ l W (HMZ.out.kept kk) x HXB.out)
          have HL2x : Hid (∀ W, Keep (fun _ => False) Z1 W → Calls Tryd.prog 21 #[.slice (some ⟨gh', 0, none⟩) k ch, .int .i64 x] W fun e w' => e = .returned (.int .i64 (limitL l x)) ∧ Keep (fun _ => False) W w') := Lib.hid (fun W kk => by
            have h := limit_any _ (scaled l t) W (HMS2.out.kept kk) x HXB.out
            rwa [HLE.out] at h)
          have zx : ∀ p : KW wr, p.val.cell? ⟨lb, lo + i * 3, none⟩ = some (.int .i64 x) := fun p => p.k.cell (HK.out.cell HCX.out (fun h => h)) (fun h => h)
          generalize limitL l x = lx at *
          have hbe : (lx != lx) = false := by simp
          go_wp2_with fail
          refine wp_region_quiet_kept (by kernel_rfl) (by kernel_rfl) ?_
          repeat (quiet_step (first | (go_at_call 21; with_reducible refine Calls.kept_of (HL1x.out _ (HK.out.trans (KW.k _)))) | (go_at_call 21; with_reducible refine Calls.kept_of (HL2x.out _ (HK.out.trans (KW.k _))))))
          refine wpQuiet_nil ?_
          rintro _ ⟨p, rfl⟩
          have HP := Lib.hid (HK.out.trans p.k)
          clear zx
          generalize p.val = Y1 at *
          go_wp2_with fail
          go_roundg (gk - 1)
          case rel => exact ⟨i + 1, by omega, by go_num, HP.out⟩
          case measure => omega
        · obtain rfl : i = k := by omega
          go_wp2_with fail
          with_reducible refine (sameInts_any _ _ _ _ _ (HA1'.out.kept HK.out) (HA2.out.kept HK.out)).mono ?_
          rintro e Z2 ⟨rfl, kz⟩
          have HKL := Lib.hid (HKFIN.out.trans (HK.out.trans kz))
          clear kz
          rw [decide_eq_true (p := ownersL PN QS l = ownersL PN QS l) rfl]
          go_wp2_with fail
          go_ret
          exact ⟨rfl, HKL.out⟩
end Go.Proofs.YtplkmbfeeegaiaaDoor
