/-
  RingMatchesReference.
-/
import Derived.Test.YtplkmbfeeegaiaaDoorC5
import Derived.Test.YtplkmbfeeegaiaaDoorD1
import Derived.Test.YtplkmbfeeegaiaaDoorR10
import Derived.Test.YtplkmbfeeegaiaaDoorR11
namespace Go.Proofs.YtplkmbfeeegaiaaDoor
open Go.RowKit Go.Shelf

/-- What Assign answers, whatever the members. -/
def asgE (l : List Mb) : Int := if validL l = true then 0 else 120
def asgO (l : List Mb) : List Int := if validL l = true then ownersL PN QS l else []
def AsgU (l : List Mb) (w : World) (e : Ending) (w' : World) : Prop := ∃ a n c, e = .returned (.tuple #[.slice a n c, .int .i64 (asgE l)]) ∧ Its w' (.slice a n c) (asgO l) ∧ Keep (fun _ => False) w w'
theorem asgU_ok {l : List Mb} {w : World} (hv : VL l) (e : Ending) (w' : World) (h : AsgPost l w e w') : AsgU l w e w' := by
  obtain ⟨v, rfl, how, k⟩ := h
  have h1 : asgE l = 0 := if_pos ((validL_iff l).2 hv)
  have h2 : asgO l = ownersL PN QS l := if_pos ((validL_iff l).2 hv)
  have hi : Its w' v (ownersL PN QS l) := its_owns how (by rw [(owners_ok PN QS hv).1]; decide) hv.obd
  obtain ⟨a, c, rfl⟩ := own_form how
  exact ⟨a, _, c, by rw [h1], by rw [h2]; exact hi, k⟩
theorem asgU_bad {l : List Mb} {w : World} (hv : ¬ VL l) (e : Ending) (w' : World) (h : e = .returned (.tuple #[.slice none 0 0, .int .i64 120]) ∧ Keep (fun _ => False) w w') : AsgU l w e w' := by
  have hn : ¬ validL l = true := fun h => hv ((validL_iff l).1 h)
  have h1 : asgE l = 120 := if_neg hn
  have h2 : asgO l = [] := if_neg hn
  exact ⟨none, 0, 0, by rw [h1]; exact h.1, by rw [h2]; exact Its.nil w', h.2⟩
theorem assignU (v : Value) (l : List Mb) (w : World) (h : Mbs w v l) (hT : Tab w) : Calls Tryd.prog 15 #[v] w (AsgU l w) := by
  by_cases hv : VL l
  · exact (assign_ok v l w h hv hT).mono (asgU_ok hv)
  · exact (assign_bad v l w h hv).mono (asgU_bad hv)
theorem refAssignU (v : Value) (l : List Mb) (w : World) (h : Mbs w v l) : Calls Tryd.prog 16 #[v] w (AsgU l w) := by
  by_cases hv : VL l
  · exact (refAssign_ok v l w h hv).mono (asgU_ok hv)
  · exact (refAssign_bad v l w h hv).mono (asgU_bad hv)

/-- What New answers. -/
def newB (ep : Int) (l : List Mb) : Bool := validL l && decide (1 ≤ ep ∧ ep ≤ 1000000)
def newE (ep : Int) (l : List Mb) : Int := if newB ep l = true then 0 else 120
def newP (ep : Int) (l : List Mb) : Int := if newB ep l = true then ep else 0
def newM (ep : Int) (l : List Mb) : List Mb := if newB ep l = true then l else []
def newO (ep : Int) (l : List Mb) : List Int := if newB ep l = true then ownersL PN QS l else []
def NewU (ep : Int) (l : List Mb) (w : World) (e : Ending) (w' : World) : Prop := ∃ a n c a' n' c', e = .returned (.tuple #[.agg #[.int .i64 (newP ep l), .slice a n c, .slice a' n' c'], .int .i64 (newE ep l)]) ∧ Rng w' (ringV (newP ep l) (.slice a n c) (.slice a' n' c')) (newP ep l) (newM ep l) (newO ep l) ∧ Keep (fun _ => False) w w'
theorem newU_ok {ep : Int} {l : List Mb} {w : World} (hv : VL l) (he : 1 ≤ ep ∧ ep ≤ 1000000) (e : Ending) (w' : World) (h : NewPost ep l w e w') : NewU ep l w e w' := by
  have hb : newB ep l = true := by unfold newB; rw [(validL_iff l).2 hv, decide_eq_true he]; rfl
  have h1 : newE ep l = 0 := if_pos hb
  have h2 : newP ep l = ep := if_pos hb
  have h3 : newM ep l = l := if_pos hb
  have h4 : newO ep l = ownersL PN QS l := if_pos hb
  obtain ⟨vm, vo, rfl, hm, ho, -, k⟩ := h
  have hi : Its w' vo (ownersL PN QS l) := its_owns ho (by rw [(owners_ok PN QS hv).1]; decide) hv.obd
  have hM : Mbs w' vm l := mbs_owns hm (by have := hv.len; omega) hv.bd
  obtain ⟨a, c, rfl⟩ := own_form hm
  obtain ⟨a', c', rfl⟩ := own_form ho
  exact ⟨a, _, c, a', _, c', by rw [h1, h2], by rw [h2, h3, h4]; exact ⟨by unfold I64; omega, _, _, rfl, hM, hi⟩, k⟩
theorem newU_bad {ep : Int} {l : List Mb} {w : World} (hb : newB ep l = false) (e : Ending) (w' : World) (h : NewBad w e w') : NewU ep l w e w' := by
  have hn : ¬ newB ep l = true := by rw [hb]; decide
  have h1 : newE ep l = 120 := if_neg hn
  have h2 : newP ep l = 0 := if_neg hn
  have h3 : newM ep l = [] := if_neg hn
  have h4 : newO ep l = [] := if_neg hn
  exact ⟨none, 0, 0, none, 0, 0, by rw [h1, h2]; exact h.1, by rw [h2, h3, h4]; exact nil_rng w', h.2⟩
theorem newU (ep : Int) (v : Value) (l : List Mb) (w : World) (h : Mbs w v l) (hT : Tab w) : Calls Tryd.prog 17 #[.int .i64 ep, v] w (NewU ep l w) := by
  by_cases hv : VL l
  · by_cases he : 1 ≤ ep ∧ ep ≤ 1000000
    · exact (new_ok ep v l w h hv hT he).mono (newU_ok hv he)
    · exact (new_epoch ep v l w h hv hT he).mono (newU_bad (by unfold newB; rw [decide_eq_false he, Bool.and_false]))
  · exact (new_bad ep v l w h hv).mono (newU_bad (by unfold newB; rw [validL_false hv]; rfl))
theorem refNewU (ep : Int) (v : Value) (l : List Mb) (w : World) (h : Mbs w v l) : Calls Tryd.prog 18 #[.int .i64 ep, v] w (NewU ep l w) := by
  by_cases hv : VL l
  · by_cases he : 1 ≤ ep ∧ ep ≤ 1000000
    · exact (refNew_ok ep v l w h hv he).mono (newU_ok hv he)
    · exact (refNew_epoch ep v l w h hv he).mono (newU_bad (by unfold newB; rw [decide_eq_false he, Bool.and_false]))
  · exact (refNew_bad ep v l w h hv).mono (newU_bad (by unfold newB; rw [validL_false hv]; rfl))
theorem own_some {W : World} {lo : Nat} {e : TypeId} {z n c : Nat} {a : Option Addr} {xs : List Value} (h : W.ownsRow lo e z (.slice a n c) n xs) (hn : 0 < n) : ∃ g, a = some ⟨g, 0, none⟩ := by
  rcases h.2 with ⟨h1, h2⟩ | ⟨g, c', cur, h1, _⟩
  · omega
  · obtain ⟨rfl, -, -⟩ := Value.slice.inj h1
    exact ⟨g, rfl⟩

set_option maxRecDepth 100000 in
set_option maxHeartbeats 8000000 in
theorem ringLaw_any (v : Value) (l : List Mb) (nd ep : Int) (w : World) (h : Mbs w v l) (hnd : I64 nd) (_hep : I64 ep) (hT : Tab w) : Calls Tryd.prog 3 #[v, .int .i64 nd, .int .i64 ep] w fun e w' => e = .returned (.bool true) ∧ Keep (fun _ => False) w w' := by
  obtain ⟨va, vn, vc, rfl⟩ : ∃ a n c, v = .slice a n c := by obtain ⟨a, c, b, off, h, _⟩ := h.at_; exact ⟨_, _, _, h⟩
  have HT := Lib.hid hT
  have HND := Lib.hid hnd
  obtain ⟨q, hq⟩ : ∃ q : Nat, min (vn : Int) 26 = q := ⟨min vn 26, by omega⟩
  obtain ⟨hc, hl, hcap⟩ := h.cut (show q ≤ vn by omega)
  have hqv : q ≤ vn := by omega
  have hq26 : q ≤ 26 := by omega
  generalize l.take q = l0 at *
  have HC := Lib.hid hc
  have HL := Lib.hid hl
  clear hT hnd _hep h hc hl
  go_enter Tryd.func3, Tryd.ntmps3
  go_wp2_with fail
  with_reducible refine (sane_any w HT.out).mono ?_
  rintro e W1 ⟨rfl, k1⟩
  have HK1 := Lib.hid k1
  clear k1
  obtain ⟨ga, gc, W2, hr2, k2, ho2⟩ := lit_mbs W1 (.slice va q vc) l0 (HC.out.kept HK1.out) (by have := HL.out; omega)
  rw [HL.out] at hr2 ho2
  have HR2 := Lib.hid hr2
  have HB2 : Hid (OwnB W1 l0 (.slice ga q gc) W2) := Lib.hid ⟨k2, by rw [HL.out]; exact ho2⟩
  have HBD0 := Lib.hid HC.out.bd
  clear hr2 ho2 k2 HC
  go_upto_region 3 with (at_builtin; refine wpList_app rfl (.tmp 18) (.tmp 23) 22 rfl rfl rfl HR2.out ?_)
  clear HR2
  go_wp2_with fail
  go_loopg [8] q (fun gh v8 wr => ∃ (k : Nat) (lk : List Mb), q ≤ gh + k ∧ v8 = .int .i64 k ∧ OwnB W1 lk (.slice ga q gc) wr ∧ lk.length = q ∧ ∀ m ∈ lk, I64 m.node ∧ I64 m.region ∧ I64 m.weight)
  case atStart => exact ⟨6, l0, by omega, rfl, HB2.out, HL.out, HBD0.out⟩
  case round =>
    clear HB2 HBD0 HL
    obtain ⟨k, lk, hk, rfl, hob, hlk, hbd⟩ := hrel
    have HB := Lib.hid hob
    have HL := Lib.hid hlk
    have HBD := Lib.hid hbd
    clear hob hlk hbd
    by_cases hlt : k < q
    · obtain ⟨g, rfl⟩ := own_some (by have h := HB.out.2; rw [HL.out] at h; exact h) (show 0 < q by omega)
      obtain ⟨m, hm⟩ : ∃ m, lk[k]? = some m := ⟨_, List.getElem?_eq_getElem (by have := HL.out; omega)⟩
      have HM := Lib.hid hm
      obtain ⟨c0, c1, c2, cf⟩ := HB.out.cells HL.out.symm hm
      obtain ⟨mn, mr, mw⟩ := m
      simp only [] at c0 c1 c2
      obtain ⟨x, hx⟩ : ∃ x, min mw 2 = x := ⟨_, rfl⟩
      have hmb := HBD.out _ (List.mem_of_getElem? hm)
      have HXB : Hid (I64 x) := Lib.hid (by unfold I64 at *; simp only [] at hmb; omega)
      have HE : Hid (OwnB W1 (lk.set k ⟨mn, mr, x⟩) (.slice (some ⟨g, 0, none⟩) q gc) (wr.setCell ⟨g, k * 3 + 2, none⟩ (.int .i64 x))) := Lib.hid (HB.out.set HL.out.symm hm (by decide) rfl)
      have hkz : (k : Int) < (q : Int) := by omega
      have hk0 : (0 : Int) ≤ (k : Int) := by omega
      clear hm hmb
      go_wp2_with fail
      clear c0 c1 c2 cf
      go_roundg (gk - 1)
      case rel => exact ⟨k + 1, _, by omega, by go_num, HE.out, by rw [List.length_set]; exact HL.out, fun m hm => by
        rcases List.mem_or_eq_of_mem_set hm with h | h
        · exact HBD.out m h
        · rw [h]
          have := HBD.out _ (List.mem_of_getElem? HM.out)
          exact ⟨this.1, this.2.1, HXB.out⟩⟩
      case measure => omega
    · have hkz : ¬ ((k : Int) < (q : Int)) := by omega
      have HMB : Hid (Mbs wr (.slice ga q gc) lk) := Lib.hid (mbs_owns HB.out.2 (by have := HL.out; omega) HBD.out)
      have HKW := Lib.hid (HK1.out.trans HB.out.1)
      clear HB HBD HL
      go_upto_region 7 with (fail)
      go_wp2_with fail
      with_reducible refine (assignU _ lk wr HMB.out (HT.out.kept HKW.out)).mono ?_
      rintro e X1 ⟨aa, an, ac, rfl, hi1, kk1⟩
      have HI1 := Lib.hid hi1
      have HX1 := Lib.hid kk1
      clear hi1 kk1
      go_wp2_with fail
      with_reducible refine (refAssignU _ lk X1 (HMB.out.kept HX1.out)).mono ?_
      rintro e X2 ⟨ba, bn, bc, rfl, hi2, kk2⟩
      have HI2 := Lib.hid hi2
      have HI12 := Lib.hid (HI1.out.kept kk2)
      have HX2 := Lib.hid (HX1.out.trans kk2)
      clear hi2 kk2 HI1 HX1
      go_wp2_with fail
      with_reducible refine (newU ep _ lk X2 (HMB.out.kept HX2.out) (HT.out.kept (HKW.out.trans HX2.out))).mono ?_
      rintro e X3 ⟨ra, rn, rc, sa, sn, sc, rfl, hr3, kk3⟩
      have HR3 := Lib.hid hr3
      have HX3 := Lib.hid (HX2.out.trans kk3)
      have HK23 := Lib.hid kk3
      clear hr3 kk3
      go_wp2_with fail
      have HB3 := Lib.hid (Box3.new X3 (.int .i64 (newP ep lk)) (.slice ra rn rc) (.slice sa sn sc) 31)
      have HK34 : Hid (Keep (fun _ => False) X3 (X3.alloc (.cells #[.int .i64 (newP ep lk), .slice ra rn rc, .slice sa sn sc] 31))) := Lib.hid ((Keep.refl _ X3).alloc _)
      generalize X3.alloc (.cells #[.int .i64 (newP ep lk), .slice ra rn rc, .slice sa sn sc] 31) = X4 at *
      generalize X3.heap.size = z1 at *
      with_reducible refine (refNewU ep _ lk X4 (HMB.out.kept (HX3.out.trans HK34.out))).mono ?_
      rintro e X5 ⟨ra', rn', rc', sa', sn', sc', rfl, hr5, kk5⟩
      have HR5 := Lib.hid hr5
      have HX5 := Lib.hid (HX3.out.trans (HK34.out.trans kk5))
      have HK25 := Lib.hid (HK23.out.trans (HK34.out.trans kk5))
      have HK35 := Lib.hid (HK34.out.trans kk5)
      have HB5 := Lib.hid (HB3.out.kept kk5)
      clear hr5 kk5 HB3 HK34 HX3 HK23
      go_wp2_with fail
      have HC5 := Lib.hid (Box3.new X5 (.int .i64 (newP ep lk)) (.slice ra' rn' rc') (.slice sa' sn' sc') 31)
      have HK56 : Hid (Keep (fun _ => False) X5 (X5.alloc (.cells #[.int .i64 (newP ep lk), .slice ra' rn' rc', .slice sa' sn' sc'] 31))) := Lib.hid ((Keep.refl _ X5).alloc _)
      generalize X5.alloc (.cells #[.int .i64 (newP ep lk), .slice ra' rn' rc', .slice sa' sn' sc'] 31) = X6 at *
      generalize X5.heap.size = z2 at *
      have HX6 := Lib.hid (HX5.out.trans HK56.out)
      have HM6 := Lib.hid (HMB.out.kept HX6.out)
      have HI16 := Lib.hid (HI12.out.kept (HK25.out.trans HK56.out))
      have HI26 := Lib.hid (HI2.out.kept (HK25.out.trans HK56.out))
      have HR36 := Lib.hid (HR3.out.kept (HK35.out.trans HK56.out))
      have HR56 := Lib.hid (HR5.out.kept HK56.out)
      have HB6 := Lib.hid (HB5.out.kept HK56.out)
      have HFIN := Lib.hid (HKW.out.trans HX6.out)
      clear HX5 HX2 HMB HI12 HI2 HR3 HR5 HB5 HK25 HK35 HK56 HX6 HKW
      generalize hg1 : newP ep lk = np at *
      generalize hg2 : newE ep lk = ne at *
      generalize hg3 : asgE lk = ae at *
      clear hg1 hg2 hg3
      have e0 : ∀ b : Bool, (b == b) = true := fun b => by simp
      have e1 : ∀ b : Int, (b == b) = true := fun b => by simp
      have e2 := e1 ne
      have e3 := e1 ae
      have e4 := e1 (limitL lk nd)
      have e5 := e0 (validL lk)
      clear e0 e1
      have HVA := Lib.hid (fun (W : World) (kk : Keep (fun _ => False) X6 W) => valid_any _ lk W (HM6.out.kept kk))
      have HVB := Lib.hid (fun (W : World) (kk : Keep (fun _ => False) X6 W) => refValid_any _ lk W (HM6.out.kept kk))
      have HLA := Lib.hid (fun (W : World) (kk : Keep (fun _ => False) X6 W) => limit_any _ lk W (HM6.out.kept kk) nd HND.out)
      have HLB := Lib.hid (fun (W : World) (kk : Keep (fun _ => False) X6 W) => refLimit_any _ lk W (HM6.out.kept kk) nd)
      generalize validL lk = bv at *
      generalize limitL lk nd = lv at *
      with_reducible refine (HVA.out X6 (Keep.refl _ _)).mono ?_
      rintro e Y1 ⟨rfl, y1⟩
      have HY1 := Lib.hid (y1)
      clear y1
      go_wp2_with fail
      with_reducible refine (HVB.out Y1 HY1.out).mono ?_
      rintro e Y2 ⟨rfl, y1⟩
      have HY2 := Lib.hid (HY1.out.trans y1)
      clear y1
      go_wp2_with fail
      with_reducible refine (HLA.out Y2 HY2.out).mono ?_
      rintro e Y3 ⟨rfl, y1⟩
      have HY3 := Lib.hid (HY2.out.trans y1)
      clear y1
      go_wp2_with fail
      with_reducible refine (HLB.out Y3 HY3.out).mono ?_
      rintro e Y4 ⟨rfl, y1⟩
      have HY4 := Lib.hid (HY3.out.trans y1)
      clear y1
      go_wp2_with fail
      with_reducible refine (sameInts_any _ _ _ _ Y4 (HI16.out.kept HY4.out) (HI26.out.kept HY4.out)).mono ?_
      rintro e Y5 ⟨rfl, y1⟩
      have HY5 := Lib.hid (HY4.out.trans y1)
      clear y1
      rw [decide_eq_true (p := asgO lk = asgO lk) rfl]
      obtain ⟨x0, x1, x2, -⟩ := HB6.out.kept HY5.out
      obtain ⟨w0, w1, w2, -⟩ := HC5.out.kept HY5.out
      go_wp2_with fail
      clear x0 x1 x2 w0 w1 w2
      with_reducible refine (refSame_any _ _ np np _ _ _ _ Y5 (HR36.out.kept HY5.out) (HR56.out.kept HY5.out)).mono ?_
      rintro e Y6 ⟨rfl, y1⟩
      have HY6 := Lib.hid (HY5.out.trans y1)
      clear y1
      rw [decide_eq_true (p := np = np) rfl, decide_eq_true (p := newM ep lk = newM ep lk) rfl, decide_eq_true (p := newO ep lk = newO ep lk) rfl]
      go_wp2_with fail
      go_ret
      exact ⟨by first | rfl | simp, HFIN.out.trans HY6.out⟩
end Go.Proofs.YtplkmbfeeegaiaaDoor
