/-
  RingConsistent.
-/
import Derived.Test.YtplkmbfeeegaiaaDoorB9
import Derived.Test.YtplkmbfeeegaiaaDoorP3
namespace Go.Proofs.YtplkmbfeeegaiaaDoor
open Go.RowKit Go.Shelf

theorem freeB_false {l : List Mb} {ow : List Int} {m : Mb} (hm : m ∈ l) (h : limitL l m.node ≤ cnt ow m.node) : freeB l ow = false := by
  cases e : freeB l ow with
  | false => rfl
  | true =>
    have := (freeB_iff l ow).1 e m hm
    omega
set_option maxRecDepth 100000 in
set_option maxHeartbeats 2000000 in
theorem free_any (vl : Value) (l : List Mb) (vo : Value) (ow : List Int) (w : World) (hm : Mbs w vl l) (ho : Its w vo ow) : Calls Tryd.prog 38 #[vl, vo] w fun e w' => e = .returned (.bool (freeB l ow)) ∧ Keep (fun _ => False) w w' := by
  have hform : ∃ a n c, vo = .slice a n c := by
    obtain ⟨a', c', b', off', h2, _⟩ := ho.at_
    exact ⟨_, _, _, h2⟩
  obtain ⟨oa, on, oc, rfl⟩ := hform
  have HLI : Hid (∀ W q, I64 q → Keep (fun _ => False) w W → Calls Tryd.prog 21 #[vl, .int .i64 q] W fun e w' => e = .returned (.int .i64 (limitL l q)) ∧ Keep (fun _ => False) W w') := Lib.hid (fun W q hq k => limit_any vl l W (hm.kept k) q hq)
  have HLD : Hid (∀ W q, Keep (fun _ => False) w W → Calls Tryd.prog 29 #[.agg #[.int .i64 0, vl, .slice oa on oc], .int .i64 q] W fun e w' => e = .returned (.int .i64 (cnt ow q)) ∧ Keep (fun _ => False) W w') := Lib.hid (fun W q k => load_any _ 0 l ow W ⟨by unfold I64; omega, _, _, rfl, hm.kept k, ho.kept k⟩ q)
  obtain ⟨hn, hbd, a, c, b, off, rfl, hc, ha, hcell⟩ := hm
  have HC := Lib.hid hcell
  have HA := Lib.hid ha
  have HBD := Lib.hid hbd
  clear hcell ha hbd ho
  obtain ⟨n, hn'⟩ : ∃ n, l.length = n := ⟨_, rfl⟩
  have HL := Lib.hid hn'
  rw [hn'] at hn hc HLI HLD ⊢
  clear hn'
  have HK0 : Hid (Keep (fun _ => False) w (w.alloc (.cells #[.int .i64 0, .slice a n c, .slice oa on oc] 31))) := Lib.hid ((Keep.refl _ w).alloc _)
  have HT3 := Lib.hid (three_cell w (.int .i64 0) (.slice a n c) (.slice oa on oc) 31)
  go_enter Tryd.func38, Tryd.ntmps38
  go_wp2_with fail
  generalize w.alloc (.cells #[.int .i64 0, .slice a n c, .slice oa on oc] 31) = W0 at *
  generalize w.heap.size = z at *
  go_loopg [6] n (fun gh v wr => ∃ k : Nat, gh + k = n ∧ v = .int .i64 k ∧ (∀ m ∈ l.take k, cnt ow m.node < limitL l m.node) ∧ Keep (fun _ => False) W0 wr)
  case atStart => exact ⟨0, by omega, rfl, by simp, Keep.refl _ _⟩
  case round =>
    obtain ⟨k, hk, rfl, hall, hkeep⟩ := hrel
    have HALL := Lib.hid hall
    have HK := Lib.hid hkeep
    clear hall hkeep
    by_cases hlt : k < n
    · obtain ⟨m, hm⟩ : ∃ m, l[k]? = some m := ⟨_, List.getElem?_eq_getElem (by have := HL.out; omega)⟩
      obtain rfl := HA.out (by have := HL.out; omega)
      have HCX := Lib.hid (HC.out k m hm).1
      have HM := Lib.hid hm
      have HMM := Lib.hid (List.mem_of_getElem? hm)
      have hqb := (HBD.out m HMM.out).1
      have HQB := Lib.hid hqb
      clear hm hqb
      obtain ⟨x, hx⟩ : ∃ x, m.node = x := ⟨_, rfl⟩
      have HX := Lib.hid hx
      rw [hx] at HCX HQB
      clear hx
      have hkz : (k : Int) < (n : Int) := by omega
      have hk0 : (0 : Int) ≤ (k : Int) := by omega
      have z0 : ∀ p : KW wr, p.val.cell? ⟨z, 0, none⟩ = some (.int .i64 0) := fun p => p.k.cell (HK.out.cell HT3.out.1 (fun h => h)) (fun h => h)
      have z1 : ∀ p : KW wr, p.val.cell? ⟨z, 1, none⟩ = some (.slice (some ⟨b, off, none⟩) n c) := fun p => p.k.cell (HK.out.cell HT3.out.2.1 (fun h => h)) (fun h => h)
      have z2 : ∀ p : KW wr, p.val.cell? ⟨z, 2, none⟩ = some (.slice oa on oc) := fun p => p.k.cell (HK.out.cell HT3.out.2.2.1 (fun h => h)) (fun h => h)
      have zx : ∀ p : KW wr, p.val.cell? ⟨b, off + k * 3, none⟩ = some (.int .i64 x) := fun p => p.k.cell ((HK0.out.trans HK.out).cell HCX.out (fun h => h)) (fun h => h)
      have HLDx : Hid (∀ W, Keep (fun _ => False) w W → Calls Tryd.prog 29 #[.agg #[.int .i64 0, .slice (some ⟨b, off, none⟩) n c, .slice oa on oc], .int .i64 x] W fun e w' => e = .returned (.int .i64 (cnt ow x)) ∧ Keep (fun _ => False) W w') := Lib.hid (fun W k => HLD.out W x k)
      have HLIx : Hid (∀ W, Keep (fun _ => False) w W → Calls Tryd.prog 21 #[.slice (some ⟨b, off, none⟩) n c, .int .i64 x] W fun e w' => e = .returned (.int .i64 (limitL l x)) ∧ Keep (fun _ => False) W w') := Lib.hid (fun W k => HLI.out W x HQB.out k)
      by_cases hle : cnt ow x < limitL l x
      · have HN : Hid (∀ y ∈ l.take (k + 1), cnt ow y.node < limitL l y.node) := Lib.hid (fun y hy => by
          rw [List.take_add_one, HM.out] at hy
          rcases List.mem_append.1 hy with hy | hy
          · exact HALL.out y hy
          · simp at hy; subst hy; rw [HX.out]; exact hle)
        generalize cnt ow x = cx at *
        generalize limitL l x = lx at *
        have hng : ¬ (lx ≤ cx) := by omega
        go_wp2_with fail
        refine wp_region_quiet_kept (by kernel_rfl) (by kernel_rfl) ?_
        repeat (quiet_step (first | (go_at_call 29; refine Calls.kept_of (HLDx.out _ ((HK0.out.trans HK.out).trans (KW.k _)))) | (go_at_call 21; refine Calls.kept_of (HLIx.out _ ((HK0.out.trans HK.out).trans (KW.k _))))))
        refine wpQuiet_nil ?_
        rintro _ ⟨p, rfl⟩
        have HP := Lib.hid (HK.out.trans p.k)
        clear z0 z1 z2 zx
        generalize p.val = W2 at *
        go_wp2_with fail
        go_roundg (gk - 1)
        case rel => exact ⟨k + 1, by omega, by go_num, HN.out, HP.out⟩
        case measure => omega
      · have HB : Hid (freeB l ow = false) := Lib.hid (freeB_false HMM.out (by rw [HX.out]; omega))
        generalize cnt ow x = cx at *
        generalize limitL l x = lx at *
        have hng : lx ≤ cx := by omega
        go_wp2_with fail
        refine wp_region_quiet_kept (by kernel_rfl) (by kernel_rfl) ?_
        repeat (quiet_step (first | (go_at_call 29; refine Calls.kept_of (HLDx.out _ ((HK0.out.trans HK.out).trans (KW.k _)))) | (go_at_call 21; refine Calls.kept_of (HLIx.out _ ((HK0.out.trans HK.out).trans (KW.k _))))))
        refine wpQuiet_nil ?_
        rintro _ ⟨p, rfl⟩
        have HP := Lib.hid (HK0.out.trans (HK.out.trans p.k))
        clear z0 z1 z2 zx
        generalize p.val = W2 at *
        go_wp2_with fail
        go_ret
        exact ⟨by rw [HB.out] <;> rfl, HP.out⟩
    · obtain rfl : k = n := by omega
      have HB : Hid (freeB l ow = true) := Lib.hid ((freeB_iff l ow).2 (by
        have h1 := HALL.out
        rw [List.take_of_length_le (by have := HL.out; omega)] at h1
        exact h1))
      go_wp2_with fail
      go_ret
      exact ⟨by rw [HB.out] <;> rfl, HK0.out.trans HK.out⟩

set_option maxRecDepth 100000 in
set_option maxHeartbeats 8000000 in
theorem consistent_any (v : Value) (xs : List Int) (nd wt : Int) (w : World) (h : Its w v xs) (hnd : I64 nd) (hwt : I64 wt) (hT : Tab w) : Calls Tryd.prog 6 #[v, .int .i64 nd, .int .i64 wt] w fun e w' => e = .returned (.bool true) ∧ Keep (fun _ => False) w w' := by
  have HT := Lib.hid hT
  have HI := Lib.hid h
  have HND := Lib.hid hnd
  have HWT := Lib.hid hwt
  obtain ⟨va, vn, vc, rfl⟩ : ∃ a n c, v = .slice a n c := by
    obtain ⟨-, -, a, c, b, off, rfl, -⟩ := h
    exact ⟨_, _, _, rfl⟩
  clear hT h hnd hwt
  obtain ⟨l, hl⟩ : ∃ l, someL xs = l := ⟨_, rfl⟩
  have hv : VL l := by rw [← hl]; exact someL_ok xs
  have hp1 := pk_bd nd 24 (by decide)
  have hp2 := pk_bd wt 6 (by decide)
  go_enter Tryd.func6, Tryd.ntmps6
  go_wp2_with fail
  with_reducible refine (sane_any w HT.out).mono ?_
  rintro e W1 ⟨rfl, k1⟩
  have HK1 := Lib.hid k1
  clear k1
  go_wp2_with fail
  with_reducible refine (some_any _ xs _ (HI.out.kept HK1.out)).mono ?_
  rintro e W2 ⟨vl, rfl, hol⟩
  rw [hl] at hol
  have HM : Hid (Mbs W2 vl l) := Lib.hid (hol.mbs hv)
  have HK2 := Lib.hid (HK1.out.trans hol.1)
  have HT2 := Lib.hid (HT.out.kept HK2.out)
  clear hol hl HK1
  obtain ⟨la, ln, lc, lb, lo, rfl, hln, hlc, hla, hlcell⟩ : ∃ a n c b off, vl = .slice a n c ∧ n = l.length ∧ n ≤ c ∧ (0 < n → a = some ⟨b, off, none⟩) ∧ ∀ (j : Nat) (m : Mb), l[j]? = some m → W2.cell? ⟨b, off + j * 3, none⟩ = some (.int .i64 m.node) ∧ W2.cell? ⟨b, off + j * 3 + 1, none⟩ = some (.int .i64 m.region) ∧ W2.cell? ⟨b, off + j * 3 + 2, none⟩ = some (.int .i64 m.weight) := by
    obtain ⟨-, -, a, c, b, off, rfl, hc, ha, hcell⟩ := HM.out
    exact ⟨_, _, _, b, off, rfl, rfl, hc, ha, hcell⟩
  obtain rfl := hla (by rw [hln]; exact List.length_pos_iff.2 hv.ne)
  have HLC := Lib.hid hlcell
  have HLN := Lib.hid hln
  have hln24 : ln ≤ 24 := by rw [hln]; exact hv.len
  clear hla hlcell hln
  go_wp2_with fail
  with_reducible refine (pick_any nd 24 _ HND.out (by decide)).mono ?_
  rintro e w' ⟨rfl, rfl⟩
  go_wp2_with fail
  with_reducible refine (pick_any wt 6 _ HWT.out (by decide)).mono ?_
  rintro e w' ⟨rfl, rfl⟩
  generalize pk nd 24 = pn at *
  generalize pk wt 6 = pw at *
  have hwp : IntKind.i64.wrap (1 + pw) = 1 + pw := wrapI (by unfold I64; omega)
  go_wp2_with fail
  clear hwp
  obtain ⟨w1, hw1⟩ : ∃ w1, 1 + pw = w1 := ⟨_, rfl⟩
  rw [hw1]
  have hwb : 1 ≤ w1 ∧ w1 ≤ 6 := by omega
  clear hw1 hp2
  have HOK : Hid (okMb ⟨pn, 0, w1⟩) := Lib.hid (by unfold okMb; simp only []; omega)
  have HB3 := Lib.hid (three_cell W2 (.int .i64 pn) (.int .i64 0) (.int .i64 w1) 25)
  have HK3 : Hid (Keep (fun _ => False) W2 (W2.alloc (.cells #[.int .i64 pn, .int .i64 0, .int .i64 w1] 25))) := Lib.hid ((Keep.refl _ W2).alloc _)
  generalize W2.alloc (.cells #[.int .i64 pn, .int .i64 0, .int .i64 w1] 25) = X0 at *
  generalize W2.heap.size = zm at *
  have HMX := Lib.hid (HM.out.kept HK3.out)
  have HTX := Lib.hid (HT2.out.kept HK3.out)
  have HKX := Lib.hid (HK2.out.trans HK3.out)
  have HCX := Lib.hid (fun (j : Nat) (m : Mb) hj => And.intro (HK3.out.cell (HLC.out j m hj).1 (fun h => h)) (And.intro (HK3.out.cell (HLC.out j m hj).2.1 (fun h => h)) (HK3.out.cell (HLC.out j m hj).2.2 (fun h => h))))
  have HF0 := Lib.hid HB3.out.1
  have HF1 := Lib.hid HB3.out.2.1
  have HF2 := Lib.hid HB3.out.2.2.1
  have HV := Lib.hid hv
  clear HB3 HM HT2 HK2 HK3 HLC HT HI HND HWT hv
  go_loopg [10, 11, 12] ln (fun gh v10 v11 v wr => ∃ (k : Nat) (dn : Bool), gh + k = ln ∧ v = .int .i64 k ∧ v11 = .bool dn ∧ Hid (dn = decide (¬ (hiM (l.take k) pn).length = 0)) ∧ OwnB X0 (withM (l.take k) ⟨pn, 0, w1⟩) v10 wr ∧ ∀ x ∈ l.take k, x.node ≠ pn)
  case atStart => exact ⟨0, false, by omega, rfl, rfl, Lib.hid (by simp [hiM]), by rw [List.take_zero, withM_nil]; exact OwnB.nil (Keep.refl _ _), by simp⟩
  case round =>
    obtain ⟨k, dn, hk, rfl, rfl, HDN, how, hne⟩ := hrel
    have HNE := Lib.hid hne
    by_cases hlt : k < ln
    · obtain ⟨x, hx⟩ : ∃ x, l[k]? = some x := ⟨_, List.getElem?_eq_getElem (by have := HLN.out; omega)⟩
      have HX := Lib.hid hx
      have HTK : Hid (l.take (k + 1) = l.take k ++ [x]) := Lib.hid (by rw [List.take_add_one, hx]; rfl)
      have HLT : Hid (∀ y ∈ l.take k, y.node < x.node) := Lib.hid (fun y hy => by
        have h1 := HV.out.asc
        rw [← List.take_append_drop k l, List.pairwise_append] at h1
        refine h1.2.2 y hy x ?_
        rw [List.drop_eq_getElem_cons (by have := HLN.out; omega)]
        rw [List.getElem?_eq_getElem (by have := HLN.out; omega)] at hx
        simp only [Option.some.injEq] at hx
        rw [hx]
        exact List.mem_cons_self)
      have HOW := Lib.hid how
      have c0 := how.1.cell (HCX.out k x hx).1 (fun h => h)
      have d0 := how.1.cell HF0.out (fun h => h)
      have hkz : (k : Int) < (ln : Int) := by omega
      have hk0 : (0 : Int) ≤ (k : Int) := by omega
      have HWL : Hid ((withM (l.take k) ⟨pn, 0, w1⟩).length ≤ 100) := Lib.hid (by
        have := withM_len (l.take k) ⟨pn, 0, w1⟩
        rw [List.length_take] at this
        omega)
      clear how hne hx
      obtain ⟨xn, xr, xw⟩ := x
      simp only [] at c0
      by_cases heq : xn = pn
      · subst heq
        have hbe : (xn == xn) = true := by simp
        go_wp2_with fail
        go_quiet (fail)
        go_wp2_with fail
        go_ret
        exact ⟨rfl, (HKX.out.trans HOW.out.1).drewN _⟩
      · have hbe : (xn == pn) = false := by simpa using heq
        have HNN : Hid (∀ y ∈ l.take (k + 1), y.node ≠ pn) := Lib.hid (fun y hy => by
          rw [HTK.out] at hy
          rcases List.mem_append.1 hy with hy | hy
          · exact HNE.out y hy
          · simp at hy; subst hy; exact heq)
        go_wp2_with fail
        go_quiet (fail)
        clear c0 d0
        have HOW1 := Lib.hid (HOW.out.keep ((Keep.refl (fun _ => False) wr).drewN nq))
        clear HOW
        generalize wr.drewN nq = Y0 at *
        have c0 := HOW1.out.1.cell (HCX.out k _ HX.out).1 (fun h => h)
        have d0 := HOW1.out.1.cell HF0.out (fun h => h)
        simp only [] at c0
        by_cases hdone : (hiM (l.take k) pn).length = 0
        · have HDZ := Lib.hid hdone
          obtain rfl : dn = false := by rw [HDN.out]; exact decide_eq_false (fun e => e hdone)
          clear hdone
          by_cases hgt : pn < xn
          · -- the further member goes ahead of this one
            have hw0 := withM_first (l := l.take k) (x := ⟨xn, xr, xw⟩) (m := ⟨pn, 0, w1⟩) hgt HDZ.out
            rw [← HTK.out] at hw0
            have HW0 := Lib.hid hw0
            clear hw0
            go_wp2_with fail
            go_quiet (fail)
            clear c0 d0
            have HOW2 := Lib.hid (HOW1.out.keep ((Keep.refl (fun _ => False) Y0).drewN nq))
            clear HOW1
            generalize Y0.drewN nq = Y1 at *
            have d0 := HOW2.out.1.cell HF0.out (fun h => h)
            have d1 := HOW2.out.1.cell HF1.out (fun h => h)
            have d2 := HOW2.out.1.cell HF2.out (fun h => h)
            obtain ⟨v', Y2, hr, how2, -, hvf⟩ := HOW2.out.snoc ⟨pn, 0, w1⟩ (by have := HWL.out; omega)
            simp only [] at hr
            have HR := Lib.hid hr
            have HN := Lib.hid how2
            clear hr how2
            have c0 := HN.out.1.cell (HCX.out k _ HX.out).1 (fun h => h)
            have c1 := HN.out.1.cell (HCX.out k _ HX.out).2.1 (fun h => h)
            have c2 := HN.out.1.cell (HCX.out k _ HX.out).2.2 (fun h => h)
            simp only [] at c0 c1 c2
            obtain ⟨v2', Y3, hr2, how3, -, -⟩ := HN.out.snoc ⟨xn, xr, xw⟩ (by rw [List.length_append]; have := HWL.out; simp; omega)
            simp only [] at hr2
            have HR2 := Lib.hid hr2
            have HN2 : Hid (OwnB X0 (withM (l.take (k + 1)) ⟨pn, 0, w1⟩) v2' Y3) := Lib.hid (by rw [HW0.out.2]; exact how3)
            clear hr2 how3
            go_wp2_with (first | (at_builtin; refine wpList_app rfl (.tmp 54) (.tmp 56) 22 rfl rfl rfl HR.out ?_) | (at_builtin; refine wpList_app rfl (.tmp 58) (.tmp 63) 22 rfl rfl rfl HR2.out ?_))
            clear d0 d1 d2
            clear c0 c1 c2
            go_roundg (gk - 1)
            case rel => exact ⟨k + 1, true, by omega, by go_num, rfl, Lib.hid (decide_eq_true HW0.out.1).symm, HN2.out, HNN.out⟩
            case measure => omega
          · have hw0 := withM_lt (l := l.take k) (x := ⟨xn, xr, xw⟩) (m := ⟨pn, 0, w1⟩) (by simp only []; omega) HLT.out
            rw [← HTK.out] at hw0
            have HW0 := Lib.hid hw0
            clear hw0
            go_wp2_with fail
            go_quiet (fail)
            clear c0 d0
            have HOW2 := Lib.hid (HOW1.out.keep ((Keep.refl (fun _ => False) Y0).drewN nq))
            clear HOW1
            generalize Y0.drewN nq = Y1 at *
            have c0 := HOW2.out.1.cell (HCX.out k _ HX.out).1 (fun h => h)
            have c1 := HOW2.out.1.cell (HCX.out k _ HX.out).2.1 (fun h => h)
            have c2 := HOW2.out.1.cell (HCX.out k _ HX.out).2.2 (fun h => h)
            simp only [] at c0 c1 c2
            obtain ⟨v2', Y3, hr2, how3, -, -⟩ := HOW2.out.snoc ⟨xn, xr, xw⟩ (by have := HWL.out; omega)
            simp only [] at hr2
            have HR2 := Lib.hid hr2
            have HN2 : Hid (OwnB X0 (withM (l.take (k + 1)) ⟨pn, 0, w1⟩) v2' Y3) := Lib.hid (by rw [HW0.out.2]; exact how3)
            clear hr2 how3
            go_wp2_with (at_builtin; refine wpList_app rfl (.tmp 58) (.tmp 63) 22 rfl rfl rfl HR2.out ?_)
            clear c0 c1 c2
            go_roundg (gk - 1)
            case rel => exact ⟨k + 1, false, by omega, by go_num, rfl, Lib.hid (decide_eq_false (p := ¬ (hiM (l.take (k + 1)) pn).length = 0) (fun e => e HW0.out.1)).symm, HN2.out, HNN.out⟩
            case measure => omega
        · have HDZ := Lib.hid hdone
          obtain rfl : dn = true := by rw [HDN.out]; exact decide_eq_true hdone
          clear hdone
          have hgt : pn < xn := by
            cases he : hiM (l.take k) pn with
            | nil => exact absurd (by rw [he]; rfl) HDZ.out
            | cons y t =>
              have hy : y ∈ hiM (l.take k) pn := by rw [he]; exact List.mem_cons_self
              unfold hiM at hy
              have h1 : pn < y.node := by simpa using (List.mem_filter.1 hy).2
              have h2 := HLT.out y (List.mem_filter.1 hy).1
              omega
          have hw0 := withM_next (l := l.take k) (x := ⟨xn, xr, xw⟩) (m := ⟨pn, 0, w1⟩) hgt HDZ.out
          rw [← HTK.out] at hw0
          have HW0 := Lib.hid hw0
          clear hw0 hgt
          go_wp2_with fail
          go_quiet (fail)
          clear c0 d0
          have HOW2 := Lib.hid (HOW1.out.keep ((Keep.refl (fun _ => False) Y0).drewN nq))
          clear HOW1
          generalize Y0.drewN nq = Y1 at *
          have c0 := HOW2.out.1.cell (HCX.out k _ HX.out).1 (fun h => h)
          have c1 := HOW2.out.1.cell (HCX.out k _ HX.out).2.1 (fun h => h)
          have c2 := HOW2.out.1.cell (HCX.out k _ HX.out).2.2 (fun h => h)
          simp only [] at c0 c1 c2
          obtain ⟨v2', Y3, hr2, how3, -, -⟩ := HOW2.out.snoc ⟨xn, xr, xw⟩ (by have := HWL.out; omega)
          simp only [] at hr2
          have HR2 := Lib.hid hr2
          have HN2 : Hid (OwnB X0 (withM (l.take (k + 1)) ⟨pn, 0, w1⟩) v2' Y3) := Lib.hid (by rw [HW0.out.2]; exact how3)
          clear hr2 how3
          go_wp2_with (at_builtin; refine wpList_app rfl (.tmp 58) (.tmp 63) 22 rfl rfl rfl HR2.out ?_)
          clear c0 c1 c2
          go_roundg (gk - 1)
          case rel => exact ⟨k + 1, true, by omega, by go_num, rfl, Lib.hid (decide_eq_true HW0.out.1).symm, HN2.out, HNN.out⟩
          case measure => omega
    · obtain rfl : k = ln := by omega
      have HTA : Hid (l.take k = l) := Lib.hid (List.take_of_length_le (by have := HLN.out; omega))
      rw [HTA.out] at how hne HDN
      have HOW := Lib.hid how
      have HNL := Lib.hid hne
      clear how hne HNE
      by_cases hdone : (hiM l pn).length = 0
      · obtain rfl : dn = false := by rw [HDN.out]; exact decide_eq_false (fun e => e hdone)
        have HE0 := Lib.hid (withM_end0 (l := l) (m := ⟨pn, 0, w1⟩) hdone)
        have d0 := HOW.out.1.cell HF0.out (fun h => h)
        have d1 := HOW.out.1.cell HF1.out (fun h => h)
        have d2 := HOW.out.1.cell HF2.out (fun h => h)
        obtain ⟨v', Y2, hr, how2, -, hvf⟩ := HOW.out.snoc ⟨pn, 0, w1⟩ (by
          have := withM_len l ⟨pn, 0, w1⟩
          have := HLN.out
          omega)
        rw [HE0.out] at how2
        simp only [] at hr
        have HR := Lib.hid hr
        have HN := Lib.hid how2
        clear hr how2 hdone
        go_wp2_with (at_builtin; refine wpList_app rfl (.tmp 67) (.tmp 69) 22 rfl rfl rfl HR.out ?_)
        clear d0 d1 d2
        have HVM : Hid (VL (moreM l ⟨pn, 0, w1⟩)) := Lib.hid (moreM_ok HV.out HOK.out)
        have HMB : Hid (Mbs Y2 v' (moreM l ⟨pn, 0, w1⟩)) := Lib.hid (HN.out.mbs HVM.out)
        have HKM : Hid (Keep (fun _ => False) X0 Y2) := Lib.hid HN.out.1
        obtain ⟨ma, mn, mc, hme⟩ : ∃ a n c, v' = .slice a n c := by
          obtain ⟨a, c, b, off, h1, _⟩ := HMB.out.at_
          exact ⟨_, _, _, h1⟩
        subst hme
        go_wp2_with fail
        with_reducible refine (assign_ok _ l _ (HMX.out.kept HKM.out) HV.out (HTX.out.kept HKM.out)).mono ?_
        rintro e Z1 ⟨va1, rfl, hown1, kz1⟩
        have HA1 : Hid (Its Z1 va1 (ownersL PN QS l)) := Lib.hid (its_owns hown1 (by rw [(owners_ok PN QS HV.out).1]; decide) HV.out.obd)
        have HKZ1 := Lib.hid (HKM.out.trans kz1)
        have HMB1 := Lib.hid (HMB.out.kept kz1)
        obtain ⟨aa1, ac1, hae⟩ : ∃ a c, va1 = .slice a 64 c := by
          obtain ⟨-, -, a, c, b, off, h1, _⟩ := HA1.out
          rw [(owners_ok PN QS HV.out).1] at h1
          exact ⟨_, _, h1⟩
        subst hae
        clear hown1 kz1 HMB HKM
        go_wp2_with fail
        with_reducible refine (assign_ok _ (moreM l ⟨pn, 0, w1⟩) _ HMB1.out HVM.out (HTX.out.kept HKZ1.out)).mono ?_
        rintro e Z2 ⟨va2, rfl, hown2, kz2⟩
        have HA2 : Hid (Its Z2 va2 (ownersL PN QS (moreM l ⟨pn, 0, w1⟩))) := Lib.hid (its_owns hown2 (by rw [(owners_ok PN QS HVM.out).1]; decide) HVM.out.obd)
        have HA1' := Lib.hid (HA1.out.kept kz2)
        have HKZ2 := Lib.hid (HKZ1.out.trans kz2)
        have HMB2 := Lib.hid (HMB1.out.kept kz2)
        obtain ⟨aa2, ac2, hae⟩ : ∃ a c, va2 = .slice a 64 c := by
          obtain ⟨-, -, a, c, b, off, h1, _⟩ := HA2.out
          rw [(owners_ok PN QS HVM.out).1] at h1
          exact ⟨_, _, h1⟩
        subst hae
        clear hown2 kz2 HA1 HKZ1 HMB1
        go_wp2_with fail
        with_reducible refine (free_any _ l _ (ownersL PN QS l) _ (HMX.out.kept HKZ2.out) HA1'.out).mono ?_
        rintro e Z3 ⟨rfl, kz3⟩
        have HK3 := Lib.hid kz3
        clear kz3
        cases hf1 : freeB l (ownersL PN QS l) with
        | false =>
          go_wp2_with fail
          go_ret
          exact ⟨rfl, HKX.out.trans (HKZ2.out.trans HK3.out)⟩
        | true =>
          have HF1' := Lib.hid ((freeB_iff _ _).1 hf1)
          clear hf1
          go_wp2_with fail
          with_reducible refine (free_any _ (moreM l ⟨pn, 0, w1⟩) _ (ownersL PN QS (moreM l ⟨pn, 0, w1⟩)) _ (HMB2.out.kept HK3.out) (HA2.out.kept HK3.out)).mono ?_
          rintro e Z4 ⟨rfl, kz4⟩
          have HK4 := Lib.hid (HK3.out.trans kz4)
          clear kz4
          cases hf2 : freeB (moreM l ⟨pn, 0, w1⟩) (ownersL PN QS (moreM l ⟨pn, 0, w1⟩)) with
          | false =>
            go_wp2_with fail
            go_ret
            exact ⟨rfl, HKX.out.trans (HKZ2.out.trans HK4.out)⟩
          | true =>
            have HF2' := Lib.hid ((freeB_iff _ _).1 hf2)
            clear hf2
            have HCON : Hid (∀ s : Nat, s < 64 → ∃ x y, (ownersL PN QS l)[s]? = some x ∧ (ownersL PN QS (moreM l ⟨pn, 0, w1⟩))[s]? = some y ∧ (y = x ∨ y = pn)) := Lib.hid (fun s hs => consistentM PN QS HV.out HVM.out HNL.out HF1'.out HF2'.out hs)
            obtain ⟨-, -, a1, c1, b1, o1, he1, hc1, hp1', hcell1⟩ := HA1'.out
            have hl1 := (owners_ok PN QS HV.out).1
            have hl2 := (owners_ok PN QS HVM.out).1
            rw [hl1] at he1 hc1 hp1'
            obtain rfl : aa1 = some ⟨b1, o1, none⟩ := by cases he1; exact hp1' (by decide)
            have HC1 := Lib.hid (fun (j : Nat) (x : Int) hj => HK4.out.cell (hcell1 j x hj) (fun h => h))
            obtain ⟨-, -, a2, c2, b2, o2, he2, hc2, hp2', hcell2⟩ := HA2.out
            rw [hl2] at he2 hc2 hp2'
            obtain rfl : aa2 = some ⟨b2, o2, none⟩ := by cases he2; exact hp2' (by decide)
            have HC2 := Lib.hid (fun (j : Nat) (x : Int) hj => HK4.out.cell (hcell2 j x hj) (fun h => h))
            have HD0 := Lib.hid ((HKZ2.out.trans HK4.out).cell HF0.out (fun h => h))
            have HKEND := Lib.hid (HKX.out.trans (HKZ2.out.trans HK4.out))
            have hac1 : 64 ≤ ac1 := by cases he1; omega
            have hac2 : 64 ≤ ac2 := by cases he2; omega
            clear he1 hc1 hp1' hcell1 he2 hc2 hp2' hcell2 hl1 hl2 HF1' HF2' HA1' HA2
            go_wp2_with fail
            go_loopg [17] 64 (fun gh v wr => ∃ (k : Nat), gh + k = 64 ∧ v = .int .i64 k ∧ Keep (fun _ => False) Z4 wr)
            case atStart => exact ⟨0, by omega, rfl, Keep.refl _ _⟩
            case round =>
              obtain ⟨s, hs, rfl, hkeep⟩ := hrel
              have HK := Lib.hid hkeep
              clear hkeep
              by_cases hlt : s < 64
              · obtain ⟨x, y, hx, hy, hxy⟩ := HCON.out s hlt
                have x1 := HK.out.cell (HC1.out s x hx) (fun h => h)
                have y1 := HK.out.cell (HC2.out s y hy) (fun h => h)
                have d0 := HK.out.cell HD0.out (fun h => h)
                have hsz : (s : Int) < 64 := by omega
                have hs0 : (0 : Int) ≤ (s : Int) := by omega
                clear hx hy
                by_cases hyx : y = x
                · subst hyx
                  clear hxy
                  have hb : (y != y) = false := by simp
                  go_wp2_with fail
                  go_quiet (fail)
                  go_wp2_with fail
                  go_roundg (gk - 1)
                  case rel => exact ⟨s + 1, by omega, by go_num, HK.out.drewN _⟩
                  case measure => omega
                · obtain rfl := hxy.resolve_left hyx
                  clear hxy
                  have hb : (y != x) = true := by simpa using hyx
                  have hb2 : (y != y) = false := by simp
                  go_wp2_with fail
                  go_quiet (fail)
                  go_wp2_with fail
                  go_roundg (gk - 1)
                  case rel => exact ⟨s + 1, by omega, by go_num, HK.out.drewN _⟩
                  case measure => omega
              · obtain rfl : s = 64 := by omega
                go_wp2_with fail
                go_ret
                exact ⟨rfl, HKEND.out.trans HK.out⟩
      · obtain rfl : dn = true := by rw [HDN.out]; exact decide_eq_true hdone
        have HE1 := Lib.hid (withM_end1 (l := l) (m := ⟨pn, 0, w1⟩) hdone)
        rw [HE1.out] at HOW
        clear hdone
        have HVM : Hid (VL (moreM l ⟨pn, 0, w1⟩)) := Lib.hid (moreM_ok HV.out HOK.out)
        have HMB : Hid (Mbs wr u10 (moreM l ⟨pn, 0, w1⟩)) := Lib.hid (HOW.out.mbs HVM.out)
        have HKM : Hid (Keep (fun _ => False) X0 wr) := Lib.hid HOW.out.1
        obtain ⟨ma, mn, mc, hme⟩ : ∃ a n c, u10 = .slice a n c := by
          obtain ⟨a, c, b, off, h1, _⟩ := HMB.out.at_
          exact ⟨_, _, _, h1⟩
        subst hme
        go_wp2_with fail
        with_reducible refine (assign_ok _ l _ (HMX.out.kept HKM.out) HV.out (HTX.out.kept HKM.out)).mono ?_
        rintro e Z1 ⟨va1, rfl, hown1, kz1⟩
        have HA1 : Hid (Its Z1 va1 (ownersL PN QS l)) := Lib.hid (its_owns hown1 (by rw [(owners_ok PN QS HV.out).1]; decide) HV.out.obd)
        have HKZ1 := Lib.hid (HKM.out.trans kz1)
        have HMB1 := Lib.hid (HMB.out.kept kz1)
        obtain ⟨aa1, ac1, hae⟩ : ∃ a c, va1 = .slice a 64 c := by
          obtain ⟨-, -, a, c, b, off, h1, _⟩ := HA1.out
          rw [(owners_ok PN QS HV.out).1] at h1
          exact ⟨_, _, h1⟩
        subst hae
        clear hown1 kz1 HMB HKM
        go_wp2_with fail
        with_reducible refine (assign_ok _ (moreM l ⟨pn, 0, w1⟩) _ HMB1.out HVM.out (HTX.out.kept HKZ1.out)).mono ?_
        rintro e Z2 ⟨va2, rfl, hown2, kz2⟩
        have HA2 : Hid (Its Z2 va2 (ownersL PN QS (moreM l ⟨pn, 0, w1⟩))) := Lib.hid (its_owns hown2 (by rw [(owners_ok PN QS HVM.out).1]; decide) HVM.out.obd)
        have HA1' := Lib.hid (HA1.out.kept kz2)
        have HKZ2 := Lib.hid (HKZ1.out.trans kz2)
        have HMB2 := Lib.hid (HMB1.out.kept kz2)
        obtain ⟨aa2, ac2, hae⟩ : ∃ a c, va2 = .slice a 64 c := by
          obtain ⟨-, -, a, c, b, off, h1, _⟩ := HA2.out
          rw [(owners_ok PN QS HVM.out).1] at h1
          exact ⟨_, _, h1⟩
        subst hae
        clear hown2 kz2 HA1 HKZ1 HMB1
        go_wp2_with fail
        with_reducible refine (free_any _ l _ (ownersL PN QS l) _ (HMX.out.kept HKZ2.out) HA1'.out).mono ?_
        rintro e Z3 ⟨rfl, kz3⟩
        have HK3 := Lib.hid kz3
        clear kz3
        cases hf1 : freeB l (ownersL PN QS l) with
        | false =>
          go_wp2_with fail
          go_ret
          exact ⟨rfl, HKX.out.trans (HKZ2.out.trans HK3.out)⟩
        | true =>
          have HF1' := Lib.hid ((freeB_iff _ _).1 hf1)
          clear hf1
          go_wp2_with fail
          with_reducible refine (free_any _ (moreM l ⟨pn, 0, w1⟩) _ (ownersL PN QS (moreM l ⟨pn, 0, w1⟩)) _ (HMB2.out.kept HK3.out) (HA2.out.kept HK3.out)).mono ?_
          rintro e Z4 ⟨rfl, kz4⟩
          have HK4 := Lib.hid (HK3.out.trans kz4)
          clear kz4
          cases hf2 : freeB (moreM l ⟨pn, 0, w1⟩) (ownersL PN QS (moreM l ⟨pn, 0, w1⟩)) with
          | false =>
            go_wp2_with fail
            go_ret
            exact ⟨rfl, HKX.out.trans (HKZ2.out.trans HK4.out)⟩
          | true =>
            have HF2' := Lib.hid ((freeB_iff _ _).1 hf2)
            clear hf2
            have HCON : Hid (∀ s : Nat, s < 64 → ∃ x y, (ownersL PN QS l)[s]? = some x ∧ (ownersL PN QS (moreM l ⟨pn, 0, w1⟩))[s]? = some y ∧ (y = x ∨ y = pn)) := Lib.hid (fun s hs => consistentM PN QS HV.out HVM.out HNL.out HF1'.out HF2'.out hs)
            obtain ⟨-, -, a1, c1, b1, o1, he1, hc1, hp1', hcell1⟩ := HA1'.out
            have hl1 := (owners_ok PN QS HV.out).1
            have hl2 := (owners_ok PN QS HVM.out).1
            rw [hl1] at he1 hc1 hp1'
            obtain rfl : aa1 = some ⟨b1, o1, none⟩ := by cases he1; exact hp1' (by decide)
            have HC1 := Lib.hid (fun (j : Nat) (x : Int) hj => HK4.out.cell (hcell1 j x hj) (fun h => h))
            obtain ⟨-, -, a2, c2, b2, o2, he2, hc2, hp2', hcell2⟩ := HA2.out
            rw [hl2] at he2 hc2 hp2'
            obtain rfl : aa2 = some ⟨b2, o2, none⟩ := by cases he2; exact hp2' (by decide)
            have HC2 := Lib.hid (fun (j : Nat) (x : Int) hj => HK4.out.cell (hcell2 j x hj) (fun h => h))
            have HD0 := Lib.hid ((HKZ2.out.trans HK4.out).cell HF0.out (fun h => h))
            have HKEND := Lib.hid (HKX.out.trans (HKZ2.out.trans HK4.out))
            have hac1 : 64 ≤ ac1 := by cases he1; omega
            have hac2 : 64 ≤ ac2 := by cases he2; omega
            clear he1 hc1 hp1' hcell1 he2 hc2 hp2' hcell2 hl1 hl2 HF1' HF2' HA1' HA2
            go_wp2_with fail
            go_loopg [17] 64 (fun gh v wr => ∃ (k : Nat), gh + k = 64 ∧ v = .int .i64 k ∧ Keep (fun _ => False) Z4 wr)
            case atStart => exact ⟨0, by omega, rfl, Keep.refl _ _⟩
            case round =>
              obtain ⟨s, hs, rfl, hkeep⟩ := hrel
              have HK := Lib.hid hkeep
              clear hkeep
              by_cases hlt : s < 64
              · obtain ⟨x, y, hx, hy, hxy⟩ := HCON.out s hlt
                have x1 := HK.out.cell (HC1.out s x hx) (fun h => h)
                have y1 := HK.out.cell (HC2.out s y hy) (fun h => h)
                have d0 := HK.out.cell HD0.out (fun h => h)
                have hsz : (s : Int) < 64 := by omega
                have hs0 : (0 : Int) ≤ (s : Int) := by omega
                clear hx hy
                by_cases hyx : y = x
                · subst hyx
                  clear hxy
                  have hb : (y != y) = false := by simp
                  go_wp2_with fail
                  go_quiet (fail)
                  go_wp2_with fail
                  go_roundg (gk - 1)
                  case rel => exact ⟨s + 1, by omega, by go_num, HK.out.drewN _⟩
                  case measure => omega
                · obtain rfl := hxy.resolve_left hyx
                  clear hxy
                  have hb : (y != x) = true := by simpa using hyx
                  have hb2 : (y != y) = false := by simp
                  go_wp2_with fail
                  go_quiet (fail)
                  go_wp2_with fail
                  go_roundg (gk - 1)
                  case rel => exact ⟨s + 1, by omega, by go_num, HK.out.drewN _⟩
                  case measure => omega
              · obtain rfl : s = 64 := by omega
                go_wp2_with fail
                go_ret
                exact ⟨rfl, HKEND.out.trans HK.out⟩
end Go.Proofs.YtplkmbfeeegaiaaDoor
