/-
  MemoryResults: the walk.
-/
import Derived.Test.YtcnpncndecjahaaGreatDoorX5
namespace Go.Proofs.YtcnpncndecjahaaGreatDoor.Mem
open Go.RowKit Go.Shelf

set_option maxRecDepth 100000 in
set_option maxHeartbeats 8000000 in
theorem results_law (y : Value) (ny : Nat) (fy : Nat → Nat → Int) (x : Value) (nx : Nat) (fx : Nat → Nat → Int) (tn : Value) (xt : List Int) (w : World) (hy : Sixes w y ny fy) (hx : Fives w x nx fx) (ht : Its w tn xt) (hP : Pow w) :
    Calls Tryz.prog 3 #[y, x, tn] w fun e w' => e = .returned (.bool true) ∧ Keep (fun _ => False) w w' := by
  have HY := Lib.hid hy
  have HX := Lib.hid hx
  have HT := Lib.hid ht
  have HP := Lib.hid hP
  obtain ⟨ay, cy, by_, oy, rfl, hcy, hay, hcelly⟩ := hy.at_
  have hny := hy.big
  clear hy hx ht hP hay hcelly
  have hn20 : min ny 20 ≤ ny := Nat.min_le_left _ _
  have hn20' : min ny 20 ≤ 20 := Nat.min_le_right _ _
  have hmin : min (ny : Int) 20 = ((min ny 20 : Nat) : Int) := by omega
  obtain ⟨n, hn⟩ : ∃ n, min ny 20 = n := ⟨_, rfl⟩
  rw [hn] at hmin hn20 hn20'
  have HN := Lib.hid hn
  clear hn
  go_enter Tryz.func3, Tryz.ntmps3
  go_wp2_with fail
  with_reducible refine (sane_any w).mono ?_
  rintro e W1 ⟨rfl, k1⟩
  have HK1 := Lib.hid k1
  clear k1
  have hsx : Sixes W1 (.slice ay n cy) n fy := by
    obtain ⟨h1, h2, a, c, b, off, h3, h4, h5, h6⟩ := HY.out.kept HK1.out
    cases h3
    exact ⟨by omega, h2, _, _, b, off, rfl, by omega, fun h => h5 (by omega), fun i j hi hj => h6 i j (by omega) hj⟩
  have HSX := Lib.hid hsx
  clear hsx
  go_wp2_with fail
  with_reducible refine (log_any (.slice ay n cy) n fy W1 HSX.out (by omega)).mono ?_
  rintro e W2 ⟨vl, L, rfl, hrc, hlog, hll, k2⟩
  have HRC := Lib.hid hrc
  have HLG := Lib.hid hlog
  have HK2 := Lib.hid (HK1.out.trans k2)
  obtain ⟨al, cl, bl, ol, rfl, hcl, -, -⟩ := hrc.at_
  have hL20 : L.length ≤ 20 := by omega
  have HAT := Lib.hid (at_any (.slice al L.length cl) L L.length W2 HRC.out HLG.out (Nat.le_refl _) (by omega))
  rw [List.take_length] at HAT
  have HLB : Hid ((rowsOf L).length ≤ 1000) := Lib.hid (by
    have h1 := rowsOf_len (L := L) (fun r hr => (HLG.out.len8 r hr).2)
    omega)
  clear hrc hlog k2
  go_wp2_with fail
  with_reducible refine HAT.out.mono ?_
  rintro e W3 ⟨z, mb, rfl, hst, k3⟩
  have HST := Lib.hid hst
  have HK3 := Lib.hid (HK2.out.trans k3)
  generalize hls : rowsOf L = ls at *
  generalize hlp : (L.length : Int) = lp at *
  clear hst k3 hls hlp
  go_wp2_with fail
  have ka := keep_cells W3 #[.int .i64 15, .int .i64 20] 3
  have hz3 : z < (W3.alloc (.cells #[.int .i64 15, .int .i64 20] 3)).heap.size := (HST.out.kept ka).box.lt
  have hm3 : mb < (W3.alloc (.cells #[.int .i64 15, .int .i64 20] 3)).heap.size := (HST.out.kept ka).mp.lt
  have HKA := Lib.hid ka
  have HZM := Lib.hid (And.intro hz3 hm3)
  clear ka hz3 hm3
  with_reducible refine (new_ok 60 _ 0 2 2 [15, 20] _ rfl (by decide) (by decide) (by decide) (by decide) (ints_new _ 15 20) rfl).mono ?_
  rintro e W4 ⟨⟨pp, cap, sh, PL, foot⟩, rfl, hat, rfl, rfl, rfl, k4, hfoot⟩
  have hk04 : Keep (fun _ => False) w W4 := HK3.out.trans (HKA.out.trans k4)
  have hlw : LW w pp 60 [15, 20] [] (SX z mb ls lp w.heap.size (.slice none 0 0) [] (.slice none 0 0) []) W4 := by
    refine ⟨⟨pp, 60, [15, 20], [], foot⟩, ⟨hat, hk04, fun i hi => ?_⟩, rfl, rfl, rfl, rfl, ⟨HST.out.kept (HKA.out.trans k4), World.ownsRow_nil _ _ _ _, World.ownsRow_nil _ _ _ _⟩, fun b hb => ?_⟩
    · have h1 := hfoot i hi
      have h2 := (HK3.out.trans HKA.out).size
      omega
    · have h5 := k4.size
      rcases hb with rfl | rfl | hb | hb
      · exact ⟨fun hf => by have h1 := hfoot _ hf; have h2 := HZM.out.1; omega, by have h2 := HZM.out.1; omega⟩
      · exact ⟨fun hf => by have h1 := hfoot _ hf; have h2 := HZM.out.2; omega, by have h2 := HZM.out.2; omega⟩
      · cases hb
      · cases hb
  have HLW := Lib.hid hlw
  have HAP : Hid (Apart z mb (.slice none 0 0) (.slice none 0 0)) := Lib.hid ⟨(fun b hb => by cases hb), (fun b hb => by cases hb), (fun b hb => by cases hb)⟩
  clear hat k4 hfoot hk04 hlw HST HKA HZM HAT HSX
  obtain ⟨at_, ct, bt, ot, rfl, hct, hat, hcellt⟩ := HT.out.at_
  have HAT := Lib.hid hat
  have HCT := Lib.hid hcellt
  have HTB := Lib.hid HT.out.bd
  obtain ⟨nt, hnt⟩ : ∃ n, xt.length = n := ⟨_, rfl⟩
  have HNT := Lib.hid hnt
  have hntb := HT.out.n
  rw [hnt] at hct HAT hntb ⊢
  clear hat hcellt hnt HT
  obtain ⟨ax, cx, bx, ox, rfl, hcx, hax, hcellx⟩ := HX.out.at_
  have hnx := HX.out.big
  have HBX := Lib.hid HX.out.bd
  have HAX := Lib.hid hax
  have HCX := Lib.hid hcellx
  clear hax hcellx
  go_wp2_with fail
  go_loopg [13, 14, 15] 15 (fun gh v13 v14 v15 wr => ∃ (i : Nat) (M : List E) (ks : List ByteArray) (ss : List Int), gh + i = 15 ∧ v15 = .int .i64 i ∧ ks.length = i ∧ Known ls M ks ss ∧ LW w pp 60 [15, 20] M (SX z mb ls lp w.heap.size v13 ks v14 ss) wr ∧ Apart z mb v13 v14)
  case atStart => exact ⟨0, [], [], [], by omega, rfl, rfl, Known.nil _, HLW.out, HAP.out⟩
  case round =>
    obtain ⟨i, M, ks, ss, hg, rfl, hki, hkn, hlw, hap⟩ := hrel
    have HKN := Lib.hid hkn
    have HLW := Lib.hid hlw
    have HAP := Lib.hid hap
    clear hkn hlw hap
    by_cases hin : i < nx ∧ i < 15
    · obtain ⟨hin1, hin2⟩ := hin
      have hz1 : (i : Int) < (nx : Int) := by omega
      have hz2 : (i : Int) < 15 := by omega
      have hi0 : (0 : Int) ≤ (i : Int) := by omega
      obtain rfl := HAX.out (by omega)
      have c0 := HLW.out.k.cell (HCX.out i 0 hin1 (by omega)) (fun h => h)
      have c1 := HLW.out.k.cell (HCX.out i 1 hin1 (by omega)) (fun h => h)
      have c2 := HLW.out.k.cell (HCX.out i 2 hin1 (by omega)) (fun h => h)
      have c3 := HLW.out.k.cell (HCX.out i 3 hin1 (by omega)) (fun h => h)
      have c4 := HLW.out.k.cell (HCX.out i 4 hin1 (by omega)) (fun h => h)
      rw [Nat.add_zero] at c0
      have HQ5 := Lib.hid (fun W => query5_any (fx i 0) (fx i 1) (fx i 2) (fx i 3) (fx i 4) W (HBX.out i 0) (HBX.out i 1) (HBX.out i 2) (HBX.out i 3) (HBX.out i 4))
      generalize fx i 0 = g0 at *
      generalize fx i 1 = g1 at *
      generalize fx i 2 = g2 at *
      generalize fx i 3 = g3 at *
      generalize fx i 4 = g4 at *
      go_wp2_with fail
      clear c0 c1 c2 c3 c4
      with_reducible refine (HQ5.out wr).mono ?_
      rintro e V1 ⟨q, rfl, hok, k1⟩
      have HL1 := Lib.hid (HLW.out.keep k1)
      have HOK := Lib.hid hok
      have HKI : Hid (KeyIs ls (bs (lineL q)) (1 + (lenQ q ls : Int))) := Lib.hid ⟨q, hok, rfl, rfl⟩
      have HPR := Lib.hid (fun W (hW : Pow W) => print_any q W hW)
      unfold PrintPost at HPR
      rw [if_pos hok, if_pos hok] at HPR
      have HOF := Lib.hid (fun W (h : StA W z mb ls lp) => of_any z mb ls lp q W h (by have := HLB.out; omega) hok)
      clear k1 hok HQ5 HLW
      go_upto_region 13 with (fail)
      have kb := keep_cells V1 #[.int .i64 q.kd, .int .i64 q.tb, .int .i64 q.cl, .int .i64 q.lo, .int .i64 q.hi, .int .i64 q.bb, .int .i64 q.ot] 37
      have HQB := Lib.hid (QBox.new V1 q 37)
      have HL2 := Lib.hid (HL1.out.keep kb)
      generalize V1.alloc (.cells #[.int .i64 q.kd, .int .i64 q.tb, .int .i64 q.cl, .int .i64 q.lo, .int .i64 q.hi, .int .i64 q.bb, .int .i64 q.ot] 37) = V2 at *
      generalize V1.heap.size = zq at *
      clear kb HL1
      obtain ⟨e0, e1, e2, e3, e4, e5, e6⟩ := HQB.out.cells
      go_wp2_with fail
      clear e0 e1 e2 e3 e4 e5 e6
      with_reducible refine (HOF.out V2 (SX.q HL2.out.q).1).mono ?_
      rintro e V3 ⟨R, A, v, hR, hA, rfl, hrw, k3, -⟩
      have hlen := len_from hR hA
      obtain ⟨af, cf, rfl, -⟩ := hrw.form'
      rw [hlen]
      obtain ⟨rv, hrv⟩ : ∃ x, (fromR q R A).v = x := ⟨_, rfl⟩
      obtain ⟨rf, hrf⟩ : ∃ x, (fromR q R A).f = x := ⟨_, rfl⟩
      rw [hrv, hrf]
      obtain ⟨ln, hln⟩ : ∃ x, lenQ q ls = x := ⟨_, rfl⟩
      rw [hln] at HKI ⊢
      have hlnb : ln ≤ 2000 := by have h1 := lenQ_le q ls; have h2 := HLB.out; omega
      have HL3 := Lib.hid (HL2.out.keep k3)
      have HQ3 := Lib.hid (HQB.out.kept k3)
      clear hR hA hrw k3 hlen hrv hrf hln HL2 HQB HOF
      go_upto_region 14 with (fail)
      have kb := keep_cells V3 #[.slice af ln cf, .int .i64 rv, .bool rf] 42
      have HRB := Lib.hid (BoxL.new V3 [.slice af ln cf, .int .i64 rv, .bool rf] 42)
      have hl4 := HL3.out.add (T := SB V3.heap.size [.slice af ln cf, .int .i64 rv, .bool rf]) kb HRB.out (fun b hb => by
        have h1 : b = V3.heap.size := hb
        have h2 := HRB.out.lt
        omega)
      have HVZ : Hid (∀ b, (u13.ownBlock = some b ∨ u14.ownBlock = some b) → b < V3.heap.size) := Lib.hid (fun b hb => by
        rcases hb with hb | hb
        · exact ((SX.q HL3.out.q).2.1.lt b hb).2
        · exact ((SX.q HL3.out.q).2.2.lt b hb).2)
      have HL4 := Lib.hid hl4
      have HQ4 := Lib.hid (HQ3.out.kept kb)
      clear kb hl4 HL3 HQ3 HRB
      generalize V3.alloc (.cells #[.slice af ln cf, .int .i64 rv, .bool rf] 42) = V4 at *
      generalize V3.heap.size = zr at *
      obtain ⟨e0, e1, e2, e3, e4, e5, e6⟩ := HQ4.out.cells
      go_wp2_with fail
      clear e0 e1 e2 e3 e4 e5 e6
      with_reducible refine (HPR.out V4 (HP.out.kept HL4.out.k)).mono ?_
      rintro e V5 ⟨rfl, k5⟩
      have HL5 := Lib.hid (HL4.out.keep k5)
      clear k5 HL4 HQ4 HPR
      generalize bs (lineL q) = key at *
      go_upto_if 85 with (fail)
      go_cut [21] (fun v21 wc => ∃ t : Int, v21 = .int .i64 t ∧ (t = 0 ∨ t = 1) ∧ V5 = wc)
      case first =>
        by_cases hit : i < nt
        · have hitz : (i : Int) < (nt : Int) := by omega
          obtain rfl := HAT.out (by omega)
          obtain ⟨c, hc⟩ : ∃ c, xt[i]? = some c := ⟨_, List.getElem?_eq_getElem (by have := HNT.out; omega)⟩
          have hcc := HL5.out.k.cell (HCT.out i c hc) (fun h => h)
          have hcb := HTB.out c (List.mem_of_getElem? hc)
          unfold I64 at hcb
          have HPK := Lib.hid (fun W => pick_any c 2 W hcb.1 hcb.2 (by omega) (by omega))
          have hpb : 0 ≤ pk c 2 ∧ pk c 2 < 2 := by unfold pk; exact ⟨Int.emod_nonneg _ (by omega), Int.emod_lt_of_pos _ (by omega)⟩
          generalize pk c 2 = pc at *
          clear hc hcb
          go_wp2_with fail
          with_reducible refine (HPK.out _).mono ?_
          rintro e V6 ⟨rfl, rfl⟩
          go_wp2_with fail
          go_meet
          exact ⟨pc, rfl, by omega, rfl⟩
        · have hitz : ¬ (i : Int) < (nt : Int) := by omega
          go_wp2_with fail
          go_meet
          exact ⟨0, rfl, .inl rfl, rfl⟩
      case rest =>
        obtain ⟨t, rfl, ht01, rfl⟩ := hcut
        have b0 := HL5.out.q.2.cell 0 _ rfl
        have b1 := HL5.out.q.2.cell 1 _ rfl
        have b2 := HL5.out.q.2.cell 2 _ rfl
        go_wp2_with fail
        clear b0 b1 b2
        with_reducible refine (size_any af ln cf rv rf V5 (by omega)).mono ?_
        rintro e V6 ⟨rfl, k6⟩
        have HL6 := Lib.hid (HL5.out.keep k6)
        clear k6 HL5
        go_wp2_with fail
        with_reducible refine (put_lw t key (1 + (ln : Int)) HL6.out (by have := KeyIs.len HKI.out; unfold maxLen; omega) (by omega)).mono ?_
        rintro e V7 ⟨ap, cp, rfl, hlw7⟩
        have HK7 : Hid (Known ls (putI 60 [15, 20] M t key (1 + (ln : Int))).2.2 (ks ++ [key]) (ss ++ [1 + (ln : Int)])) := Lib.hid (HKN.out.put HKI.out)
        have HL7 := Lib.hid hlw7.left
        clear hlw7 HL6 HKN
        generalize putI 60 [15, 20] M t key (1 + (ln : Int)) = pm at *
        obtain ⟨pd, po, M2⟩ := pm
        simp only [] at HK7 HL7
        obtain ⟨vk, V8, r1, r2, r3, r4, -⟩ := app_str V7 35 w.heap.size u13 ks.length (ks.map Value.string) key (SX.q HL7.out.q.1).2.1 (by omega) HL7.out.k.size
        have h8 := HL7.out.key HAP.out (fun b hb => HVZ.out b (.inl hb)) r2 r3 r4
        have HL8 := Lib.hid h8.1
        have HA8 := Lib.hid h8.2
        clear r2 r3 r4 h8 HL7
        have b0 := HL8.out.q.2.cell 0 _ rfl
        have b1 := HL8.out.q.2.cell 1 _ rfl
        have b2 := HL8.out.q.2.cell 2 _ rfl
        go_wp2_with (at_builtin; refine wpList_app rfl (.tmp 103) (.tmp 105) 35 rfl rfl rfl r1 ?_)
        clear r1 b0 b1 b2
        with_reducible refine (size_any af ln cf rv rf V8 (by omega)).mono ?_
        rintro e V9 ⟨rfl, k9⟩
        have HL9 := Lib.hid (HL8.out.keep k9)
        clear k9 HL8
        have hsl : ss.length ≤ 15 := by have := HK7.out.len; simp at this; omega
        obtain ⟨vs, V10, r1, r2, r3, r4, -⟩ := app_int V9 24 w.heap.size u14 ss.length (ss.map vI) (1 + (ln : Int)) (SX.q HL9.out.q.1).2.2 (by omega) HL9.out.k.size
        have h10 := HL9.out.size HA8.out (fun b hb => HVZ.out b (.inr hb)) r2 r3 r4
        have HL10 := Lib.hid h10.1.left
        have HA10 := Lib.hid h10.2
        clear r2 r3 r4 h10 HL9 HA8
        go_upto_region 23 with (at_builtin; refine wpList_app rfl (.tmp 107) (.tmp 110) 24 rfl rfl rfl r1 ?_)
        clear r1
        go_upto_region 24 with (fail)
        have kb := keep_cells V10 #[.int .i64 0, .int .i64 0] 51
        have HU := Lib.hid (BoxL.new V10 [.int .i64 0, .int .i64 0] 51)
        have HL11 := Lib.hid (HL10.out.add (T := SB V10.heap.size (([0, 0] : List Int).map vI)) kb HU.out (fun b hb => by
          have h1 : b = V10.heap.size := hb
          have h2 := HU.out.lt
          omega))
        have HZU : Hid (w.heap.size ≤ V10.heap.size) := Lib.hid HL10.out.k.size
        have HZD : Hid (∀ b, (SX z mb ls lp w.heap.size vk (ks ++ [key]) vs (ss ++ [1 + (ln : Int)])).D b → b ≠ V10.heap.size) := Lib.hid (fun b hb => by have h1 := HL10.out.lt b hb; omega)
        generalize V10.alloc (.cells #[.int .i64 0, .int .i64 0] 51) = V11 at *
        generalize V10.heap.size = zu at *
        clear kb HL10 HU
        generalize hks2 : ks ++ [key] = ks2 at *
        generalize hss2 : ss ++ [1 + (ln : Int)] = ss2 at *
        have HKL : Hid (ks2.length = i + 1) := Lib.hid (by rw [← hks2]; simp; omega)
        clear hks2 hss2
        obtain ⟨ak, ck, hvk, -⟩ := StrsAt.of_owns (SX.q HL11.out.q.1).2.1
        obtain ⟨as_, cs_, hvs⟩ := own_form (SX.q HL11.out.q.1).2.2
        have HSL : Hid (ss2.length = i + 1) := Lib.hid (by rw [← HK7.out.len, HKL.out])
        rw [HKL.out] at hvk
        rw [HSL.out] at hvs
        subst hvk hvs
        go_wp2_with fail
        go_loopg [23] 2 (fun gh v23 wr => ∃ (k : Nat) (arr : List Int), gh + k = 2 ∧ v23 = .int .i64 k ∧ arr.length = 2 ∧ (∀ j, k ≤ j → j < 2 → arr[j]? = some 0) ∧ LW w pp 60 [15, 20] M2 ((SX z mb ls lp w.heap.size (.slice ak (i + 1) ck) ks2 (.slice as_ (i + 1) cs_) ss2).and (SB zu (arr.map vI))) wr)
        case atStart => exact ⟨0, [0, 0], by omega, rfl, rfl, (fun j _ hj => by rcases (show j = 0 ∨ j = 1 by omega) with rfl | rfl <;> rfl), HL11.out⟩
        case round =>
          obtain ⟨k, arr, hgk, rfl, hal, harr, hlw⟩ := hrel
          have HL12 := Lib.hid hlw
          have HAR := Lib.hid harr
          clear hlw harr
          by_cases hk2 : k < 2
          · have hk2z : (k : Int) < 2 := by omega
            have hk0 : (0 : Int) ≤ (k : Int) := by omega
            go_wp2_with fail
            with_reducible refine (keys_new k HL12.out).mono ?_
            rintro e V13 ⟨ao, co, rfl, hlw, hob⟩
            have HL13 := Lib.hid hlw
            have HOB : Hid (∀ b, (Value.slice ao (keysOf M2 (k : Int)).length co).ownBlock = some b → b ≠ zu) := Lib.hid (fun b hb => by
              have h1 := hob b hb
              have h2 := HL12.out.lt zu (.inr rfl)
              omega)
            clear hlw hob
            obtain ⟨nk, hnk⟩ : ∃ n, (keysOf M2 (k : Int)).length = n := ⟨_, rfl⟩
            rw [hnk] at HL13 HOB ⊢
            have HNK := Lib.hid hnk
            have hnkb : nk ≤ 60 := by have h1 := keys_few HL12.out.sane (k : Int); rw [hnk] at h1; omega
            have HSET : Hid (arr.set k (partU M2 (k : Int) 0) = arr) := Lib.hid (by
              rw [partU_zero]
              exact setSame (HAR.out k (Nat.le_refl _) hk2))
            have HF : Hid (∀ j, j < nk → ∃ x, (M2.filter (fun e => (e.t : Int) == (k : Int)))[j]? = some x ∧ (keysOf M2 (k : Int))[j]? = some x.key ∧ x ∈ M2) := Lib.hid (fun j hj => by
              unfold keysOf at hnk ⊢
              rw [List.length_map] at hnk
              obtain ⟨x, hx⟩ : ∃ x, (M2.filter (fun e => (e.t : Int) == (k : Int)))[j]? = some x := ⟨_, List.getElem?_eq_getElem (by omega)⟩
              exact ⟨x, hx, by rw [List.getElem?_map, hx]; rfl, (List.mem_filter.1 (List.mem_of_getElem? hx)).1⟩)
            clear hnk
            go_wp2_with fail
            go_loopg [25] nk (fun gh v25 wr => ∃ j : Nat, gh + j = nk ∧ v25 = .int .i64 j ∧ LW w pp 60 [15, 20] M2 (((SX z mb ls lp w.heap.size (.slice ak (i + 1) ck) ks2 (.slice as_ (i + 1) cs_) ss2).and (SB zu ((arr.set k (partU M2 (k : Int) j)).map vI))).and (.strs (.slice ao nk co) (keysOf M2 (k : Int)))) wr)
            case atStart => exact ⟨0, by omega, rfl, by rw [HSET.out]; exact HL13.out⟩
            case round =>
              obtain ⟨j, hgj, rfl, hlw⟩ := hrel
              have HL14 := Lib.hid hlw
              clear hlw
              by_cases hjn : j < nk
              · have hjz : (j : Int) < (nk : Int) := by omega
                have hj0 : (0 : Int) ≤ (j : Int) := by omega
                obtain ⟨x, hx, hxk, hxm⟩ := HF.out j hjn
                have HXS := Lib.hid (partU_succ hx)
                have HXK := Lib.hid hxk
                have HXM := Lib.hid hxm
                clear hx hxk hxm
                go_wp2_with fail
                go_loopg [26] (i + 1) (fun gh v26 wr => ∃ m : Nat, gh + m = i + 1 ∧ v26 = .int .i64 m ∧ (∀ i', i' < m → ks2[i']? ≠ some x.key) ∧ LW w pp 60 [15, 20] M2 (((SX z mb ls lp w.heap.size (.slice ak (i + 1) ck) ks2 (.slice as_ (i + 1) cs_) ss2).and (SB zu ((arr.set k (partU M2 (k : Int) j)).map vI))).and (.strs (.slice ao nk co) (keysOf M2 (k : Int)))) wr)
                case atStart => exact ⟨0, by omega, rfl, (fun _ h => absurd h (by omega)), HL14.out⟩
                case round =>
                  obtain ⟨m, hgm, rfl, hno, hlw⟩ := hrel
                  have HL15 := Lib.hid hlw
                  have HNO := Lib.hid hno
                  clear hlw hno
                  by_cases hmi : m < i + 1
                  · have hmz : (m : Int) < ((i + 1 : Nat) : Int) := by omega
                    have hmz' : (m : Int) < (i : Int) + 1 := by omega
                    have hm0 : (0 : Int) ≤ (m : Int) := by omega
                    obtain ⟨km, hkm⟩ : ∃ s, ks2[m]? = some s := ⟨_, List.getElem?_eq_getElem (by have := HKL.out; omega)⟩
                    obtain ⟨sm, hsm⟩ : ∃ s, ss2[m]? = some s := ⟨_, List.getElem?_eq_getElem (by have := HSL.out; omega)⟩
                    obtain ⟨bk, ok, hak, ckc⟩ := strs_cell (SX.q HL15.out.q.1.1).2.1 hkm
                    obtain ⟨bo, oo, hao, coc⟩ := strsAt_cell HL15.out.q.2 HXK.out
                    obtain ⟨bs_, os_, has, csc⟩ := ints_cell (SX.q HL15.out.q.1.1).2.2 hsm
                    subst hak hao has
                    have HKM := Lib.hid hkm
                    have HSM := Lib.hid hsm
                    clear hkm hsm
                    by_cases he : km = x.key
                    · have hbe : (km.toList == x.key.toList) = true := by rw [he]; simp
                      have HE := Lib.hid he
                      clear he
                      have HSX : Hid (sm = x.z) := Lib.hid (HK7.out.first HXM.out (by rw [← HE.out]; exact HKM.out) HSM.out)
                      have HUB := Lib.hid (partU_bd (fun y hy => (HL15.out.sane.rng y hy).2) k j)
                      have HTL := Lib.hid HL15.out.sane.le
                      have HXZ := Lib.hid (KeyIs.pos (HK7.out.ent x HXM.out).2)
                      go_wp2_with fail
                      go_quiet (fail)
                      have HL16 := Lib.hid (HL15.out.keep ((Keep.refl _ _).drewN (nq + 1)))
                      clear csc ckc coc
                      have hkl : k < (arr.set k (partU M2 (k : Int) j)).length := by rw [List.length_set]; omega
                      have hU : ((arr.set k (partU M2 (k : Int) j)).map vI)[k]? = some (.int .i64 (partU M2 (k : Int) j)) := by
                        rw [List.getElem?_map, List.getElem?_set_self (by omega)]
                        rfl
                      have c1 := HL15.out.q.1.2.cell k _ hU
                      have c3 := HL16.out.q.1.2.cell k _ hU
                      have fr := HL16.out.q.1.2.soft
                      obtain ⟨bz, oz, hasz, c2⟩ := ints_cell (SX.q HL15.out.q.1.1).2.2 HSM.out
                      cases hasz
                      obtain ⟨U, hUe⟩ : ∃ U, partU M2 (k : Int) j = U := ⟨_, rfl⟩
                      have HUE := Lib.hid hUe
                      rw [hUe] at c1 c3
                      have hub := HUB.out
                      rw [hUe] at hub
                      have htl := HTL.out
                      have hxz := HXZ.out
                      have hsx := HSX.out
                      have hlb := HLB.out
                      have hw1 : IntKind.i64.wrap (U + sm) = U + sm := wrapI (by unfold I64; omega)
                      clear hub htl hxz hsx hlb hUe hU
                      go_wp2_with fail
                      refine wp_region_still_tail 10 (by decide +kernel) (by decide +kernel) ?_
                      simp only [List.take_succ_cons, List.take_zero, List.drop_succ_cons, List.drop_zero]
                      change wpStill _ _ (wr.drewN (nq + 1)) _ _ _
                      iterate 10 still_step
                      refine wpStill_nil ?_
                      change wpList _ _ _ _ _ (wr.drewN (nq + 1))
                      clear c1 c2
                      generalize wr.drewN (nq + 1) = W17 at *
                      go_wp2_with fail
                      clear c3 fr
                      go_roundg (nk - j - 1)
                      case rel =>
                        have h17 := LW.num (k := k) (u := U + sm) HL16.out HZU.out hkl HZD.out HOB.out
                        rw [List.set_set, HSX.out, ← HUE.out, ← HXS.out] at h17
                        refine ⟨j + 1, by omega, by go_num, ?_⟩
                        rw [HSX.out, ← HUE.out, ← HXS.out]
                        exact h17
                      case measure => omega
                    · have hbe : (km.toList == x.key.toList) = false := by
                        rw [beq_eq_false_iff_ne]
                        intro e
                        exact he (toList_inj e)
                      have HE := Lib.hid he
                      clear he csc
                      go_wp2_with fail
                      go_quiet (fail)
                      have HL16 := Lib.hid (HL15.out.keep ((Keep.refl _ _).drewN nq))
                      go_wp2_with fail
                      go_roundg (gk - 1)
                      case rel =>
                        refine ⟨m + 1, by omega, by go_num, fun i' hi' e => ?_, HL16.out⟩
                        rcases Nat.lt_or_ge i' m with h | h
                        · exact HNO.out i' h e
                        · have h9 : i' = m := by omega
                          subst h9
                          rw [HKM.out] at e
                          cases e
                          exact HE.out rfl
                      case measure => omega
                  · exact (HK7.out.found HXM.out (m := m) (by have := HKL.out; omega) HNO.out).elim
              · have hjz : ¬ (j : Int) < (nk : Int) := by omega
                have HAL : Hid (partU M2 (k : Int) j = usedOf M2 k) := Lib.hid (partU_all (by have := HNK.out; omega))
                have HUI : Hid (usedI [15, 20] M2 (k : Int) = usedOf M2 k) := Lib.hid (usedI_nat M2 (by simpa using hk2))
                have hkl : k < (arr.set k (partU M2 (k : Int) j)).length := by rw [List.length_set]; omega
                have hU : ((arr.set k (partU M2 (k : Int) j)).map vI)[k]? = some (.int .i64 (usedOf M2 k)) := by
                  rw [List.getElem?_map, List.getElem?_set_self (by omega), HAL.out]
                  rfl
                have c1 := HL14.out.q.1.2.cell k _ hU
                have hne : (usedOf M2 k != usedOf M2 k) = false := by simp
                have HUS := Lib.hid (fun n => used_lw k (HL14.out.keep ((Keep.refl (fun _ => False) wr).drewN n)))
                rw [HUI.out] at HUS
                go_wp2_with fail
                go_quiet ((go_at_call 15; exact quiet_same (HUS.out _)))
                have HL18 := Lib.hid (HL14.out.keep ((Keep.refl _ _).drewN nq))
                clear c1
                go_wp2_with fail
                go_roundg (2 - k - 1)
                case rel =>
                  refine ⟨k + 1, arr.set k (partU M2 (k : Int) j), by omega, by go_num, by rw [List.length_set]; exact hal, fun j' h1 h2 => ?_, HL18.out.left⟩
                  rw [List.getElem?_set_ne (by omega)]
                  exact HAR.out j' (by omega) h2
                case measure => omega
          · have hk2z : ¬ (k : Int) < 2 := by omega
            go_wp2_with fail
            go_roundg (15 - i - 1)
            case rel => exact ⟨i + 1, M2, ks2, ss2, by omega, by go_num, HKL.out, HK7.out, HL12.out.left, HA10.out⟩
            case measure => omega
    · have HUA : Hid (usedI [15, 20] M 0 = usedOf M 0) := Lib.hid (usedI_nat M (t := 0) (by simp))
      have HUB2 : Hid (usedI [15, 20] M 1 = usedOf M 1) := Lib.hid (usedI_nat M (t := 1) (by simp))
      have htw : tot M = usedOf M 0 + usedOf M 1 := (used_two (fun x hx => (HLW.out.sane.rng x hx).1)).symm
      have hpos : ∀ x ∈ M, 1 ≤ x.z := fun x hx => (HLW.out.sane.rng x hx).2
      have hu0 := usedOf_nonneg M 0 hpos
      have hu1 := usedOf_nonneg M 1 hpos
      have hle := HLW.out.sane.le
      have HFR := Lib.hid (free_lw HLW.out)
      have HU0 := Lib.hid (used_lw 0 HLW.out)
      have HU1 := Lib.hid (used_lw 1 HLW.out)
      rw [HUA.out] at HU0
      rw [HUB2.out] at HU1
      rw [htw] at HFR hle
      have HKE := Lib.hid HLW.out.k
      clear htw hpos HUA HUB2
      generalize usedOf M 0 = U0 at *
      generalize usedOf M 1 = U1 at *
      have hb : (60 - (U0 + U1) == 60 - U0 - U1) = true := by rw [beq_iff_eq]; omega
      have w1 : IntKind.i64.wrap (60 - U0) = 60 - U0 := wrapI (by unfold I64; omega)
      have w2 : IntKind.i64.wrap (60 - U0 - U1) = 60 - U0 - U1 := wrapI (by unfold I64; omega)
      by_cases h1 : i < nx
      · have h1z : (i : Int) < (nx : Int) := by omega
        have h2z : ¬ (i : Int) < 15 := by omega
        go_wp2_with fail
        with_reducible refine HFR.out.mono ?_
        rintro e W ⟨rfl, rfl⟩
        go_wp2_with fail
        with_reducible refine HU0.out.mono ?_
        rintro e W ⟨rfl, rfl⟩
        go_wp2_with fail
        with_reducible refine HU1.out.mono ?_
        rintro e W ⟨rfl, rfl⟩
        go_wp2_with fail
        go_ret
        exact ⟨rfl, HKE.out⟩
      · have h1z : ¬ (i : Int) < (nx : Int) := by omega
        go_wp2_with fail
        with_reducible refine HFR.out.mono ?_
        rintro e W ⟨rfl, rfl⟩
        go_wp2_with fail
        with_reducible refine HU0.out.mono ?_
        rintro e W ⟨rfl, rfl⟩
        go_wp2_with fail
        with_reducible refine HU1.out.mono ?_
        rintro e W ⟨rfl, rfl⟩
        go_wp2_with fail
        go_ret
        exact ⟨rfl, HKE.out⟩
end Go.Proofs.YtcnpncndecjahaaGreatDoor.Mem
