/-
  The reference's Assign.
-/
import Derived.Test.YtplkmbfeeegaiaaDoorR7
import Derived.Test.YtplkmbfeeegaiaaDoorR4
namespace Go.Proofs.YtplkmbfeeegaiaaDoor
open Go.RowKit Go.Shelf

theorem slotT_ref' (s : Nat) : (⟨#[115, 108, 111, 116, 32]⟩ : ByteArray) ++ dig s = slotT s := by
  apply Go.WideShapes.bytes_inj
  simp [slotT, txt, addT]
/-- How many slots each node has, in an array. -/
def loadsL (ow : List Int) : List Int := (List.range 24).map (fun n : Nat => cnt ow n)
theorem loadsL_len (ow : List Int) : (loadsL ow).length = 24 := by simp [loadsL]
theorem loadsL_get {ow : List Int} {n : Nat} (hn : n < 24) : (loadsL ow)[n]? = some (cnt ow n) := by
  unfold loadsL
  rw [List.getElem?_map, List.getElem?_range hn]
  rfl
theorem loadsL_nil : loadsL [] = List.replicate 24 0 := by decide
theorem loadsL_snoc {ow : List Int} {n : Nat} (hn : n < 24) : loadsL (ow ++ [(n : Int)]) = (loadsL ow).set n (cnt ow n + 1) := by
  apply List.ext_getElem?
  intro i
  by_cases hi : i < 24
  · rw [loadsL_get hi, cnt_snoc]
    by_cases e : n = i
    · subst e
      rw [List.getElem?_set_self (by rw [loadsL_len]; exact hn), if_pos rfl]
    · rw [List.getElem?_set_ne e, loadsL_get hi, if_neg (by omega), Int.add_zero]
  · rw [List.getElem?_eq_none (by rw [loadsL_len]; omega), List.getElem?_eq_none (by rw [List.length_set, loadsL_len]; omega)]
theorem asg_succ (l : List Mb) (s : Nat) : asg PN QS l (s + 1) = stepA (ords PN l (QS s)) (asg PN QS l s) := rfl

set_option maxRecDepth 100000 in
set_option maxHeartbeats 8000000 in
theorem refAssign_ok (v : Value) (l : List Mb) (w : World) (h : Mbs w v l) (hv : VL l) : Calls Tryd.prog 16 #[v] w (AsgPost l w) := by
  have HVA := Lib.hid (refValid_any v l w h)
  rw [(validL_iff l).2 hv] at HVA
  have HM := Lib.hid h
  have HV := Lib.hid hv
  have HCL := Lib.hid (circ_len hv)
  have HCS : Hid ((circ PN l).Pairwise ltMk) := Lib.hid (circ_sorted PN hv.asc)
  obtain ⟨va, vn, vc, rfl⟩ : ∃ a n c, v = .slice a n c := by
    obtain ⟨a, c, b, off, h1, _⟩ := h.at_
    exact ⟨_, _, _, h1⟩
  clear h hv
  go_enter Tryd.func16, Tryd.ntmps16
  go_wp2_with fail
  with_reducible refine HVA.out.mono ?_
  rintro e W1 ⟨rfl, k1⟩
  have HK1 := Lib.hid k1
  clear k1 HVA
  go_wp2_with fail
  with_reducible refine (spots_any _ l _ (HM.out.kept HK1.out) HV.out).mono ?_
  rintro e W2 ⟨vs, rfl, hos⟩
  have HO := Lib.hid hos
  have HK2 := Lib.hid (HK1.out.trans hos.1)
  clear hos HK1
  obtain ⟨c, hc⟩ : ∃ c, circ PN l = c := ⟨_, rfl⟩
  have HC := Lib.hid hc
  rw [hc] at HO HCL HCS
  clear hc
  obtain ⟨n, hn⟩ : ∃ n, c.length = n := ⟨_, rfl⟩
  have HN := Lib.hid hn
  have hn2 : n ≤ 1536 := by have := HCL.out; omega
  have hn1 : 0 < n := by
    rw [← hn, ← HC.out]
    obtain ⟨m, hm⟩ := List.exists_mem_of_ne_nil l HV.out.ne
    have hok := HV.out.ok m hm
    unfold okMb at hok
    have hx0 : (⟨PN m.node 0, m.node, ((0 : Nat) : Int)⟩ : Mk) ∈ circ PN l := (mem_circ PN).2 ⟨m, hm, (mem_drawM PN).2 ⟨rfl, 0, by omega, rfl, rfl⟩⟩
    exact List.length_pos_of_mem hx0
  clear hn
  obtain ⟨sb, sc, hse⟩ : ∃ b cc, vs = .slice (some ⟨b, 0, none⟩) n cc := by
    rcases HO.out.form with ⟨_, h2⟩ | ⟨b, cc, h1⟩
    · have := HN.out; rw [h2] at this; simp at this; omega
    · exact ⟨b, cc, by rw [h1, HN.out]⟩
  subst hse
  have HSC : Hid (∀ (j : Nat) (x : Mk), c[j]? = some x → W2.cell? ⟨sb, j * 2, none⟩ = some (.int .i64 x.point) ∧ W2.cell? ⟨sb, j * 2 + 1, none⟩ = some (.int .i64 x.node)) := Lib.hid (fun j x hj => by
    have h3 := HO.out.2
    rw [HN.out] at h3
    have hj1 : j < n := by have := (List.getElem?_eq_some_iff.1 hj).1; have := HN.out; omega
    constructor
    · rw [h3.cellAt (j * 2) (by omega)]; exact flat_get encSp_len c j x 0 hj (by decide)
    · rw [h3.cellAt (j * 2 + 1) (by omega)]; exact flat_get encSp_len c j x 1 hj (by decide))
  clear HO
  obtain ⟨i0, hi, hz0, hz1, hz2⟩ := info_parts infoInt
  obtain ⟨W3, hmk, hown3, hgr3⟩ := run_makeSlice_full (P := Tryd.prog) W2 W2.heap.size 26 3 i0 _ 1 Tryd.underlying26 hi hz0 hz1 .i64 .i64 24 (by decide) (by rw [hz2]; decide) (by decide) (Nat.le_refl _)
  have hmk' : (Instr.makeSlice 26 (.int .i64 24) (.int .i64 24)).run Tryd.prog W2 = .ok (.slice (some ⟨W2.heap.size, 0, none⟩) 24 24) W3 := hmk
  have HOWN3 : Hid (W3.ownsRow W2.heap.size 3 1 (.slice (some ⟨W2.heap.size, 0, none⟩) 24 24) 24 ((loadsL []).map (fun x => Value.int .i64 x))) := Lib.hid (by
    have h := hown3
    rw [show (madeCells (Value.int .i64 0).cells (24 * 1)).toList = (loadsL []).map (fun x => Value.int .i64 x) by
      rw [loadsL_nil, List.map_replicate]
      exact toList_madeCells_one _ _] at h
    exact h)
  have HK23 : Hid (Keep (fun _ => False) W2 W3) := Lib.hid ((Keep.of_grown hgr3).mono (fun j e => by cases e))
  clear hmk hown3 hgr3 hi hz0 hz1 hz2
  generalize hg : W2.heap.size = g at hmk' HOWN3
  have HG := Lib.hid hg
  clear hg
  have HSZ3 : Hid (g < W3.heap.size) := Lib.hid (HOWN3.out.lt g rfl).2
  go_wp2_with fail
  clear hmk'
  have HSG : Hid (sb ≠ g) := Lib.hid (by
    obtain ⟨y, hy⟩ : ∃ y, c[0]? = some y := ⟨_, List.getElem?_eq_getElem (by rw [HN.out]; exact hn1)⟩
    have h := World.block_lt_of_cell? _ _ (HSC.out 0 y hy).1
    simp only [] at h
    have := HG.out
    omega)
  have HMG : Hid (∀ b, (Value.slice va vn vc).ownBlock = some b → b ≠ g) := Lib.hid (fun b hb => by
    obtain ⟨-, -, a, c', b', off, he, hc', ha, hcell⟩ := HM.out
    have hl0 : 0 < l.length := List.length_pos_iff.2 HV.out.ne
    have ha' := ha hl0
    obtain ⟨h1, _, _⟩ := Value.slice.inj he
    rw [h1, ha'] at hb
    cases hb
    have h := World.block_lt_of_cell? _ _ (hcell 0 _ (List.getElem?_eq_getElem hl0)).1
    simp only [] at h
    have := HG.out
    have := HK2.out.size
    show b' ≠ g
    omega)
  go_loopg [6, 7] 64 (fun gh v6 v7 wr => ∃ (s : Nat), gh + s = 64 ∧ v7 = .int .i64 s ∧ Keep (fun j => j = g) W3 wr ∧ wr.ownsRow W3.heap.size 3 1 v6 (asg PN QS l s).2.length ((asg PN QS l s).2.map (fun x => Value.int .i64 x)) ∧ wr.ownsRow g 3 1 (.slice (some ⟨g, 0, none⟩) 24 24) 24 ((loadsL (asg PN QS l s).2).map (fun x => Value.int .i64 x)))
  case atStart => exact ⟨0, by omega, rfl, Keep.refl _ _, World.ownsRow_nil _ _ _ _, by rw [← HG.out] at HOWN3 ⊢; exact HOWN3.out⟩
  case round =>
    clear HOWN3
    obtain ⟨s, hs, rfl, hkg, how, hld⟩ := hrel
    have HKG := Lib.hid hkg
    have HOW := Lib.hid how
    have HLD := Lib.hid hld
    clear hkg how hld
    by_cases hlt : s < 64
    · have HASG := Lib.hid (assign_at PN QS HV.out (show s ≤ 80 by omega))
      have HNX := Lib.hid (asg_succ l s)
      obtain ⟨st, hst⟩ : ∃ st, asg PN QS l s = st := ⟨_, rfl⟩
      rw [show assignK (fun s => ords PN l (QS s)) (limitL l) s = st from hst] at HASG
      rw [hst] at HOW HLD HNX
      have hsz : (s : Int) < 64 := by omega
      have hs0 : (0 : Int) ≤ (s : Int) := by omega
      have HSS := Lib.hid (And.intro hs hlt)
      have hd1 : (dig s).size ≤ 2 := dig_size (by omega)
      have HPT : Hid (∀ W, Calls Tryd.prog 33 #[.string ((⟨#[115, 108, 111, 116, 32]⟩ : ByteArray) ++ dig s)] W fun e w' => e = .returned (.int .i64 (QS s)) ∧ W = w') := Lib.hid (fun W => by
        rw [slotT_ref']
        exact refPoint_any _ (slotT_size (by omega)) W)
      have HDG : Hid (∀ W, Calls Tryd.prog 40 #[.int .i64 (s : Int)] W fun e w' => e = .returned (.string (dig s)) ∧ Keep (fun _ => False) W w') := Lib.hid (fun W => digits_any s (by omega) W)
      generalize dig s = ds at *
      have hz1 : ¬ (9223372036854775807 < 5 + ds.size) := by omega
      clear hs hlt hst
      go_wp2_with fail
      with_reducible refine (HDG.out _).mono ?_
      rintro e Y ⟨rfl, kk⟩
      have HYS := Lib.hid kk
      clear kk
      go_wp2_with fail
      with_reducible refine (HPT.out _).mono ?_
      rintro e w' ⟨rfl, rfl⟩
      have HLD2 := Lib.hid (ownsRow_keep HLD.out HYS.out (fun _ _ h => h))
      have HOW2 := Lib.hid (ownsRow_keep HOW.out HYS.out (fun _ _ h => h))
      have HMY : Hid (Mbs Y (.slice va vn vc) l) := Lib.hid (((HM.out.kept (HK2.out.trans HK23.out)).keep HKG.out (fun b hb e => HMG.out b hb e)).kept HYS.out)
      clear hz1 hd1 HDG HPT
      go_wp2_with fail
      go_loopg [9] n (fun gh2 v9 wr2 => ∃ (j : Nat), gh2 + j = n ∧ v9 = .int .i64 j ∧ Y = wr2 ∧ Hid (∀ q y, q < j → c[q]? = some y → y.point < QS s))
      case atStart => exact ⟨0, by omega, rfl, rfl, Lib.hid (fun q y h => absurd h (by omega))⟩
      case round =>
        obtain ⟨j, hj, rfl, rfl, HBEL⟩ := hrel
        by_cases hjn : j < n
        · obtain ⟨x, hx⟩ : ∃ x, c[j]? = some x := ⟨_, List.getElem?_eq_getElem (by rw [HN.out]; exact hjn)⟩
          have xc := HYS.out.cell (HKG.out.cell (HK23.out.cell (HSC.out j x hx).1 (fun h => h)) (fun e => HSG.out e)) (fun h => h)
          have HX := Lib.hid hx
          have hjz : (j : Int) < (n : Int) := by omega
          have hjz0 : (0 : Int) ≤ (j : Int) := by omega
          clear hx
          by_cases hpt : x.point < QS s
          · have HB2 : Hid (∀ q y, q < j + 1 → c[q]? = some y → y.point < QS s) := Lib.hid (fun q y hq hy => by
              by_cases e : q < j
              · exact HBEL.out q y e hy
              · obtain rfl : q = j := by omega
                rw [HX.out] at hy
                cases hy
                exact hpt)
            go_wp2_with fail
            clear xc
            go_roundg (gk - 1)
            case rel => exact ⟨j + 1, by omega, by go_num, rfl, HB2⟩
            case measure => omega
          · have hgo : ¬ ∃ y, c[j]? = some y ∧ y.point < QS s := fun ⟨y, hy, h⟩ => by
              rw [HX.out] at hy
              cases hy
              exact hpt h
            go_wp2_with fail
            clear xc
            have HJ : Hid (lows c (QS s) = j) := Lib.hid (by
              rcases Nat.lt_trichotomy (lows c (QS s)) j with h | h | h
              · obtain ⟨y, hy⟩ : ∃ y, c[lows c (QS s)]? = some y := ⟨_, List.getElem?_eq_getElem (by rw [HN.out]; omega)⟩
                have h1 := HBEL.out _ y h hy
                have h2 := (lows_below HCS.out (QS s) hy).1 h1
                omega
              · exact h
              · obtain ⟨y, hy⟩ : ∃ y, c[j]? = some y := ⟨_, List.getElem?_eq_getElem (by have := lows_le c (QS s); omega)⟩
                exact absurd ⟨y, hy, (lows_below HCS.out (QS s) hy).2 h⟩ hgo)
            have hj0 : (0 : Int) ≤ (j : Int) := by omega
            clear hgo HBEL
            go_wp2_with fail
            go_loopg [6, 10] n (fun gh2 v6 v10 wr2 => ∃ (i : Nat), gh2 + i = n ∧ u6 = v6 ∧ v10 = .int .i64 i ∧ (∀ q, q < i → st.1 (cwN c (QS s) q) ≤ 0) ∧ Keep (fun _ => False) Y wr2)
            case atStart => exact ⟨0, by omega, rfl, rfl, fun q h => absurd h (by omega), Keep.refl _ _⟩
            case round =>
              obtain ⟨i, hi, rfl, rfl, hle, hkeep⟩ := hrel
              have HLE := Lib.hid hle
              have HKY := Lib.hid hkeep
              clear hle hkeep
              by_cases hin : i < n
              · obtain ⟨x, hx, hcw⟩ := cwN_at HCS.out (QS s) (i := i) (by rw [HN.out]; exact hin)
                rw [HJ.out, HN.out] at hx
                have HCW := Lib.hid hcw
                have xc := HKY.out.cell (HYS.out.cell (HKG.out.cell (HK23.out.cell (HSC.out _ x hx).2 (fun h => h)) (fun e => HSG.out e)) (fun h => h)) (fun h => h)
                obtain ⟨ix, hix⟩ : ∃ ix, (j + i) % n = ix := ⟨_, rfl⟩
                rw [hix] at xc hx
                have hixn : ix < n := by rw [← hix]; exact Nat.mod_lt _ (by omega)
                have e1 : ((j : Int) + (i : Int)) % (n : Int) = (ix : Int) := by rw [← hix]; first | rw [Int.natCast_emod, Int.natCast_add] | rw [Int.natCast_mod, Int.natCast_add] | simp
                have hinz : (i : Int) < (n : Int) := by omega
                have hi0 : (0 : Int) ≤ (i : Int) := by omega
                have hixz : (ix : Int) < (n : Int) := by omega
                have hix0 : (0 : Int) ≤ (ix : Int) := by omega
                have hnz : (n : Int) ≠ 0 := by omega
                have hwji : IntKind.i64.wrap ((j : Int) + (i : Int)) = (j : Int) + (i : Int) := wrapI (by unfold I64; omega)
                obtain ⟨m, hm, hmx⟩ : ∃ m ∈ l, m.node = x.node := by
                  have h1 : x ∈ circ PN l := by rw [HC.out]; exact List.mem_of_getElem? hx
                  obtain ⟨m, hm, hxm⟩ := (mem_circ PN).1 h1
                  exact ⟨m, hm, ((mem_drawM PN).1 hxm).1.symm⟩
                have hok := HV.out.ok m hm
                unfold okMb at hok
                rw [hmx] at hok
                obtain ⟨nq, hnq⟩ : ∃ q : Nat, x.node = q := ⟨x.node.toNat, by omega⟩
                rw [hnq] at xc hok
                have HNQ : Hid (cwN c (QS s) i = (nq : Int)) := Lib.hid (by rw [HCW.out, hnq])
                have hnq23 : nq ≤ 23 := by omega
                clear hx hcw hm hmx hok hix HCW hnq
                have HLDR := Lib.hid (ownsRow_keep HLD2.out HKY.out (fun _ _ h => h))
                have hl0 := HLDR.out.cellAt nq (by omega)
                rw [List.getElem?_map, loadsL_get (by omega)] at hl0
                have HL0 : Hid (wr.cell? ⟨g, nq, none⟩ = some (.int .i64 (cnt st.2 nq))) := Lib.hid hl0
                have HLIM : Hid (∀ W, Keep (fun _ => False) Y W → Calls Tryd.prog 22 #[.slice va vn vc, .int .i64 (nq : Int)] W fun e w' => e = .returned (.int .i64 (limitL l nq)) ∧ Keep (fun _ => False) W w') := Lib.hid (fun W kk => refLimit_any _ l W (HMY.out.kept kk) nq)
                have hroom := HASG.out.room nq
                have hcn := cnt_nn st.2 nq
                have hlb := limitL_nn l nq
                clear hl0
                have z0 : ∀ p : KW wr, p.val.cell? ⟨g, nq, none⟩ = some (.int .i64 (cnt st.2 nq)) := fun p => p.k.cell HL0.out (fun h => h)
                have hq0 : (0 : Int) ≤ (nq : Int) := by omega
                have hq24 : (nq : Int) < 24 := by omega
                generalize hcq : cnt st.2 nq = cq at *
                generalize limitL l nq = lq at *
                by_cases hlt2 : cq < lq
                · have HSF : Hid ((asg PN QS l (s + 1)).2 = st.2 ++ [(nq : Int)]) := Lib.hid (by
                    rw [HNX.out, step_found (i := i) (by rw [HC.out, HN.out]; exact hin) (by rw [HC.out, HNQ.out]; omega) (fun q hq => by rw [HC.out]; exact HLE.out q hq), HC.out, HNQ.out])
                  have hwc : IntKind.i64.wrap (cq + 1) = cq + 1 := wrapI (by unfold I64; omega)
                  go_wp2_with fail
                  clear xc
                  refine wp_region_quiet_kept (by kernel_rfl) (by kernel_rfl) ?_
                  repeat (quiet_step ((go_at_call 22; refine Calls.kept_of (HLIM.out _ (HKY.out.trans (KW.k _))))))
                  refine wpQuiet_nil ?_
                  rintro _ ⟨p, rfl⟩
                  have HP := Lib.hid (HKY.out.trans p.k)
                  have HLD3 := Lib.hid (ownsRow_keep HLDR.out p.k (fun _ _ h => h))
                  have g0 := p.k.cell HL0.out (fun h => h)
                  clear z0
                  generalize p.val = Y1 at *
                  have gf : ∀ o, Y1.frozen? ⟨g, o, none⟩ = false := fun o => HLD3.out.frozenAt o
                  have HKZ : Hid (Keep (fun jj => jj = g) Y (Y1.setCell ⟨g, nq, none⟩ (.int .i64 (cq + 1)))) := Lib.hid ((HP.out.mono (fun _ h => h.elim)).setCell (p := ⟨g, nq, none⟩) _ (.inl rfl))
                  have HLD4 : Hid ((Y1.setCell ⟨g, nq, none⟩ (.int .i64 (cq + 1))).ownsRow g 3 1 (.slice (some ⟨g, 0, none⟩) 24 24) 24 ((loadsL (st.2 ++ [(nq : Int)])).map (fun x => Value.int .i64 x))) := Lib.hid (by
                    have h := (HLD3.out.stored nq (.int .i64 (cq + 1))).1
                    have e := loadsL_snoc (ow := st.2) (n := nq) (by omega)
                    rw [hcq] at e
                    rw [← List.map_set (f := fun x => Value.int .i64 x), ← e] at h
                    exact h)
                  have HUG : Hid (∀ b, u6.ownBlock = some b → b ≠ g) := Lib.hid (fun b hb e => by
                    have h1 := (HOW2.out.lt b hb).1
                    have h2 := HSZ3.out
                    omega)
                  have HOWZ := Lib.hid (ownsRow_keep HOW2.out HKZ.out (fun b hb e => HUG.out b hb e))
                  clear hcq hroom hcn hlb hlt2
                  go_upto_region 19 with (fail)
                  clear g0 gf hwc
                  generalize Y1.setCell ⟨g, nq, none⟩ (.int .i64 (cq + 1)) = Z1 at *
                  obtain ⟨v', W', hr, hown', kapp, -, gg, cc, hv'⟩ := app_one 26 3 1 8 _ Tryd.underlying26 infoInt rfl (by decide) (by decide) Z1 26 W3.heap.size u6 st.2.length (st.2.map (fun x => Value.int .i64 x)) [.int .i64 (nq : Int)] HOWZ.out rfl (by simp [Value.oneCell']) (by have := HASG.out.len; omega) (by have h1 := HKG.out.size; have h2 := HYS.out.size; have h3 := HKZ.out.size; omega)
                  have HR := Lib.hid hr
                  have HNEW : Hid (W'.ownsRow W3.heap.size 3 1 v' (asg PN QS l (s + 1)).2.length ((asg PN QS l (s + 1)).2.map (fun x => Value.int .i64 x))) := Lib.hid (by
                    rw [HSF.out, List.length_append, List.map_append]
                    exact hown')
                  have HLD5 : Hid (W'.ownsRow g 3 1 (.slice (some ⟨g, 0, none⟩) 24 24) 24 ((loadsL (asg PN QS l (s + 1)).2).map (fun x => Value.int .i64 x))) := Lib.hid (by
                    rw [HSF.out]
                    exact ownsRow_keep HLD4.out kapp (fun b hb e => by cases hb; exact HUG.out g e rfl))
                  have HKW' : Hid (Keep (fun jj => jj = g) W3 W') := Lib.hid (((HKG.out.trans (HYS.out.mono (fun _ h => h.elim))).trans HKZ.out).trans' kapp (fun b e => .inr (HOW2.out.lt b e).1))
                  clear hr hown' kapp hv' HLD4 HOWZ
                  go_wp2_with (at_builtin; refine wpList_app rfl (.tmp 71) (.tmp 73) 26 rfl rfl rfl HR.out ?_)
                  go_roundg (64 - (s + 1))
                  case rel => exact ⟨s + 1, by have := HSS.out; omega, by go_num, HKW'.out, HNEW.out, HLD5.out⟩
                  case measure => have := HSS.out; omega
                · have HLE2 : Hid (∀ q, q < i + 1 → st.1 (cwN c (QS s) q) ≤ 0) := Lib.hid (fun q hq => by
                    by_cases e : q < i
                    · exact HLE.out q e
                    · obtain rfl : q = i := by omega
                      rw [HNQ.out]; omega)
                  go_wp2_with fail
                  clear xc
                  refine wp_region_quiet_kept (by kernel_rfl) (by kernel_rfl) ?_
                  repeat (quiet_step ((go_at_call 22; refine Calls.kept_of (HLIM.out _ (HKY.out.trans (KW.k _))))))
                  refine wpQuiet_nil ?_
                  rintro _ ⟨p, rfl⟩
                  have HP := Lib.hid (HKY.out.trans p.k)
                  clear z0
                  generalize p.val = Y1 at *
                  go_wp2_with fail
                  go_roundg (gk - 1)
                  case rel => exact ⟨i + 1, by omega, rfl, by go_num, HLE2.out, HP.out⟩
                  case measure => omega
              · have hin' : ¬ ((i : Int) < (n : Int)) := by omega
                have HSF : Hid (asg PN QS l (s + 1) = st) := Lib.hid (by
                  rw [HNX.out]
                  exact step_none (fun q hq => by
                    rw [HC.out, HN.out] at hq
                    rw [HC.out]
                    exact HLE.out q (by omega)))
                have HKW' : Hid (Keep (fun jj => jj = g) W3 wr) := Lib.hid (HKG.out.trans ((HYS.out.trans HKY.out).mono (fun _ h => h.elim)))
                have HNEW := Lib.hid (ownsRow_keep HOW2.out HKY.out (fun _ _ h => h))
                have HLD5 := Lib.hid (ownsRow_keep HLD2.out HKY.out (fun _ _ h => h))
                go_wp2_with fail
                go_roundg (64 - (s + 1))
                case rel => exact ⟨s + 1, by have := HSS.out; omega, by go_num, HKW'.out, by rw [HSF.out]; exact HNEW.out, by rw [HSF.out]; exact HLD5.out⟩
                case measure => have := HSS.out; omega
        · have hjz : ¬ ((j : Int) < (n : Int)) := by omega
          have hgo : ¬ ∃ y, c[j]? = some y ∧ y.point < QS s := fun ⟨y, hy, h⟩ => by
            have := (List.getElem?_eq_some_iff.1 hy).1
            have := HN.out
            omega
          go_wp2_with fail
          have HJ : Hid (lows c (QS s) = j) := Lib.hid (by
            rcases Nat.lt_trichotomy (lows c (QS s)) j with h | h | h
            · obtain ⟨y, hy⟩ : ∃ y, c[lows c (QS s)]? = some y := ⟨_, List.getElem?_eq_getElem (by rw [HN.out]; omega)⟩
              have h1 := HBEL.out _ y h hy
              have h2 := (lows_below HCS.out (QS s) hy).1 h1
              omega
            · exact h
            · obtain ⟨y, hy⟩ : ∃ y, c[j]? = some y := ⟨_, List.getElem?_eq_getElem (by have := lows_le c (QS s); omega)⟩
              exact absurd ⟨y, hy, (lows_below HCS.out (QS s) hy).2 h⟩ hgo)
          have hj0 : (0 : Int) ≤ (j : Int) := by omega
          clear hgo HBEL
          go_wp2_with fail
          go_loopg [6, 10] n (fun gh2 v6 v10 wr2 => ∃ (i : Nat), gh2 + i = n ∧ u6 = v6 ∧ v10 = .int .i64 i ∧ (∀ q, q < i → st.1 (cwN c (QS s) q) ≤ 0) ∧ Keep (fun _ => False) Y wr2)
          case atStart => exact ⟨0, by omega, rfl, rfl, fun q h => absurd h (by omega), Keep.refl _ _⟩
          case round =>
            obtain ⟨i, hi, rfl, rfl, hle, hkeep⟩ := hrel
            have HLE := Lib.hid hle
            have HKY := Lib.hid hkeep
            clear hle hkeep
            by_cases hin : i < n
            · obtain ⟨x, hx, hcw⟩ := cwN_at HCS.out (QS s) (i := i) (by rw [HN.out]; exact hin)
              rw [HJ.out, HN.out] at hx
              have HCW := Lib.hid hcw
              have xc := HKY.out.cell (HYS.out.cell (HKG.out.cell (HK23.out.cell (HSC.out _ x hx).2 (fun h => h)) (fun e => HSG.out e)) (fun h => h)) (fun h => h)
              obtain ⟨ix, hix⟩ : ∃ ix, (j + i) % n = ix := ⟨_, rfl⟩
              rw [hix] at xc hx
              have hixn : ix < n := by rw [← hix]; exact Nat.mod_lt _ (by omega)
              have e1 : ((j : Int) + (i : Int)) % (n : Int) = (ix : Int) := by rw [← hix]; first | rw [Int.natCast_emod, Int.natCast_add] | rw [Int.natCast_mod, Int.natCast_add] | simp
              have hinz : (i : Int) < (n : Int) := by omega
              have hi0 : (0 : Int) ≤ (i : Int) := by omega
              have hixz : (ix : Int) < (n : Int) := by omega
              have hix0 : (0 : Int) ≤ (ix : Int) := by omega
              have hnz : (n : Int) ≠ 0 := by omega
              have hwji : IntKind.i64.wrap ((j : Int) + (i : Int)) = (j : Int) + (i : Int) := wrapI (by unfold I64; omega)
              obtain ⟨m, hm, hmx⟩ : ∃ m ∈ l, m.node = x.node := by
                have h1 : x ∈ circ PN l := by rw [HC.out]; exact List.mem_of_getElem? hx
                obtain ⟨m, hm, hxm⟩ := (mem_circ PN).1 h1
                exact ⟨m, hm, ((mem_drawM PN).1 hxm).1.symm⟩
              have hok := HV.out.ok m hm
              unfold okMb at hok
              rw [hmx] at hok
              obtain ⟨nq, hnq⟩ : ∃ q : Nat, x.node = q := ⟨x.node.toNat, by omega⟩
              rw [hnq] at xc hok
              have HNQ : Hid (cwN c (QS s) i = (nq : Int)) := Lib.hid (by rw [HCW.out, hnq])
              have hnq23 : nq ≤ 23 := by omega
              clear hx hcw hm hmx hok hix HCW hnq
              have HLDR := Lib.hid (ownsRow_keep HLD2.out HKY.out (fun _ _ h => h))
              have hl0 := HLDR.out.cellAt nq (by omega)
              rw [List.getElem?_map, loadsL_get (by omega)] at hl0
              have HL0 : Hid (wr.cell? ⟨g, nq, none⟩ = some (.int .i64 (cnt st.2 nq))) := Lib.hid hl0
              have HLIM : Hid (∀ W, Keep (fun _ => False) Y W → Calls Tryd.prog 22 #[.slice va vn vc, .int .i64 (nq : Int)] W fun e w' => e = .returned (.int .i64 (limitL l nq)) ∧ Keep (fun _ => False) W w') := Lib.hid (fun W kk => refLimit_any _ l W (HMY.out.kept kk) nq)
              have hroom := HASG.out.room nq
              have hcn := cnt_nn st.2 nq
              have hlb := limitL_nn l nq
              clear hl0
              have z0 : ∀ p : KW wr, p.val.cell? ⟨g, nq, none⟩ = some (.int .i64 (cnt st.2 nq)) := fun p => p.k.cell HL0.out (fun h => h)
              have hq0 : (0 : Int) ≤ (nq : Int) := by omega
              have hq24 : (nq : Int) < 24 := by omega
              generalize hcq : cnt st.2 nq = cq at *
              generalize limitL l nq = lq at *
              by_cases hlt2 : cq < lq
              · have HSF : Hid ((asg PN QS l (s + 1)).2 = st.2 ++ [(nq : Int)]) := Lib.hid (by
                  rw [HNX.out, step_found (i := i) (by rw [HC.out, HN.out]; exact hin) (by rw [HC.out, HNQ.out]; omega) (fun q hq => by rw [HC.out]; exact HLE.out q hq), HC.out, HNQ.out])
                have hwc : IntKind.i64.wrap (cq + 1) = cq + 1 := wrapI (by unfold I64; omega)
                go_wp2_with fail
                clear xc
                refine wp_region_quiet_kept (by kernel_rfl) (by kernel_rfl) ?_
                repeat (quiet_step ((go_at_call 22; refine Calls.kept_of (HLIM.out _ (HKY.out.trans (KW.k _))))))
                refine wpQuiet_nil ?_
                rintro _ ⟨p, rfl⟩
                have HP := Lib.hid (HKY.out.trans p.k)
                have HLD3 := Lib.hid (ownsRow_keep HLDR.out p.k (fun _ _ h => h))
                have g0 := p.k.cell HL0.out (fun h => h)
                clear z0
                generalize p.val = Y1 at *
                have gf : ∀ o, Y1.frozen? ⟨g, o, none⟩ = false := fun o => HLD3.out.frozenAt o
                have HKZ : Hid (Keep (fun jj => jj = g) Y (Y1.setCell ⟨g, nq, none⟩ (.int .i64 (cq + 1)))) := Lib.hid ((HP.out.mono (fun _ h => h.elim)).setCell (p := ⟨g, nq, none⟩) _ (.inl rfl))
                have HLD4 : Hid ((Y1.setCell ⟨g, nq, none⟩ (.int .i64 (cq + 1))).ownsRow g 3 1 (.slice (some ⟨g, 0, none⟩) 24 24) 24 ((loadsL (st.2 ++ [(nq : Int)])).map (fun x => Value.int .i64 x))) := Lib.hid (by
                  have h := (HLD3.out.stored nq (.int .i64 (cq + 1))).1
                  have e := loadsL_snoc (ow := st.2) (n := nq) (by omega)
                  rw [hcq] at e
                  rw [← List.map_set (f := fun x => Value.int .i64 x), ← e] at h
                  exact h)
                have HUG : Hid (∀ b, u6.ownBlock = some b → b ≠ g) := Lib.hid (fun b hb e => by
                  have h1 := (HOW2.out.lt b hb).1
                  have h2 := HSZ3.out
                  omega)
                have HOWZ := Lib.hid (ownsRow_keep HOW2.out HKZ.out (fun b hb e => HUG.out b hb e))
                clear hcq hroom hcn hlb hlt2
                go_upto_region 19 with (fail)
                clear g0 gf hwc
                generalize Y1.setCell ⟨g, nq, none⟩ (.int .i64 (cq + 1)) = Z1 at *
                obtain ⟨v', W', hr, hown', kapp, -, gg, cc, hv'⟩ := app_one 26 3 1 8 _ Tryd.underlying26 infoInt rfl (by decide) (by decide) Z1 26 W3.heap.size u6 st.2.length (st.2.map (fun x => Value.int .i64 x)) [.int .i64 (nq : Int)] HOWZ.out rfl (by simp [Value.oneCell']) (by have := HASG.out.len; omega) (by have h1 := HKG.out.size; have h2 := HYS.out.size; have h3 := HKZ.out.size; omega)
                have HR := Lib.hid hr
                have HNEW : Hid (W'.ownsRow W3.heap.size 3 1 v' (asg PN QS l (s + 1)).2.length ((asg PN QS l (s + 1)).2.map (fun x => Value.int .i64 x))) := Lib.hid (by
                  rw [HSF.out, List.length_append, List.map_append]
                  exact hown')
                have HLD5 : Hid (W'.ownsRow g 3 1 (.slice (some ⟨g, 0, none⟩) 24 24) 24 ((loadsL (asg PN QS l (s + 1)).2).map (fun x => Value.int .i64 x))) := Lib.hid (by
                  rw [HSF.out]
                  exact ownsRow_keep HLD4.out kapp (fun b hb e => by cases hb; exact HUG.out g e rfl))
                have HKW' : Hid (Keep (fun jj => jj = g) W3 W') := Lib.hid (((HKG.out.trans (HYS.out.mono (fun _ h => h.elim))).trans HKZ.out).trans' kapp (fun b e => .inr (HOW2.out.lt b e).1))
                clear hr hown' kapp hv' HLD4 HOWZ
                go_wp2_with (at_builtin; refine wpList_app rfl (.tmp 71) (.tmp 73) 26 rfl rfl rfl HR.out ?_)
                go_roundg (64 - (s + 1))
                case rel => exact ⟨s + 1, by have := HSS.out; omega, by go_num, HKW'.out, HNEW.out, HLD5.out⟩
                case measure => have := HSS.out; omega
              · have HLE2 : Hid (∀ q, q < i + 1 → st.1 (cwN c (QS s) q) ≤ 0) := Lib.hid (fun q hq => by
                  by_cases e : q < i
                  · exact HLE.out q e
                  · obtain rfl : q = i := by omega
                    rw [HNQ.out]; omega)
                go_wp2_with fail
                clear xc
                refine wp_region_quiet_kept (by kernel_rfl) (by kernel_rfl) ?_
                repeat (quiet_step ((go_at_call 22; refine Calls.kept_of (HLIM.out _ (HKY.out.trans (KW.k _))))))
                refine wpQuiet_nil ?_
                rintro _ ⟨p, rfl⟩
                have HP := Lib.hid (HKY.out.trans p.k)
                clear z0
                generalize p.val = Y1 at *
                go_wp2_with fail
                go_roundg (gk - 1)
                case rel => exact ⟨i + 1, by omega, rfl, by go_num, HLE2.out, HP.out⟩
                case measure => omega
            · have hin' : ¬ ((i : Int) < (n : Int)) := by omega
              have HSF : Hid (asg PN QS l (s + 1) = st) := Lib.hid (by
                rw [HNX.out]
                exact step_none (fun q hq => by
                  rw [HC.out, HN.out] at hq
                  rw [HC.out]
                  exact HLE.out q (by omega)))
              have HKW' : Hid (Keep (fun jj => jj = g) W3 wr) := Lib.hid (HKG.out.trans ((HYS.out.trans HKY.out).mono (fun _ h => h.elim)))
              have HNEW := Lib.hid (ownsRow_keep HOW2.out HKY.out (fun _ _ h => h))
              have HLD5 := Lib.hid (ownsRow_keep HLD2.out HKY.out (fun _ _ h => h))
              go_wp2_with fail
              go_roundg (64 - (s + 1))
              case rel => exact ⟨s + 1, by have := HSS.out; omega, by go_num, HKW'.out, by rw [HSF.out]; exact HNEW.out, by rw [HSF.out]; exact HLD5.out⟩
              case measure => have := HSS.out; omega
    · obtain rfl : s = 64 := by omega
      have HE : Hid (AsgPost l w (.returned (.tuple #[u6, .int .i64 0])) wr) := Lib.hid ⟨u6, rfl, ownsRow_lo HOW.out (by have h1 := HK2.out.size; have h2 := HK23.out.size; omega), (HK2.out.trans HK23.out).trans' HKG.out (fun b e => .inr (by have h1 := HK2.out.size; have h2 := HG.out; have : b = g := e; omega))⟩
      go_wp2_with fail
      refine bodyPost_ret (v := .tuple #[u6, .int .i64 0]) (by simp [results, Tryd.results16, go_sem]) rfl ?_
      exact HE.out
end Go.Proofs.YtplkmbfeeegaiaaDoor
