/-
  Assign: the walk.
-/
import Derived.Test.YtplkmbfeeegaiaaDoorB2
namespace Go.Proofs.YtplkmbfeeegaiaaDoor
open Go.RowKit Go.Shelf
attribute [local go_sem] Oper.semAt_some

def AsgPost (l : List Mb) (w : World) (e : Ending) (w' : World) : Prop := ∃ v, e = .returned (.tuple #[v, .int .i64 0]) ∧ w'.ownsRow w.heap.size 3 1 v (ownersL PN QS l).length ((ownersL PN QS l).map (fun x => Value.int .i64 x)) ∧ Keep (fun _ => False) w w'

set_option maxRecDepth 100000 in
set_option maxHeartbeats 400000 in
theorem from_any (ca : Option Addr) (cn cc : Nat) (p : Int) (W : World) : Calls Tryd.prog 50 #[.slice ca cn cc, .int .i64 p] W fun e w' => e = .returned (.func (.func 72) #[] #[ptr W.heap.size, ptr (W.heap.size + 1)]) ∧ (W.alloc (.cells #[.slice ca cn cc] 66)).alloc (.cells #[.int .i64 p] 3) = w' := by
  go_enter Tryd.func50, Tryd.ntmps50
  go_wp2_with fail
  go_ret
  exact ⟨rfl, rfl⟩

set_option maxRecDepth 100000 in
set_option maxHeartbeats 8000000 in
theorem assign_ok (v : Value) (l : List Mb) (w : World) (h : Mbs w v l) (hv : VL l) (hT : Tab w) : Calls Tryd.prog 15 #[v] w (AsgPost l w) := by
  have HVA : Hid (Calls Tryd.prog 19 #[v] w fun e w' => e = .returned (.bool true) ∧ Keep (fun _ => False) w w') := Lib.hid (by
    have := valid_any v l w h
    rwa [(validL_iff l).2 hv] at this)
  have HDR : Hid (∀ W, Keep (fun _ => False) w W → Calls Tryd.prog 48 #[v] W (DrawPost l W)) := Lib.hid (fun W k => drawn_any v l W (h.kept k) hv (hT.kept k))
  have HLI : Hid (∀ W, Keep (fun _ => False) w W → Calls Tryd.prog 49 #[v] W (LimPost l W)) := Lib.hid (fun W k => limits_any v l W (h.kept k))
  have HV := Lib.hid hv
  have HT := Lib.hid hT
  clear h hv hT
  refine (callsIn_wide (n := 0)).1 ?_
  refine callsIn_of_wp_marks Tryd.func15 rfl trivial ?_ rfl
  simp only [Tryd.ntmps15, List.size_toArray, List.length_cons, List.length_nil, Nat.reduceAdd, Nat.reduceSub, Array.replicate_succ, Array.replicate_zero, List.push_toArray, List.append_toArray, List.nil_append, List.cons_append]
  refine wpIn_wide.2 ?_
  go_wp2_with fail
  go_step3
  go_wp2_with fail
  with_reducible refine HVA.out.mono ?_
  rintro e W1 ⟨rfl, k1⟩
  have HK1 := Lib.hid k1
  clear k1 HVA
  go_wp2_with fail
  with_reducible refine (HDR.out _ HK1.out).mono ?_
  rintro e W2 ⟨vc, rfl, hmk, k2⟩
  obtain ⟨ca, cn, cc, rfl⟩ : ∃ ca cn cc, vc = .slice ca cn cc := by obtain ⟨a, c, b, off, h, _⟩ := hmk.at_; exact ⟨_, _, _, h⟩
  have HK2 := Lib.hid (HK1.out.trans k2)
  have HMK := Lib.hid hmk
  clear hmk k2 HK1 HDR
  go_wp2_with fail
  with_reducible refine (HLI.out _ HK2.out).mono ?_
  rintro e W3 ⟨bm, rfl, hbm, hmf, k3⟩
  have HK3 := Lib.hid (HK2.out.trans k3)
  have HMK3 := Lib.hid (HMK.out.kept k3)
  have HMF := Lib.hid hmf
  have HBM := Lib.hid (And.intro hbm hmf.lt)
  have HG : Hid (∀ j, (Value.slice ca cn cc).ownBlock = some j → j < W3.heap.size ∧ j ≠ bm) := Lib.hid (fun j e => by
    obtain ⟨a, c, b, off, hvc, _, ha, hcell⟩ := HMK.out.at_
    cases hvc
    have hne : 0 < (circ PN l).length := by
      have h1 := draws_len PN l HV.out.ok
      have h2 := HV.out.wsum
      have h3 : (circ PN l).length = (draws PN l).length := (sortMk_perm _).length_eq
      omega
    have := ha hne
    subst this
    cases e
    have h1 := World.block_lt_of_cell? _ _ (hcell 0 _ (List.getElem?_eq_getElem hne)).1
    have h2 := k3.size
    simp only [] at h1
    show b < W3.heap.size ∧ b ≠ bm
    exact ⟨by omega, by omega⟩)
  have HNE : Hid (0 < (circ PN l).length) := Lib.hid (by
    have h1 := draws_len PN l HV.out.ok
    have h2 := HV.out.wsum
    have h3 : (circ PN l).length = (draws PN l).length := (sortMk_perm _).length_eq
    omega)
  have HCS := Lib.hid (circ_sorted PN HV.out.asc)
  clear k3 hbm hmf HLI
  go_wp2_with fail
  have HAI : Hid (AI ((W3.alloc (.cells #[.map (some bm)] 68)).alloc (.cells #[.slice none 0 0] 26)) bm (W3.heap.size + 1) [] (asg PN QS l 0) (.slice none 0 0) ((W3.alloc (.cells #[.map (some bm)] 68)).alloc (.cells #[.slice none 0 0] 26))) := Lib.hid (by
    have k : Keep (fun _ => False) W3 ((W3.alloc (.cells #[.map (some bm)] 68)).alloc (.cells #[.slice none 0 0] 26)) := ((Keep.refl _ W3).alloc _).alloc _
    have b1 := cells_new (W3.alloc (.cells #[.map (some bm)] 68)) [.slice none 0 0] 26 0 _ rfl
    rw [World.size_alloc] at b1
    refine ⟨Keep.refl _ _, HMF.out.kept k, b1, ?_, ?_, by simp, by simp⟩
    · unfold World.frozen?
      have := World.alloc_heap_new (W3.alloc (.cells #[.map (some bm)] 68)) (.cells #[.slice none 0 0] 26)
      rw [World.size_alloc] at this
      rw [this]
      rfl
    · simpa [asg, assignK] using World.ownsRow_nil _ _ 3 1)
  have HCR : Hid (((W3.alloc (.cells #[.map (some bm)] 68)).alloc (.cells #[.slice none 0 0] 26)).cell? ⟨W3.heap.size, 0, none⟩ = some (.map (some bm))) := Lib.hid (((Keep.refl (fun _ => False) _).alloc _).cell (cells_new W3 [.map (some bm)] 68 0 _ rfl) (fun h => h))
  have HKC : Hid (Keep (fun _ => False) W3 ((W3.alloc (.cells #[.map (some bm)] 68)).alloc (.cells #[.slice none 0 0] 26))) := Lib.hid (((Keep.refl _ W3).alloc _).alloc _)
  have HSZ : Hid (((W3.alloc (.cells #[.map (some bm)] 68)).alloc (.cells #[.slice none 0 0] 26)).heap.size = W3.heap.size + 2) := Lib.hid (by rw [World.size_alloc, World.size_alloc])
  generalize (W3.alloc (.cells #[.map (some bm)] 68)).alloc (.cells #[.slice none 0 0] 26) = Wc at *
  generalize W3.heap.size = z3 at *
  go_step3
  go_wp2_with fail
  refine wp_loop_ghost (fun g a W => ∃ (s : Nat) (Ds : List Nat) (vo : Value), g + s = 64 ∧ a.defers = Ds.map markD ∧ a.tmps.size = 40 ∧ a.tmps[4]? = some (.slice ca cn cc) ∧ a.tmps[5]? = some (ptr z3) ∧ a.tmps[6]? = some (ptr (z3 + 1)) ∧ a.tmps[16]? = some (.int .i64 s) ∧ AI Wc bm (z3 + 1) Ds (asg PN QS l s) vo W) 64 ⟨0, [], _, rfl, rfl, rfl, rfl, rfl, rfl, rfl, HAI.out⟩ ?_
  clear HAI
  rintro g ⟨t, ds⟩ W ⟨s, Ds, vo, hg, hds, hsz, h4, h5, h6, h16, hai⟩
  simp only [] at hds hsz h4 h5 h6 h16
  subst hds
  obtain ⟨x0, x1, x2, x3, x4, x5, x6, x7, x8, x9, x10, x11, x12, x13, x14, x15, x16, x17, x18, x19, x20, x21, x22, x23, x24, x25, x26, x27, x28, x29, x30, x31, x32, x33, x34, x35, x36, x37, x38, x39, rfl⟩ := arr40 t hsz
  have e4 : Value.slice ca cn cc = x4 := by simpa using h4.symm
  have e5 : ptr z3 = x5 := by simpa using h5.symm
  have e6 : ptr (z3 + 1) = x6 := by simpa using h6.symm
  have e16 : Value.int .i64 s = x16 := by simpa using h16.symm
  subst e4 e5 e6 e16
  have HA := Lib.hid hai
  clear hai hsz h4 h5 h6 h16
  by_cases hs : s < 64
  · have hsz : (s : Int) < 64 := by omega
    have hs0 : (0 : Int) ≤ (s : Int) := by omega
    go_wp2_with fail
    have HI : Hid (Its (W.alloc (.cells #[.int .i64 s] 3)) (.slice (some ⟨W.heap.size, 0, none⟩) 1 1) ([s].map (fun q : Nat => (q : Int)))) := Lib.hid (its_new W [(s : Int)] (by simp) (by
      intro x hx
      simp only [List.mem_cons, List.not_mem_nil, or_false] at hx
      unfold I64
      omega))
    have HAI1 := Lib.hid (HA.out.keep ((Keep.refl _ W).alloc (.cells #[.int .i64 s] 3)))
    clear HA
    generalize W.alloc (.cells #[.int .i64 s] 3) = V1 at *
    generalize W.heap.size = zw at *
    with_reducible refine (text_any _ _ [s] V1 (by decide) (by simp) (by
      intro q hq
      simp only [List.mem_cons, List.not_mem_nil, or_false] at hq
      omega) HI.out).mono ?_
    rintro e w' ⟨rfl, rfl⟩
    have HPT : Hid (Calls Tryd.prog 32 #[.string (txt ⟨#[115, 108, 111, 116]⟩ [s])] V1 fun e w' => e = .returned (.int .i64 (QS s)) ∧ V1 = w') := Lib.hid (point_any (slotT s) (slotT_size (by omega)) V1 ((HT.out.kept (HK3.out.trans HKC.out)).keep HAI1.out.k (by
      have h1 := HT.out 0 (by decide)
      have h2 := World.block_lt_of_cell? _ _ h1
      have h3 := HBM.out
      have h4 := HK2.out.size
      have h5 := HK3.out.size
      simp only [] at h2
      rintro (e | e) <;> omega)))
    generalize txt ⟨#[115, 108, 111, 116]⟩ [s] = tx at *
    go_wp2_with fail
    with_reducible refine HPT.out.mono ?_
    rintro e w' ⟨rfl, rfl⟩
    clear HPT HI
    generalize hqs : QS s = p at *
    have HQS := Lib.hid hqs
    clear hqs
    go_wp2_with fail
    with_reducible refine (from_any ca cn cc p _).mono ?_
    rintro e V2 ⟨rfl, hV2⟩
    have k2 : Keep (fun _ => False) V1 V2 := by rw [← hV2]; exact ((Keep.refl _ V1).alloc _).alloc _
    have HAI2 := Lib.hid (HAI1.out.keep k2)
    have HB1 : Hid (V2.cell? ⟨V1.heap.size, 0, none⟩ = some (.slice ca cn cc)) := Lib.hid (by rw [← hV2]; exact ((Keep.refl (fun _ => False) _).alloc _).cell (cells_new V1 [.slice ca cn cc] 66 0 _ rfl) (fun h => h))
    have HB2 : Hid (V2.cell? ⟨V1.heap.size + 1, 0, none⟩ = some (.int .i64 p)) := Lib.hid (by
      have := cells_new (V1.alloc (.cells #[.slice ca cn cc] 66)) [.int .i64 p] 3 0 _ rfl
      rw [World.size_alloc] at this
      rw [← hV2]; exact this)
    clear hV2 k2 HAI1
    generalize V1.heap.size = bc at *
    have HMV : Hid (Mks V2 (.slice ca cn cc) (circ PN l)) := Lib.hid ((HMK3.out.kept HKC.out).keep HAI2.out.k (fun j e => by
      have h1 : j < z3 ∧ j ≠ bm := HG.out j e
      rintro (h | h) <;> omega))
    have HBB : Hid (Wc.heap.size ≤ V2.heap.size) := Lib.hid HAI2.out.k.size
    go_wp2_with fail
    refine (wpIn_wide (n := 0)).1 ?_
    have hbm : bm < Wc.heap.size := by have := HBM.out; have := HSZ.out; omega
    have hbO : z3 + 1 < Wc.heap.size := by have := HSZ.out; omega
    refine range_list (gf := 72) (lb := #[ptr bc, ptr (bc + 1)]) rfl (enters_of Tryd.func72 (by kernel_rfl) rfl) (from_iter bc (bc + 1) (.slice ca cn cc) (circ PN l) p HCS.out HNE.out) (fun _ _ => rfl)
      (RI Wc bm (z3 + 1) Ds l bc (bc + 1) (.slice ca cn cc) p (asg PN QS l s) vo) (RX Wc bm (z3 + 1) Ds l p (asg PN QS l s))
      (RI_own hbm hbO HBB.out (fun D hD => HAI2.out.lt hD)) (RX_own hbm hbO HBB.out (fun D hD => HAI2.out.lt hD))
      (fun i V h => h.2.1) ⟨HAI2.out, ⟨HB1.out, HB2.out, HMV.out⟩, fun k hk => absurd hk (Nat.not_lt_zero _)⟩ ?a1 ?assign ?body ?done ?stop
    case assign =>
      intro l i V K hi hK
      gi_wp2
      exact hK
    case body =>
      rintro lp i V hi ⟨hai, ⟨hb1, hb2, hmv⟩, hbe⟩ hsV
      have HAV := Lib.hid hai
      have HBE := Lib.hid hbe
      have HFR := Lib.hid (show FromReads bc (bc + 1) (.slice ca cn cc) (circ PN l) p V from ⟨hb1, hb2, hmv⟩)
      have hbR : V.cell? ⟨z3, 0, none⟩ = some (.map (some bm)) := hai.k.cell HCR.out (by have := HBM.out; rintro (e | e) <;> omega)
      obtain ⟨x, hx, hcw⟩ := cwN_at HCS.out p hi
      have hxb : I64 (cwN (circ PN l) p i) := by
        rw [hcw]
        obtain ⟨m, hm, hd⟩ := (mem_circ PN).1 (List.mem_of_getElem? hx)
        have h1 := ((mem_drawM PN).1 hd).1
        have h2 := HV.out.ok m hm
        unfold okMb at h2
        unfold I64
        omega
      have HLEN : Hid ((asg PN QS l s).2.length ≤ 1000) := Lib.hid (by
        have := (assign_at PN QS HV.out (show s ≤ 80 by omega)).len
        show (assignK (fun s => ords PN l (QS s)) (limitL l) s).2.length ≤ 1000
        omega)
      have hroom := (assign_at PN QS HV.out (show s ≤ 80 by omega)).room (cwN (circ PN l) p i)
      have hlim := limitL_nn l (cwN (circ PN l) p i)
      have hcn := cnt_nn (asg PN QS l s).2 (cwN (circ PN l) p i)
      obtain ⟨es, ck, v', Vb, hup, happ, co1, co2, fo2, hai', hkf, g', c', rfl⟩ := hai.take hbm hbO (by have := HBM.out; omega) hxb HLEN.out HBB.out
      have lk := hai.mf.look hxb
      have HSF : Hid (0 < (asg PN QS l s).1 (cwN (circ PN l) p i) → stepA (ords PN l p) (asg PN QS l s) = (upd (asg PN QS l s).1 (cwN (circ PN l) p i) ((asg PN QS l s).1 (cwN (circ PN l) p i) - 1), (asg PN QS l s).2 ++ [cwN (circ PN l) p i])) := Lib.hid (fun h => step_found hi h HBE.out)
      obtain ⟨nn, hnn⟩ : ∃ nn, cwN (circ PN l) p i = nn := ⟨_, rfl⟩
      have HNN := Lib.hid hnn
      obtain ⟨rr, hrr⟩ : ∃ rr, (asg PN QS l s).1 nn = rr := ⟨_, rfl⟩
      have hroom2 : rr = limitL l nn - cnt (asg PN QS l s).2 nn := by rw [← hrr, ← hnn]; exact hroom
      have HRR := Lib.hid hrr
      simp only [hnn] at lk hup happ hai' HSF hlim hcn ⊢
      rw [hrr] at lk hup hai' HSF
      clear hnn hrr hroom hx hcw hai hbe hb1 hb2 hmv
      have hrb : -100 ≤ rr + 1000000 ∧ rr ≤ 1280 := by
        have := HLEN.out
        have h3 : cnt (asg PN QS l s).2 nn ≤ (asg PN QS l s).2.length := by
          unfold cnt
          have := List.count_le_length (a := nn) (l := (asg PN QS l s).2)
          omega
        omega
      clear hroom2 hlim hcn
      by_cases hpos : 0 < rr
      · have HAI' : Hid (AI Wc bm (z3 + 1) Ds (stepA (ords PN l p) (asg PN QS l s)) (.slice (some ⟨g', 0, none⟩) ((asg PN QS l s).2.length + 1) c') (Vb.setCell ⟨z3 + 1, 0, none⟩ (.slice (some ⟨g', 0, none⟩) ((asg PN QS l s).2.length + 1) c'))) := Lib.hid (by rw [HSF.out hpos]; exact hai')
        have HKF := Lib.hid hkf
        clear hai' hkf HSF
        generalize (asg PN QS l s).2.length + 1 = ln at *
        have HAPP := Lib.hid happ
        clear happ
        generalize V.putObj bm (.map es ck) = Va at *
        gi_wp2_with (gi_at_builtin; refine wpListIn_app rfl (.tmp 34) (.tmp 36) 26 rfl rfl rfl HAPP.out ?_)
        exact ⟨HKF.out, rfl, _, HAI'.out⟩
      · clear hai' hkf HSF happ hup co1 co2 fo2
        gi_wp2_with fail
        refine ⟨KeepsFrom.refl _ _, HAV.out, HFR.out, fun k hk => ?_⟩
        by_cases e : k = i
        · subst e
          rw [HNN.out, HRR.out]
          omega
        · exact HBE.out k (by omega)
    case done =>
      rintro D V hD ⟨hai, hfr, hbe⟩ hK
      have HN : Hid (AI Wc bm (z3 + 1) (D :: Ds) (asg PN QS l (s + 1)) vo V) := Lib.hid (by
        have e : asg PN QS l (s + 1) = asg PN QS l s := by
          show stepA (ords PN l (QS s)) (asg PN QS l s) = _
          rw [HQS.out]
          exact step_none hbe
        rw [e]
        exact hai.mark (fun E hE => HAI2.out.lt hE) HBB.out hD hK)
      clear hai hfr hbe hK hD
      go_wp2_with fail
      exact ⟨g - 1, by omega, s + 1, D :: Ds, vo, by omega, rfl, rfl, rfl, rfl, rfl, by simp, HN.out⟩
    case stop =>
      rintro D c i V hD hi ⟨rfl, v', hai⟩ hK
      have HN : Hid (AI Wc bm (z3 + 1) (D :: Ds) (asg PN QS l (s + 1)) v' V) := Lib.hid (by
        have e : asg PN QS l (s + 1) = stepA (ords PN l p) (asg PN QS l s) := by
          rw [← HQS.out]
          rfl
        rw [e]
        exact hai.mark (fun E hE => HAI2.out.lt hE) HBB.out hD hK)
      clear hai hK hD
      gi_wp2_with fail
      go_wp2_with fail
      exact ⟨g - 1, by omega, s + 1, D :: Ds, v', by omega, rfl, rfl, rfl, rfl, rfl, by simp, HN.out⟩
  · obtain rfl : s = 64 := by omega
    have c6 := HA.out.co
    have hns : ¬ (((64 : Nat) : Int) < 64) := by omega
    go_wp2_with fail
    refine leaves_marks Ds W HA.out.nd (fun D hD => (HA.out.ds D hD).2) (fun W' k => ?_)
    have hsz := HSZ.out
    have hbm := HBM.out
    have hk2 := HK2.out.size
    have hk3 := HK3.out.size
    have hkc := HKC.out.size
    refine ⟨.tuple #[vo, .int .i64 0], by simp [results, Tryd.f15, go_sem], vo, rfl, ?_, ?_⟩
    · refine ownsRow_lo (ownsRow_keep HA.out.ow k (fun b hb hD => ?_)) (by omega)
      rcases HA.out.ow.2 with ⟨e, _⟩ | ⟨g', cap, cur, e, hb', hh, _⟩
      · rw [e] at hb; cases hb
      · rw [e] at hb
        cases hb
        rw [(HA.out.ds _ hD).2] at hh
        cases hh
    · exact ((HK3.out.trans HKC.out).trans' HA.out.k (fun i e => .inr (by omega))).trans' k (fun i e => .inr (by have := (HA.out.ds i e).1; omega))
end Go.Proofs.YtplkmbfeeegaiaaDoor
