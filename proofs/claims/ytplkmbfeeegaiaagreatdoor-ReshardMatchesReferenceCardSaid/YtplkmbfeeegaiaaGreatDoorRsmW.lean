/-
  ReshardMatchesReference: the walk.
-/
import Derived.Test.YtplkmbfeeegaiaaGreatDoorX6
import Derived.Test.YtplkmbfeeegaiaaGreatDoorX7
import Derived.Test.YtplkmbfeeegaiaaGreatDoorX3
import Derived.Deep.MidRow
namespace Go.Proofs.YtplkmbfeeegaiaaGreatDoor
open Go.RowKit Go.Shelf

/-- An array of four ints. -/
def Arr4 (W : World) (z : Nat) (x0 x1 x2 x3 : Int) : Prop := W.cell? ⟨z, 0, none⟩ = some (.int .i64 x0) ∧ W.cell? ⟨z, 1, none⟩ = some (.int .i64 x1) ∧ W.cell? ⟨z, 2, none⟩ = some (.int .i64 x2) ∧ W.cell? ⟨z, 3, none⟩ = some (.int .i64 x3)
theorem Arr4.kept {W W' : World} {z : Nat} {x0 x1 x2 x3 : Int} (h : Arr4 W z x0 x1 x2 x3) (k : Keep (fun _ => False) W W') : Arr4 W' z x0 x1 x2 x3 :=
  ⟨k.cell h.1 (fun h => h), k.cell h.2.1 (fun h => h), k.cell h.2.2.1 (fun h => h), k.cell h.2.2.2 (fun h => h)⟩
theorem Arr4.keep {W W' : World} {A : Nat → Prop} {z : Nat} {x0 x1 x2 x3 : Int} (h : Arr4 W z x0 x1 x2 x3) (k : Keep A W W') (hA : ¬ A z) : Arr4 W' z x0 x1 x2 x3 :=
  ⟨k.cell h.1 hA, k.cell h.2.1 hA, k.cell h.2.2.1 hA, k.cell h.2.2.2 hA⟩
theorem Arr4.its {W : World} {z : Nat} {x0 x1 x2 x3 : Int} (h : Arr4 W z x0 x1 x2 x3) (b0 : I64 x0) (b1 : I64 x1) (b2 : I64 x2) (b3 : I64 x3) : Its W (.slice (some ⟨z, 0, none⟩) 4 4) [x0, x1, x2, x3] := by
  refine ⟨by simp, fun x hx => ?_, some ⟨z, 0, none⟩, 4, z, 0, rfl, by simp, fun _ => rfl, fun j x hj => ?_⟩
  · simp only [List.mem_cons, List.not_mem_nil, or_false] at hx
    rcases hx with rfl | rfl | rfl | rfl <;> assumption
  · match j, hj with
    | 0, hj => cases hj; exact h.1
    | 1, hj => cases hj; exact h.2.1
    | 2, hj => cases hj; exact h.2.2.1
    | 3, hj => cases hj; exact h.2.2.2
    | (n + 4), hj => simp at hj
theorem Arr4.new (W : World) (x0 x1 x2 x3 : Int) (t : TypeId) : Arr4 (W.alloc (.cells #[.int .i64 x0, .int .i64 x1, .int .i64 x2, .int .i64 x3] t)) W.heap.size x0 x1 x2 x3 := by
  refine ⟨?_, ?_, ?_, ?_⟩ <;> simp
/-- A whole array of four is read. -/
theorem wpList_load4 {ops : Array Oper} {rest : List Oper} {op : Oper} {a : Act} {W : World} {Q : Exit → Act → World → Prop} {b off : Nat} {x0 x1 x2 x3 : Int} (x : Operand) (ho : op.op = .load 32 x) (hx : a.eval x = .pointer (some ⟨b, off, none⟩))
    (h0 : W.cell? ⟨b, off, none⟩ = some (.int .i64 x0)) (h1 : W.cell? ⟨b, off + 1, none⟩ = some (.int .i64 x1)) (h2 : W.cell? ⟨b, off + 2, none⟩ = some (.int .i64 x2)) (h3 : W.cell? ⟨b, off + 3, none⟩ = some (.int .i64 x3))
    (hw : Region.wanted op (yielded ops a.tmps) = true) (hk : wpList Tryz.prog ops Q rest (a.put op.dst (.agg #[.int .i64 x0, .int .i64 x1, .int .i64 x2, .int .i64 x3])) W) : wpList Tryz.prog ops Q (op :: rest) a W :=
  wpList_step fun K hK => by
    rw [if_pos hw]
    exact wp_load_mid 32 x ho b off hx [.int .i64 x0, .int .i64 x1, .int .i64 x2, .int .i64 x3] _ (fun j v hj => by
      match j, hj with
      | 0, hj => cases hj; exact h0
      | 1, hj => cases hj; exact h1
      | 2, hj => cases hj; exact h2
      | 3, hj => cases hj; exact h3
      | (n + 4), hj => simp at hj) Tryz.underlying32 rfl (by kernel_rfl) (hK _ _ hk)
/-- The blocks of a ring lie in memory. -/
theorem Rng.low' {W : World} {ep : Int} {a b : Option Addr} {n c m d : Nat} {l : List Mb} {ow : List Int} (h : Rng W (.agg #[.int .i64 ep, .slice a n c, .slice b m d]) ep l ow) (hl : 0 < l.length) (ho : 0 < ow.length) : (∀ j, (Value.slice a n c).ownBlock = some j → j < W.heap.size) ∧ ∀ j, (Value.slice b m d).ownBlock = some j → j < W.heap.size := by
  obtain ⟨vm, vo, e, h1, h2⟩ := h.at_
  cases e
  constructor
  · intro j hj
    obtain ⟨-, -, a', c', b', off, e, hc, ha, hcell⟩ := h1
    obtain ⟨rfl, rfl, rfl⟩ := Value.slice.inj e
    obtain rfl := ha hl
    cases hj
    exact World.block_lt_of_cell? _ _ (hcell 0 _ (List.getElem?_eq_getElem hl)).1
  · intro j hj
    obtain ⟨-, -, a', c', b', off, e, hc, ha, hcell⟩ := h2
    obtain ⟨rfl, rfl, rfl⟩ := Value.slice.inj e
    obtain rfl := ha ho
    cases hj
    exact World.block_lt_of_cell? _ _ (hcell 0 _ (List.getElem?_eq_getElem ho))
/-- What the free operations of the member's region answer. -/
def stpS (B : Nat) (x y r u : Int) (t : Nat) (v : Value) (W : World) : Prop :=
  (t = 46 → v = .int .i64 y) ∧ (t = 49 → v = .int .i64 r) ∧ (t = 50 → v = .int .i64 u) ∧ (t = 51 → v = mbV ⟨x, y, u⟩) ∧ (t = 11 → ∃ z, v = ptr z ∧ B ≤ z ∧ Box3 W z (.int .i64 0) (.int .i64 0) (.int .i64 0))
section
variable {B : Nat} {x y r u : Int} {v : Value} {W : World}
theorem stpS_46 (h : v = .int .i64 y) : stpS B x y r u 46 v W := ⟨fun _ => h, fun e => absurd e (by decide), fun e => absurd e (by decide), fun e => absurd e (by decide), fun e => absurd e (by decide)⟩
theorem stpS_49 (h : v = .int .i64 r) : stpS B x y r u 49 v W := ⟨fun e => absurd e (by decide), fun _ => h, fun e => absurd e (by decide), fun e => absurd e (by decide), fun e => absurd e (by decide)⟩
theorem stpS_50 (h : v = .int .i64 u) : stpS B x y r u 50 v W := ⟨fun e => absurd e (by decide), fun e => absurd e (by decide), fun _ => h, fun e => absurd e (by decide), fun e => absurd e (by decide)⟩
theorem stpS_51 (h : v = mbV ⟨x, y, u⟩) : stpS B x y r u 51 v W := ⟨fun e => absurd e (by decide), fun e => absurd e (by decide), fun e => absurd e (by decide), fun _ => h, fun e => absurd e (by decide)⟩
theorem stpS_11 (h : ∃ z, v = ptr z ∧ B ≤ z ∧ Box3 W z (.int .i64 0) (.int .i64 0) (.int .i64 0)) : stpS B x y r u 11 v W := ⟨fun e => absurd e (by decide), fun e => absurd e (by decide), fun e => absurd e (by decide), fun e => absurd e (by decide), fun _ => h⟩
end
theorem stpS_keep {B : Nat} {x y r u : Int} (t : Nat) (v : Value) (w w' : World) (h : stpS B x y r u t v w) (k : Keep (fun _ => False) w w') : stpS B x y r u t v w' := by
  obtain ⟨h1, h2, h3, h4, h5⟩ := h
  refine ⟨h1, h2, h3, h4, fun e => ?_⟩
  obtain ⟨z, q1, q2, q3⟩ := h5 e
  exact ⟨z, q1, q2, q3.kept k⟩

set_option maxRecDepth 100000 in
set_option maxHeartbeats 16000000 in
theorem match13_law (vx : Value) (xs : List Int) (vs : Value) (ns : Nat) (f : Nat → Nat → Int) (w : World) (hx : Its w vx xs) (hf : Fours w vs ns f) (hT : Tab w) : Calls Tryz.prog 3 #[vx, vs] w fun e w' => e = .returned (.bool true) ∧ Keep (fun _ => False) w w' := by
  have HX := Lib.hid hx
  have HT := Lib.hid hT
  have HVX := Lib.hid (mem13_vl xs)
  obtain ⟨hnb, hfb, va, vc, vb, vo, rfl, hvc, hva, hfc⟩ := hf
  have HVA := Lib.hid hva
  have HFB := Lib.hid hfb
  have HFC := Lib.hid hfc
  clear hx hT hva hfb hfc
  go_enter Tryz.func3, Tryz.ntmps3
  go_wp2_with fail
  with_reducible refine (sane13_any w HT.out).mono ?_
  rintro e W1 ⟨rfl, k1⟩
  have KV := Lib.hid k1
  clear k1
  go_wp2_with fail
  with_reducible refine (members_mbs _ xs (HX.out.kept KV.out)).mono ?_
  rintro e W2 ⟨a2, c2, rfl, hm, k2⟩
  replace KV := Lib.hid (KV.out.trans k2)
  have HM := Lib.hid hm
  clear hm k2
  generalize hlx : mem13 xs = lx at *
  clear hlx
  obtain ⟨nx, hnx⟩ : ∃ n, lx.length = n := ⟨_, rfl⟩
  have HOX := Lib.hid (ok_new PN QS HVX.out.1 (ep := 1) (by decide))
  have HNX := Lib.hid hnx
  rw [hnx] at HM ⊢
  go_wp2_with fail
  with_reducible refine (good_new _ lx HM.out HVX.out.1 (HT.out.kept KV.out)).mono ?_
  rintro e W3 ⟨am, cm, ao, co, rfl, hr, k⟩
  rw [hnx] at hr ⊢
  clear hnx HM
  generalize ownersL PN QS lx = ox at *
  have ka : Keep (fun _ => False) W3 (W3.alloc (.cells #[.int .i64 1, .slice am nx cm, .slice ao 64 co] 27)) := (Keep.refl _ W3).alloc _
  have HB6 := Lib.hid (Box3.new W3 (.int .i64 1) (.slice am nx cm) (.slice ao 64 co) 27)
  have HR6 := Lib.hid (hr.kept ka)
  have HLOW := Lib.hid (hr.low' (List.length_pos_iff.2 HVX.out.1.ne) (by rw [HOX.out.2.2.2.1]; decide))
  have HZW : Hid (w.heap.size ≤ W3.heap.size) := Lib.hid (by have := KV.out.size; have := k.size; omega)
  replace KV := Lib.hid (KV.out.trans (k.trans ka))
  clear hr k ka
  go_upto_region 3 with (fail)
  generalize W3.alloc (.cells #[.int .i64 1, .slice am nx cm, .slice ao 64 co] 27) = W9 at *
  generalize W3.heap.size = z6 at *
  have HZ6 := Lib.hid HB6.out.lt
  go_upto_region 5 with (fail)
  go_wp2_with fail
  obtain ⟨N, hN⟩ : ∃ N, min ns 8 = N := ⟨_, rfl⟩
  have HN := Lib.hid hN
  have hN8 : N ≤ 8 := by omega
  have hNm : N ≤ ns := by omega
  clear hN
  go_loopg [8] N (fun gh v8 wr => ∃ (k : Nat) (ep : Int) (l : List Mb) (o : List Int) (bm : Option Addr) (n cm' : Nat) (bo : Option Addr) (co' : Nat), gh + k = N ∧ v8 = .int .i64 k ∧ okRing ep l o ∧ l.length = n ∧ n ≤ 8 + k ∧ Box3 wr z6 (.int .i64 ep) (.slice bm n cm') (.slice bo 64 co') ∧ Rng wr (.agg #[.int .i64 ep, .slice bm n cm', .slice bo 64 co']) ep l o ∧ (∀ j, (Value.slice bm n cm').ownBlock = some j → j ≠ z6) ∧ (∀ j, (Value.slice bo 64 co').ownBlock = some j → j ≠ z6) ∧ Keep (fun j => j = z6) W9 wr)
  case atStart => exact ⟨0, 1, lx, ox, am, nx, cm, ao, co, by omega, rfl, HOX.out, HNX.out, by have := HVX.out.2; rw [← HNX.out]; omega, HB6.out, HR6.out, fun j hj => by have := HLOW.out.1 j hj; omega, fun j hj => by have := HLOW.out.2 j hj; omega, Keep.refl _ _⟩
  case round =>
    clear HB6 HR6 HLOW HOX HNX HVX HX
    obtain ⟨k, ep, l, ow, bm, n, cm', bo, co', hk, rfl, hok, hnl, hn8, hb6, hr6, hn1, hn2, hkeep⟩ := hrel
    have HOK := Lib.hid hok
    have HNL := Lib.hid hnl
    have HB6 := Lib.hid hb6
    have HR6 := Lib.hid hr6
    have HN1 := Lib.hid hn1
    have HN2 := Lib.hid hn2
    have HK := Lib.hid hkeep
    clear hok hnl hb6 hr6 hn1 hn2 hkeep
    have HKW : Hid (Keep (fun _ => False) w wr) := Lib.hid (KV.out.trans' HK.out (fun j e => .inr (by have h5 : j = z6 := e; have := HZW.out; omega)))
    have hk0 : (0 : Int) ≤ (k : Int) := by omega
    by_cases hlt : k < N
    · have hkm : (k : Int) < (ns : Int) := by omega
      have hk8 : (k : Int) < 8 := by omega
      have hva := HVA.out (by omega)
      subst hva
      have HC0 := Lib.hid (HKW.out.cell (HFC.out k 0 (by omega) (by decide)) (fun h => h))
      have HC1 := Lib.hid (HKW.out.cell (HFC.out k 1 (by omega) (by decide)) (fun h => h))
      have HC2 := Lib.hid (HKW.out.cell (HFC.out k 2 (by omega) (by decide)) (fun h => h))
      have HC3 := Lib.hid (HKW.out.cell (HFC.out k 3 (by omega) (by decide)) (fun h => h))
      have HY0 := Lib.hid (HFB.out k 0)
      have HY1 := Lib.hid (HFB.out k 1)
      have HY2 := Lib.hid (HFB.out k 2)
      have HY3 := Lib.hid (HFB.out k 3)
      generalize f k 0 = q0 at *
      generalize f k 1 = q1 at *
      generalize f k 2 = q2 at *
      generalize f k 3 = q3 at *
      go_upto_region 8 with (fail)
      go_wp2_with (refine wpList_load4 (.tmp 37) rfl rfl HC0.out HC1.out HC2.out HC3.out (by go_simp) ?_)
      have ka : Keep (fun _ => False) wr (wr.alloc (.cells #[.int .i64 q0, .int .i64 q1, .int .i64 q2, .int .i64 q3] 32)) := (Keep.refl _ wr).alloc _
      have HA9 := Lib.hid (Arr4.new wr q0 q1 q2 q3 32)
      have HB6a := Lib.hid (HB6.out.kept ka)
      have HR6a := Lib.hid (HR6.out.kept ka)
      have HLOR := Lib.hid (HR6.out.low' (List.length_pos_iff.2 HOK.out.2.2.1.ne) (by rw [HOK.out.2.2.2.1]; decide))
      have HZ6W := Lib.hid HB6.out.lt
      have HK1 := Lib.hid ka
      obtain ⟨z9, hz9⟩ : ∃ z, wr.heap.size = z := ⟨_, rfl⟩
      have HZ9 := Lib.hid hz9
      have HS1 : Hid (z9 < (wr.alloc (.cells #[.int .i64 q0, .int .i64 q1, .int .i64 q2, .int .i64 q3] 32)).heap.size) := Lib.hid (by rw [← hz9]; exact World.block_lt_of_cell? _ _ HA9.out.1)
      rw [hz9] at HA9 ⊢
      clear ka hz9 HB6 HR6 HC0 HC1 HC2 HC3
      generalize wr.alloc (.cells #[.int .i64 q0, .int .i64 q1, .int .i64 q2, .int .i64 q3] 32) = V1 at *
      with_reducible refine (pick13_any q1 26 _ HY1.out (by decide)).mono ?_
      rintro e W5 ⟨rfl, rfl⟩
      have hp1 := pk_bd q1 26 (by decide)
      generalize pk q1 26 = p1 at *
      go_upto_region 10 with (fail)
      have hp5 := pk_bd q2 5 (by decide)
      have hp4 := pk_bd q3 4 (by decide)
      have hw1 : IntKind.i64.wrap (1 + pk q3 4) = 1 + pk q3 4 := wrapI (by unfold I64; omega)
      have HW1 := Lib.hid hw1
      have HMI : Hid (I64 (p1 - 1) ∧ I64 (pk q2 5) ∧ I64 (1 + pk q3 4)) := Lib.hid (by unfold I64; omega)
      obtain ⟨x11, hx11⟩ : ∃ x, p1 - 1 = x := ⟨_, rfl⟩
      rw [hx11] at HMI ⊢
      clear hw1 hp5 hp4 hx11 hp1
      have r2 : ∀ p : KA (fun _ => False) V1, p.val.cell? ⟨z9, 2, none⟩ = some (.int .i64 q2) := fun p => p.k.cell HA9.out.2.2.1 (fun h => h)
      have r3 : ∀ p : KA (fun _ => False) V1, p.val.cell? ⟨z9, 3, none⟩ = some (.int .i64 q3) := fun p => p.k.cell HA9.out.2.2.2 (fun h => h)
      refine wp_region_free [0, 1, 2, 4, 5] [⟨3, 46, []⟩, ⟨6, 49, []⟩, ⟨7, 50, [49]⟩, ⟨8, 51, [46, 50]⟩, ⟨9, 11, []⟩] [(false, 10)] (inKA (fun _ => False) V1) (stpS V1.heap.size x11 (pk q2 5) (pk q3 4) (1 + pk q3 4)) (Keep (fun _ => False)) (by kernel_rfl) (by kernel_rfl) (inKA.of (Keep.refl _ V1).drew) stpS_keep (fun w w' hw hk => by obtain ⟨p, rfl⟩ := hw; exact inKA.of (p.k.trans hk)) ?_
      iterate 5 (refine headW_step rfl (fun K hK => ?_); go_simp; refine hK _ ?_; clear hK K)
      clear r2 r3
      refine ⟨?_, ?_, ?_⟩
      · intro h hh
        simp only [List.mem_cons, List.not_mem_nil, or_false] at hh
        rcases hh with rfl | rfl | rfl | rfl | rfl <;> simp
      · refine freeW_step rfl (fun vs W hC hS K hK => ?_) (freeW_step rfl (fun vs W hC hS K hK => ?_) (freeW_step rfl (fun vs W hC hS K hK => ?_) (freeW_step rfl (fun vs W hC hS K hK => ?_) (freeW_step rfl (fun vs W hC hS K hK => ?_) trivial))))
        · simp only [putL, List.foldl]
          have HP := Lib.hid (pick13_any q2 5 W HY2.out (by decide))
          go_simp
          refine HP.out.mono ?_
          rintro e W2 ⟨rfl, rfl⟩
          exact hK _ _ (stpS_46 rfl) (Keep.refl _ W)
        · simp only [putL, List.foldl]
          have HP := Lib.hid (pick13_any q3 4 W HY3.out (by decide))
          go_simp
          refine HP.out.mono ?_
          rintro e W2 ⟨rfl, rfl⟩
          exact hK _ _ (stpS_49 rfl) (Keep.refl _ W)
        · have e1 := (hS 49 (by simp)).2.1 rfl
          simp only [putL, List.foldl]
          generalize vs 49 = v49 at *
          subst e1
          have hw1 := HW1.out
          go_simp
          exact hK _ _ (stpS_50 rfl) (Keep.refl _ W)
        · have e1 := (hS 46 (by simp)).1 rfl
          have e2 := (hS 50 (by simp)).2.2.1 rfl
          simp only [putL, List.foldl]
          generalize vs 46 = v46 at *
          generalize vs 50 = v50 at *
          subst e1 e2
          go_simp
          exact hK _ _ (stpS_51 rfl) (Keep.refl _ W)
        · obtain ⟨p, rfl⟩ := hC
          simp only [putL, List.foldl]
          have hsz := p.k.size
          go_simp
          exact hK _ _ (stpS_11 ⟨p.val.heap.size, rfl, hsz, Box3.new _ _ _ _ _⟩) ((Keep.refl _ p.val).alloc _)
      · intro vs W hC hS
        obtain ⟨p, rfl⟩ := hC
        have e1 := (hS ⟨3, 46, []⟩ (by simp)).1 rfl
        have e2 := (hS ⟨6, 49, []⟩ (by simp)).2.1 rfl
        have e3 := (hS ⟨7, 50, [49]⟩ (by simp)).2.2.1 rfl
        have e4 := (hS ⟨8, 51, [46, 50]⟩ (by simp)).2.2.2.1 rfl
        obtain ⟨z11, e5, hz11, hb11⟩ := (hS ⟨9, 11, []⟩ (by simp)).2.2.2.2 rfl
        simp only [] at e1 e2 e3 e4 e5
        simp only [List.map, putL, List.foldl]
        generalize vs 46 = v46 at *
        generalize vs 49 = v49 at *
        generalize vs 50 = v50 at *
        generalize vs 51 = v51 at *
        generalize vs 11 = v11 at *
        subst e1 e2 e3 e4 e5
        have HKP := Lib.hid p.k
        have HBP := Lib.hid hb11
        have HZ11 := Lib.hid hz11
        clear hS hz11 hb11 HW1
        generalize p.val = V at *
        generalize pk q2 5 = x12 at *
        generalize pk q3 4 = x13 at *
        generalize 1 + x13 = x14 at *
        obtain ⟨u0, u1, u2, uf⟩ := HBP.out
        refine walkW_do rfl (inKA.of HKP.out) (fun K hK => ?_)
        go_simp
        refine hK _ _ ?_; clear hK K
        clear u0 u1 u2 uf
        have kq : Keep (fun j => j = z11) V (((V.setCell ⟨z11, 0, none⟩ (.int .i64 x11)).setCell ⟨z11, 1, none⟩ (.int .i64 x12)).setCell ⟨z11, 2, none⟩ (.int .i64 x14)) := (((Keep.refl (fun j => j = z11) V).setCell (p := ⟨z11, 0, none⟩) _ (.inl rfl)).setCell (p := ⟨z11, 1, none⟩) _ (.inl rfl)).setCell (p := ⟨z11, 2, none⟩) _ (.inl rfl)
        have HB11 := Lib.hid (((HBP.out.set0 (.int .i64 x11)).set1 (.int .i64 x12)).set2 (.int .i64 x14))
        have HKQ : Hid (Keep (fun _ => False) V1 (((V.setCell ⟨z11, 0, none⟩ (.int .i64 x11)).setCell ⟨z11, 1, none⟩ (.int .i64 x12)).setCell ⟨z11, 2, none⟩ (.int .i64 x14))) := Lib.hid (HKP.out.trans' kq (fun j e => .inr (by have h5 : j = z11 := e; have := HZ11.out; omega)))
        clear kq HBP HKP
        generalize ((V.setCell ⟨z11, 0, none⟩ (.int .i64 x11)).setCell ⟨z11, 1, none⟩ (.int .i64 x12)).setCell ⟨z11, 2, none⟩ (.int .i64 x14) = V5 at *
        refine ⟨inKA.of HKQ.out, ?_⟩
        have HK5 := Lib.hid (HK1.out.trans HKQ.out)
        have HA9b := Lib.hid (HA9.out.kept HKQ.out)
        have HB6b := Lib.hid (HB6a.out.kept HKQ.out)
        have HR6b := Lib.hid (HR6a.out.kept HKQ.out)
        clear HA9 HB6a HR6a HKQ HK1
        obtain ⟨x0, x1, x2, -⟩ := HB6b.out
        go_upto_region 12 with (fail)
        clear x0 x1 x2
        have ka : Keep (fun _ => False) V5 (V5.alloc (.cells #[.int .i64 ep, .slice bm n cm', .slice bo 64 co'] 27)) := (Keep.refl _ V5).alloc _
        have HB12a := Lib.hid (Box3.new V5 (.int .i64 ep) (.slice bm n cm') (.slice bo 64 co') 27)
        have HA9c := Lib.hid (HA9b.out.kept ka)
        have HB6c := Lib.hid (HB6b.out.kept ka)
        have HR6c := Lib.hid (HR6b.out.kept ka)
        have HB11c := Lib.hid (HB11.out.kept ka)
        have HK6 := Lib.hid (HK5.out.trans ka)
        have HZ12a : Hid (z6 < V5.heap.size ∧ z9 < V5.heap.size ∧ z11 < V5.heap.size ∧ wr.heap.size ≤ V5.heap.size) := Lib.hid ⟨HB6b.out.lt, World.block_lt_of_cell? _ _ HA9b.out.1, HB11.out.lt, HK5.out.size⟩
        clear ka HA9b HB6b HR6b HB11 HK5
        generalize V5.alloc (.cells #[.int .i64 ep, .slice bm n cm', .slice bo 64 co'] 27) = V6 at *
        generalize V5.heap.size = z12 at *
        obtain ⟨x0, x1, x2, -⟩ := HB6c.out
        go_upto_region 13 with (fail)
        clear x0 x1 x2
        have ka : Keep (fun _ => False) V6 (V6.alloc (.cells #[.int .i64 ep, .slice bm n cm', .slice bo 64 co'] 27)) := (Keep.refl _ V6).alloc _
        have HB13 := Lib.hid (Box3.new V6 (.int .i64 ep) (.slice bm n cm') (.slice bo 64 co') 27)
        have HB12 := Lib.hid (HB12a.out.kept ka)
        have HA9 := Lib.hid (HA9c.out.kept ka)
        have HB6 := Lib.hid (HB6c.out.kept ka)
        have HR6 := Lib.hid (HR6c.out.kept ka)
        have HB11 := Lib.hid (HB11c.out.kept ka)
        have HK7 := Lib.hid (HK6.out.trans ka)
        have HZ13 : Hid (z12 < V6.heap.size) := Lib.hid HB12a.out.lt
        clear ka HA9c HB6c HR6c HB11c HB12a HK6
        generalize V6.alloc (.cells #[.int .i64 ep, .slice bm n cm', .slice bo 64 co'] 27) = V7 at *
        generalize V6.heap.size = z13 at *
        have HZ7 : Hid (z13 < V7.heap.size) := Lib.hid HB13.out.lt
        have HT7 := Lib.hid (HT.out.kept (HKW.out.trans HK7.out))
        go_upto_region 15 with (fail)
        obtain ⟨y0, y1, y2, y3⟩ := HA9.out
        go_wp2_with fail
        with_reducible refine (pick13_any q0 4 _ HY0.out (by decide)).mono ?_
        rintro e W5 ⟨rfl, rfl⟩
        clear y0 y1 y2 y3
        have hp0 := pk_bd q0 4 (by decide)
        generalize pk q0 4 = p0 at *
        have HNB : Hid (l.length ≤ 8 + k) := Lib.hid (by rw [HNL.out]; exact hn8)
        have HK18 : Hid (8 + k ≤ 18) := Lib.hid (by omega)
        rcases (by omega : p0 = 0 ∨ p0 = 1 ∨ p0 = 2 ∨ p0 = 3) with rfl | rfl | rfl | rfl
        · obtain ⟨E, L, O, err, hso, hst⟩ := step_join ep l ow ⟨x11, x12, x14⟩ (8 + k) HOK.out HNB.out HK18.out HMI.out
          have HSO := Lib.hid hso
          have HST := Lib.hid hst
          clear hso hst
          obtain ⟨nl, hnl⟩ : ∃ q, L.length = q := ⟨_, rfl⟩
          obtain ⟨no, hno⟩ : ∃ q, O.length = q := ⟨_, rfl⟩
          have HLL := Lib.hid hnl
          have HOL := Lib.hid hno
          clear hnl hno
          have HC := Lib.hid (HST.out _ V7 HR6.out HT7.out).1
          obtain ⟨x0, x1, x2, -⟩ := HB6.out
          obtain ⟨m0, m1, m2, -⟩ := HB11.out
          go_wp2_with fail
          clear x0 x1 x2 m0 m1 m2
          with_reducible refine HC.out.mono ?_
          clear HC
          rintro e U1 ⟨a1, c1, b1, d1, rfl, hr, hf, kk⟩
          rw [HLL.out, HOL.out] at hr hf ⊢
          have HBS : Hid (V7.heap.size ≤ V7.heap.size) := Lib.hid (Nat.le_refl _)
          have HB12u := Lib.hid (HB12.out.kept kk)
          have HB13u := Lib.hid (HB13.out.kept kk)
          have HB6u := Lib.hid (HB6.out.kept kk)
          have HR6u := Lib.hid (HR6.out.kept kk)
          have HB11u := Lib.hid (HB11.out.kept kk)
          have HA9u := Lib.hid (HA9.out.kept kk)
          have HKu := Lib.hid (HK7.out.trans kk)
          have HFu := Lib.hid hf
          have HRu := Lib.hid hr
          have HSu : Hid (V7.heap.size ≤ U1.heap.size) := Lib.hid kk.size
          clear kk hf hr
          obtain ⟨u0, u1, u2, uf⟩ := HB12u.out
          go_upto_region 20 with (fail)
          clear u0 u1 u2 uf
          have kq : Keep (fun j => j = z12) U1 (((U1.setCell ⟨z12, 0, none⟩ (.int .i64 E)).setCell ⟨z12, 1, none⟩ (.slice a1 nl c1)).setCell ⟨z12, 2, none⟩ (.slice b1 no d1)) := (((Keep.refl (fun j => j = z12) U1).setCell (p := ⟨z12, 0, none⟩) _ (.inl rfl)).setCell (p := ⟨z12, 1, none⟩) _ (.inl rfl)).setCell (p := ⟨z12, 2, none⟩) _ (.inl rfl)
          have HB12f := Lib.hid (((HB12u.out.set0 (.int .i64 E)).set1 (.slice a1 nl c1)).set2 (.slice b1 no d1))
          have HB13f := Lib.hid (HB13u.out.keep kq (fun e => by have h6 := HZ12a.out; have h7 := HZ13.out; have h8 := HZ7.out; have h5 : z13 = z12 := e; omega))
          have HB6f := Lib.hid (HB6u.out.keep kq (fun e => by have h6 := HZ12a.out; have h7 := HZ13.out; have h8 := HZ7.out; have h5 : z6 = z12 := e; omega))
          have HB11f := Lib.hid (HB11u.out.keep kq (fun e => by have h6 := HZ12a.out; have h7 := HZ13.out; have h8 := HZ7.out; have h5 : z11 = z12 := e; omega))
          have HA9f := Lib.hid (HA9u.out.keep kq (fun e => by have h6 := HZ12a.out; have h7 := HZ13.out; have h8 := HZ7.out; have h5 : z9 = z12 := e; omega))
          have HR6f := Lib.hid (HR6u.out.keep kq (fun j hj e => by have h6 := HZ12a.out; have h7 := HZ13.out; have h8 := HZ7.out; have h5 : j = z12 := e; have := HLOR.out.1 j hj; omega) (fun j hj e => by have h6 := HZ12a.out; have h7 := HZ13.out; have h8 := HZ7.out; have h5 : j = z12 := e; have := HLOR.out.2 j hj; omega))
          have HR1 := Lib.hid (HRu.out.keep kq (fun j hj e => by have h6 := HZ12a.out; have h7 := HZ13.out; have h8 := HZ7.out; have h5 : j = z12 := e; have := HFu.out.1 j hj; have := HBS.out; omega) (fun j hj e => by have h6 := HZ12a.out; have h7 := HZ13.out; have h8 := HZ7.out; have h5 : j = z12 := e; have := HFu.out.2 j hj; have := HBS.out; omega))
          have HK7f := Lib.hid (HKu.out.trans' kq (fun j e => .inr (by have h6 := HZ12a.out; have h7 := HZ13.out; have h8 := HZ7.out; have h5 : j = z12 := e; omega)))
          have HS1 : Hid (V7.heap.size ≤ (((U1.setCell ⟨z12, 0, none⟩ (.int .i64 E)).setCell ⟨z12, 1, none⟩ (.slice a1 nl c1)).setCell ⟨z12, 2, none⟩ (.slice b1 no d1)).heap.size) := Lib.hid (Nat.le_trans HSu.out kq.size)
          have HF1 := Lib.hid HFu.out
          clear kq HB12u HB13u HB6u HR6u HB11u HA9u HKu HRu HSu HFu
          generalize (((U1.setCell ⟨z12, 0, none⟩ (.int .i64 E)).setCell ⟨z12, 1, none⟩ (.slice a1 nl c1)).setCell ⟨z12, 2, none⟩ (.slice b1 no d1)) = U2 at *
          clear HBS
          have HC := Lib.hid (HST.out _ U2 HR6f.out (HT.out.kept (HKW.out.trans HK7f.out))).2
          obtain ⟨x0, x1, x2, -⟩ := HB6f.out
          obtain ⟨m0, m1, m2, -⟩ := HB11f.out
          go_wp2_with fail
          clear x0 x1 x2 m0 m1 m2
          with_reducible refine HC.out.mono ?_
          clear HC
          rintro e U3 ⟨a2, c2, b2, d2, rfl, hr, hf, kk⟩
          rw [HLL.out, HOL.out] at hr hf ⊢
          have HBS : Hid (V7.heap.size ≤ U2.heap.size) := Lib.hid (HS1.out)
          have HB12u := Lib.hid (HB12f.out.kept kk)
          have HB13u := Lib.hid (HB13f.out.kept kk)
          have HB6u := Lib.hid (HB6f.out.kept kk)
          have HR6u := Lib.hid (HR6f.out.kept kk)
          have HB11u := Lib.hid (HB11f.out.kept kk)
          have HA9u := Lib.hid (HA9f.out.kept kk)
          have HKu := Lib.hid (HK7f.out.trans kk)
          have HFu := Lib.hid hf
          have HRu := Lib.hid hr
          have HSu : Hid (U2.heap.size ≤ U3.heap.size) := Lib.hid kk.size
          have HR1u := Lib.hid (HR1.out.kept kk)
          clear kk hf hr
          obtain ⟨u0, u1, u2, uf⟩ := HB13u.out
          go_upto_region 27 with (fail)
          clear u0 u1 u2 uf
          have kq : Keep (fun j => j = z13) U3 (((U3.setCell ⟨z13, 0, none⟩ (.int .i64 E)).setCell ⟨z13, 1, none⟩ (.slice a2 nl c2)).setCell ⟨z13, 2, none⟩ (.slice b2 no d2)) := (((Keep.refl (fun j => j = z13) U3).setCell (p := ⟨z13, 0, none⟩) _ (.inl rfl)).setCell (p := ⟨z13, 1, none⟩) _ (.inl rfl)).setCell (p := ⟨z13, 2, none⟩) _ (.inl rfl)
          have HB13g := Lib.hid (((HB13u.out.set0 (.int .i64 E)).set1 (.slice a2 nl c2)).set2 (.slice b2 no d2))
          have HB12g := Lib.hid (HB12u.out.keep kq (fun e => by have h6 := HZ12a.out; have h7 := HZ13.out; have h8 := HZ7.out; have h5 : z12 = z13 := e; omega))
          have HB6g := Lib.hid (HB6u.out.keep kq (fun e => by have h6 := HZ12a.out; have h7 := HZ13.out; have h8 := HZ7.out; have h5 : z6 = z13 := e; omega))
          have HB11g := Lib.hid (HB11u.out.keep kq (fun e => by have h6 := HZ12a.out; have h7 := HZ13.out; have h8 := HZ7.out; have h5 : z11 = z13 := e; omega))
          have HA9g := Lib.hid (HA9u.out.keep kq (fun e => by have h6 := HZ12a.out; have h7 := HZ13.out; have h8 := HZ7.out; have h5 : z9 = z13 := e; omega))
          have HR6g := Lib.hid (HR6u.out.keep kq (fun j hj e => by have h6 := HZ12a.out; have h7 := HZ13.out; have h8 := HZ7.out; have h5 : j = z13 := e; have := HLOR.out.1 j hj; omega) (fun j hj e => by have h6 := HZ12a.out; have h7 := HZ13.out; have h8 := HZ7.out; have h5 : j = z13 := e; have := HLOR.out.2 j hj; omega))
          have HR2 := Lib.hid (HRu.out.keep kq (fun j hj e => by have h6 := HZ12a.out; have h7 := HZ13.out; have h8 := HZ7.out; have h5 : j = z13 := e; have := HFu.out.1 j hj; have := HBS.out; omega) (fun j hj e => by have h6 := HZ12a.out; have h7 := HZ13.out; have h8 := HZ7.out; have h5 : j = z13 := e; have := HFu.out.2 j hj; have := HBS.out; omega))
          have HK7g := Lib.hid (HKu.out.trans' kq (fun j e => .inr (by have h6 := HZ12a.out; have h7 := HZ13.out; have h8 := HZ7.out; have h5 : j = z13 := e; omega)))
          have HR1g := Lib.hid (HR1u.out.keep kq (fun j hj e => by have h6 := HZ12a.out; have h7 := HZ13.out; have h8 := HZ7.out; have h5 : j = z13 := e; have := HF1.out.1 j hj; omega) (fun j hj e => by have h6 := HZ12a.out; have h7 := HZ13.out; have h8 := HZ7.out; have h5 : j = z13 := e; have := HF1.out.2 j hj; omega))
          have HS2 : Hid (U2.heap.size ≤ (((U3.setCell ⟨z13, 0, none⟩ (.int .i64 E)).setCell ⟨z13, 1, none⟩ (.slice a2 nl c2)).setCell ⟨z13, 2, none⟩ (.slice b2 no d2)).heap.size) := Lib.hid (Nat.le_trans HSu.out kq.size)
          clear kq HB12u HB13u HB6u HR6u HB11u HA9u HKu HRu HSu HR1u HR1 HFu
          generalize (((U3.setCell ⟨z13, 0, none⟩ (.int .i64 E)).setCell ⟨z13, 1, none⟩ (.slice a2 nl c2)).setCell ⟨z13, 2, none⟩ (.slice b2 no d2)) = U4 at *
          clear HBS
          rcases HSO.out with ⟨he0, hok2, hE2, hL2⟩ | he0
          · subst he0
            have HOK2 := Lib.hid hok2
            have HNN := Lib.hid hL2
            clear hok2 hE2 hL2
            obtain ⟨x0, x1, x2, -⟩ := HB12g.out
            obtain ⟨m0, m1, m2, -⟩ := HB13g.out
            have HSC := Lib.hid (refSame_any _ _ E E L L O O _ HR1g.out HR2.out)
            rw [decide_eq_true (rfl : E = E), decide_eq_true (rfl : L = L), decide_eq_true (rfl : O = O)] at HSC
            go_wp2_with fail
            clear x0 x1 x2 m0 m1 m2
            with_reducible refine HSC.out.mono ?_
            rintro e U5 ⟨rfl, kk⟩
            have HO64 : Hid (no = 64) := Lib.hid (by rw [← HOL.out]; exact HOK2.out.2.2.2.1)
            have hno := HO64.out
            subst hno
            have HB12h := Lib.hid (HB12g.out.kept kk)
            have HB6h := Lib.hid (HB6g.out.kept kk)
            have HR1h := Lib.hid (HR1g.out.kept kk)
            have HKh := Lib.hid (HK7g.out.trans kk)
            clear kk HSC
            obtain ⟨x0, x1, x2, -⟩ := HB12h.out
            obtain ⟨m0, m1, m2, mf⟩ := HB6h.out
            go_upto_region 7 with (fail)
            clear x0 x1 x2 m0 m1 m2 mf
            have kq : Keep (fun j => j = z6) U5 (((U5.setCell ⟨z6, 0, none⟩ (.int .i64 E)).setCell ⟨z6, 1, none⟩ (.slice a1 nl c1)).setCell ⟨z6, 2, none⟩ (.slice b1 64 d1)) := (((Keep.refl (fun j => j = z6) U5).setCell (p := ⟨z6, 0, none⟩) _ (.inl rfl)).setCell (p := ⟨z6, 1, none⟩) _ (.inl rfl)).setCell (p := ⟨z6, 2, none⟩) _ (.inl rfl)
            have HB6n := Lib.hid (((HB6h.out.set0 (.int .i64 E)).set1 (.slice a1 nl c1)).set2 (.slice b1 64 d1))
            have HG1 : Hid (∀ j, (Value.slice a1 nl c1).ownBlock = some j → j ≠ z6) := Lib.hid (fun j hj e => by have := HF1.out.1 j hj; have h6 := HZ12a.out; have h7 := HZ13.out; have h8 := HZ7.out; omega)
            have HG2 : Hid (∀ j, (Value.slice b1 64 d1).ownBlock = some j → j ≠ z6) := Lib.hid (fun j hj e => by have := HF1.out.2 j hj; have h6 := HZ12a.out; have h7 := HZ13.out; have h8 := HZ7.out; omega)
            have HR6n := Lib.hid (HR1h.out.keep kq (fun j hj e => HG1.out j hj e) (fun j hj e => HG2.out j hj e))
            have HKN := Lib.hid ((HK.out.trans (HKh.out.mono (fun _ h => h.elim))).trans kq)
            clear kq
            generalize (((U5.setCell ⟨z6, 0, none⟩ (.int .i64 E)).setCell ⟨z6, 1, none⟩ (.slice a1 nl c1)).setCell ⟨z6, 2, none⟩ (.slice b1 64 d1)) = U6 at *
            go_wp2_with fail
            go_roundg (N - (k + 1))
            case rel => exact ⟨k + 1, E, L, O, a1, nl, c1, b1, d1, by omega, by go_num, HOK2.out, HLL.out, by rw [← HLL.out]; have := HNN.out; omega, HB6n.out, HR6n.out, HG1.out, HG2.out, HKN.out⟩
            case measure => omega
          · subst he0
            obtain ⟨x0, x1, x2, -⟩ := HB12g.out
            obtain ⟨m0, m1, m2, -⟩ := HB13g.out
            have HSC := Lib.hid (refSame_any _ _ E E L L O O _ HR1g.out HR2.out)
            rw [decide_eq_true (rfl : E = E), decide_eq_true (rfl : L = L), decide_eq_true (rfl : O = O)] at HSC
            go_wp2_with fail
            clear x0 x1 x2 m0 m1 m2
            with_reducible refine HSC.out.mono ?_
            rintro e U5 ⟨rfl, kk⟩
            have HB6n := Lib.hid (HB6g.out.kept kk)
            have HR6n := Lib.hid (HR6g.out.kept kk)
            have HKN := Lib.hid (HK.out.trans ((HK7g.out.trans kk).mono (fun _ h => h.elim)))
            clear kk HSC
            go_wp2_with fail
            go_roundg (N - (k + 1))
            case rel => exact ⟨k + 1, ep, l, ow, bm, n, cm', bo, co', by omega, by go_num, HOK.out, HNL.out, by omega, HB6n.out, HR6n.out, HN1.out, HN2.out, HKN.out⟩
            case measure => omega
        · obtain ⟨E, L, O, err, hso, hst⟩ := step_leave ep l ow x11 (8 + k) HNB.out HK18.out
          have HSO := Lib.hid hso
          have HST := Lib.hid hst
          clear hso hst
          obtain ⟨nl, hnl⟩ : ∃ q, L.length = q := ⟨_, rfl⟩
          obtain ⟨no, hno⟩ : ∃ q, O.length = q := ⟨_, rfl⟩
          have HLL := Lib.hid hnl
          have HOL := Lib.hid hno
          clear hnl hno
          have HC := Lib.hid (HST.out _ V7 HR6.out HT7.out).1
          obtain ⟨x0, x1, x2, -⟩ := HB6.out
          go_wp2_with fail
          clear x0 x1 x2
          with_reducible refine HC.out.mono ?_
          clear HC
          rintro e U1 ⟨a1, c1, b1, d1, rfl, hr, hf, kk⟩
          rw [HLL.out, HOL.out] at hr hf ⊢
          have HBS : Hid (V7.heap.size ≤ V7.heap.size) := Lib.hid (Nat.le_refl _)
          have HB12u := Lib.hid (HB12.out.kept kk)
          have HB13u := Lib.hid (HB13.out.kept kk)
          have HB6u := Lib.hid (HB6.out.kept kk)
          have HR6u := Lib.hid (HR6.out.kept kk)
          have HB11u := Lib.hid (HB11.out.kept kk)
          have HA9u := Lib.hid (HA9.out.kept kk)
          have HKu := Lib.hid (HK7.out.trans kk)
          have HFu := Lib.hid hf
          have HRu := Lib.hid hr
          have HSu : Hid (V7.heap.size ≤ U1.heap.size) := Lib.hid kk.size
          clear kk hf hr
          obtain ⟨u0, u1, u2, uf⟩ := HB12u.out
          go_upto_region 23 with (fail)
          clear u0 u1 u2 uf
          have kq : Keep (fun j => j = z12) U1 (((U1.setCell ⟨z12, 0, none⟩ (.int .i64 E)).setCell ⟨z12, 1, none⟩ (.slice a1 nl c1)).setCell ⟨z12, 2, none⟩ (.slice b1 no d1)) := (((Keep.refl (fun j => j = z12) U1).setCell (p := ⟨z12, 0, none⟩) _ (.inl rfl)).setCell (p := ⟨z12, 1, none⟩) _ (.inl rfl)).setCell (p := ⟨z12, 2, none⟩) _ (.inl rfl)
          have HB12f := Lib.hid (((HB12u.out.set0 (.int .i64 E)).set1 (.slice a1 nl c1)).set2 (.slice b1 no d1))
          have HB13f := Lib.hid (HB13u.out.keep kq (fun e => by have h6 := HZ12a.out; have h7 := HZ13.out; have h8 := HZ7.out; have h5 : z13 = z12 := e; omega))
          have HB6f := Lib.hid (HB6u.out.keep kq (fun e => by have h6 := HZ12a.out; have h7 := HZ13.out; have h8 := HZ7.out; have h5 : z6 = z12 := e; omega))
          have HB11f := Lib.hid (HB11u.out.keep kq (fun e => by have h6 := HZ12a.out; have h7 := HZ13.out; have h8 := HZ7.out; have h5 : z11 = z12 := e; omega))
          have HA9f := Lib.hid (HA9u.out.keep kq (fun e => by have h6 := HZ12a.out; have h7 := HZ13.out; have h8 := HZ7.out; have h5 : z9 = z12 := e; omega))
          have HR6f := Lib.hid (HR6u.out.keep kq (fun j hj e => by have h6 := HZ12a.out; have h7 := HZ13.out; have h8 := HZ7.out; have h5 : j = z12 := e; have := HLOR.out.1 j hj; omega) (fun j hj e => by have h6 := HZ12a.out; have h7 := HZ13.out; have h8 := HZ7.out; have h5 : j = z12 := e; have := HLOR.out.2 j hj; omega))
          have HR1 := Lib.hid (HRu.out.keep kq (fun j hj e => by have h6 := HZ12a.out; have h7 := HZ13.out; have h8 := HZ7.out; have h5 : j = z12 := e; have := HFu.out.1 j hj; have := HBS.out; omega) (fun j hj e => by have h6 := HZ12a.out; have h7 := HZ13.out; have h8 := HZ7.out; have h5 : j = z12 := e; have := HFu.out.2 j hj; have := HBS.out; omega))
          have HK7f := Lib.hid (HKu.out.trans' kq (fun j e => .inr (by have h6 := HZ12a.out; have h7 := HZ13.out; have h8 := HZ7.out; have h5 : j = z12 := e; omega)))
          have HS1 : Hid (V7.heap.size ≤ (((U1.setCell ⟨z12, 0, none⟩ (.int .i64 E)).setCell ⟨z12, 1, none⟩ (.slice a1 nl c1)).setCell ⟨z12, 2, none⟩ (.slice b1 no d1)).heap.size) := Lib.hid (Nat.le_trans HSu.out kq.size)
          have HF1 := Lib.hid HFu.out
          clear kq HB12u HB13u HB6u HR6u HB11u HA9u HKu HRu HSu HFu
          generalize (((U1.setCell ⟨z12, 0, none⟩ (.int .i64 E)).setCell ⟨z12, 1, none⟩ (.slice a1 nl c1)).setCell ⟨z12, 2, none⟩ (.slice b1 no d1)) = U2 at *
          clear HBS
          have HC := Lib.hid (HST.out _ U2 HR6f.out (HT.out.kept (HKW.out.trans HK7f.out))).2
          obtain ⟨x0, x1, x2, -⟩ := HB6f.out
          go_wp2_with fail
          clear x0 x1 x2
          with_reducible refine HC.out.mono ?_
          clear HC
          rintro e U3 ⟨a2, c2, b2, d2, rfl, hr, hf, kk⟩
          rw [HLL.out, HOL.out] at hr hf ⊢
          have HBS : Hid (V7.heap.size ≤ U2.heap.size) := Lib.hid (HS1.out)
          have HB12u := Lib.hid (HB12f.out.kept kk)
          have HB13u := Lib.hid (HB13f.out.kept kk)
          have HB6u := Lib.hid (HB6f.out.kept kk)
          have HR6u := Lib.hid (HR6f.out.kept kk)
          have HB11u := Lib.hid (HB11f.out.kept kk)
          have HA9u := Lib.hid (HA9f.out.kept kk)
          have HKu := Lib.hid (HK7f.out.trans kk)
          have HFu := Lib.hid hf
          have HRu := Lib.hid hr
          have HSu : Hid (U2.heap.size ≤ U3.heap.size) := Lib.hid kk.size
          have HR1u := Lib.hid (HR1.out.kept kk)
          clear kk hf hr
          obtain ⟨u0, u1, u2, uf⟩ := HB13u.out
          go_upto_region 27 with (fail)
          clear u0 u1 u2 uf
          have kq : Keep (fun j => j = z13) U3 (((U3.setCell ⟨z13, 0, none⟩ (.int .i64 E)).setCell ⟨z13, 1, none⟩ (.slice a2 nl c2)).setCell ⟨z13, 2, none⟩ (.slice b2 no d2)) := (((Keep.refl (fun j => j = z13) U3).setCell (p := ⟨z13, 0, none⟩) _ (.inl rfl)).setCell (p := ⟨z13, 1, none⟩) _ (.inl rfl)).setCell (p := ⟨z13, 2, none⟩) _ (.inl rfl)
          have HB13g := Lib.hid (((HB13u.out.set0 (.int .i64 E)).set1 (.slice a2 nl c2)).set2 (.slice b2 no d2))
          have HB12g := Lib.hid (HB12u.out.keep kq (fun e => by have h6 := HZ12a.out; have h7 := HZ13.out; have h8 := HZ7.out; have h5 : z12 = z13 := e; omega))
          have HB6g := Lib.hid (HB6u.out.keep kq (fun e => by have h6 := HZ12a.out; have h7 := HZ13.out; have h8 := HZ7.out; have h5 : z6 = z13 := e; omega))
          have HB11g := Lib.hid (HB11u.out.keep kq (fun e => by have h6 := HZ12a.out; have h7 := HZ13.out; have h8 := HZ7.out; have h5 : z11 = z13 := e; omega))
          have HA9g := Lib.hid (HA9u.out.keep kq (fun e => by have h6 := HZ12a.out; have h7 := HZ13.out; have h8 := HZ7.out; have h5 : z9 = z13 := e; omega))
          have HR6g := Lib.hid (HR6u.out.keep kq (fun j hj e => by have h6 := HZ12a.out; have h7 := HZ13.out; have h8 := HZ7.out; have h5 : j = z13 := e; have := HLOR.out.1 j hj; omega) (fun j hj e => by have h6 := HZ12a.out; have h7 := HZ13.out; have h8 := HZ7.out; have h5 : j = z13 := e; have := HLOR.out.2 j hj; omega))
          have HR2 := Lib.hid (HRu.out.keep kq (fun j hj e => by have h6 := HZ12a.out; have h7 := HZ13.out; have h8 := HZ7.out; have h5 : j = z13 := e; have := HFu.out.1 j hj; have := HBS.out; omega) (fun j hj e => by have h6 := HZ12a.out; have h7 := HZ13.out; have h8 := HZ7.out; have h5 : j = z13 := e; have := HFu.out.2 j hj; have := HBS.out; omega))
          have HK7g := Lib.hid (HKu.out.trans' kq (fun j e => .inr (by have h6 := HZ12a.out; have h7 := HZ13.out; have h8 := HZ7.out; have h5 : j = z13 := e; omega)))
          have HR1g := Lib.hid (HR1u.out.keep kq (fun j hj e => by have h6 := HZ12a.out; have h7 := HZ13.out; have h8 := HZ7.out; have h5 : j = z13 := e; have := HF1.out.1 j hj; omega) (fun j hj e => by have h6 := HZ12a.out; have h7 := HZ13.out; have h8 := HZ7.out; have h5 : j = z13 := e; have := HF1.out.2 j hj; omega))
          have HS2 : Hid (U2.heap.size ≤ (((U3.setCell ⟨z13, 0, none⟩ (.int .i64 E)).setCell ⟨z13, 1, none⟩ (.slice a2 nl c2)).setCell ⟨z13, 2, none⟩ (.slice b2 no d2)).heap.size) := Lib.hid (Nat.le_trans HSu.out kq.size)
          clear kq HB12u HB13u HB6u HR6u HB11u HA9u HKu HRu HSu HR1u HR1 HFu
          generalize (((U3.setCell ⟨z13, 0, none⟩ (.int .i64 E)).setCell ⟨z13, 1, none⟩ (.slice a2 nl c2)).setCell ⟨z13, 2, none⟩ (.slice b2 no d2)) = U4 at *
          clear HBS
          rcases HSO.out with ⟨he0, hok2, hE2, hL2⟩ | he0
          · subst he0
            have HOK2 := Lib.hid hok2
            have HNN := Lib.hid hL2
            clear hok2 hE2 hL2
            obtain ⟨x0, x1, x2, -⟩ := HB12g.out
            obtain ⟨m0, m1, m2, -⟩ := HB13g.out
            have HSC := Lib.hid (refSame_any _ _ E E L L O O _ HR1g.out HR2.out)
            rw [decide_eq_true (rfl : E = E), decide_eq_true (rfl : L = L), decide_eq_true (rfl : O = O)] at HSC
            go_wp2_with fail
            clear x0 x1 x2 m0 m1 m2
            with_reducible refine HSC.out.mono ?_
            rintro e U5 ⟨rfl, kk⟩
            have HO64 : Hid (no = 64) := Lib.hid (by rw [← HOL.out]; exact HOK2.out.2.2.2.1)
            have hno := HO64.out
            subst hno
            have HB12h := Lib.hid (HB12g.out.kept kk)
            have HB6h := Lib.hid (HB6g.out.kept kk)
            have HR1h := Lib.hid (HR1g.out.kept kk)
            have HKh := Lib.hid (HK7g.out.trans kk)
            clear kk HSC
            obtain ⟨x0, x1, x2, -⟩ := HB12h.out
            obtain ⟨m0, m1, m2, mf⟩ := HB6h.out
            go_upto_region 7 with (fail)
            clear x0 x1 x2 m0 m1 m2 mf
            have kq : Keep (fun j => j = z6) U5 (((U5.setCell ⟨z6, 0, none⟩ (.int .i64 E)).setCell ⟨z6, 1, none⟩ (.slice a1 nl c1)).setCell ⟨z6, 2, none⟩ (.slice b1 64 d1)) := (((Keep.refl (fun j => j = z6) U5).setCell (p := ⟨z6, 0, none⟩) _ (.inl rfl)).setCell (p := ⟨z6, 1, none⟩) _ (.inl rfl)).setCell (p := ⟨z6, 2, none⟩) _ (.inl rfl)
            have HB6n := Lib.hid (((HB6h.out.set0 (.int .i64 E)).set1 (.slice a1 nl c1)).set2 (.slice b1 64 d1))
            have HG1 : Hid (∀ j, (Value.slice a1 nl c1).ownBlock = some j → j ≠ z6) := Lib.hid (fun j hj e => by have := HF1.out.1 j hj; have h6 := HZ12a.out; have h7 := HZ13.out; have h8 := HZ7.out; omega)
            have HG2 : Hid (∀ j, (Value.slice b1 64 d1).ownBlock = some j → j ≠ z6) := Lib.hid (fun j hj e => by have := HF1.out.2 j hj; have h6 := HZ12a.out; have h7 := HZ13.out; have h8 := HZ7.out; omega)
            have HR6n := Lib.hid (HR1h.out.keep kq (fun j hj e => HG1.out j hj e) (fun j hj e => HG2.out j hj e))
            have HKN := Lib.hid ((HK.out.trans (HKh.out.mono (fun _ h => h.elim))).trans kq)
            clear kq
            generalize (((U5.setCell ⟨z6, 0, none⟩ (.int .i64 E)).setCell ⟨z6, 1, none⟩ (.slice a1 nl c1)).setCell ⟨z6, 2, none⟩ (.slice b1 64 d1)) = U6 at *
            go_wp2_with fail
            go_roundg (N - (k + 1))
            case rel => exact ⟨k + 1, E, L, O, a1, nl, c1, b1, d1, by omega, by go_num, HOK2.out, HLL.out, by rw [← HLL.out]; have := HNN.out; omega, HB6n.out, HR6n.out, HG1.out, HG2.out, HKN.out⟩
            case measure => omega
          · subst he0
            obtain ⟨x0, x1, x2, -⟩ := HB12g.out
            obtain ⟨m0, m1, m2, -⟩ := HB13g.out
            have HSC := Lib.hid (refSame_any _ _ E E L L O O _ HR1g.out HR2.out)
            rw [decide_eq_true (rfl : E = E), decide_eq_true (rfl : L = L), decide_eq_true (rfl : O = O)] at HSC
            go_wp2_with fail
            clear x0 x1 x2 m0 m1 m2
            with_reducible refine HSC.out.mono ?_
            rintro e U5 ⟨rfl, kk⟩
            have HB6n := Lib.hid (HB6g.out.kept kk)
            have HR6n := Lib.hid (HR6g.out.kept kk)
            have HKN := Lib.hid (HK.out.trans ((HK7g.out.trans kk).mono (fun _ h => h.elim)))
            clear kk HSC
            go_wp2_with fail
            go_roundg (N - (k + 1))
            case rel => exact ⟨k + 1, ep, l, ow, bm, n, cm', bo, co', by omega, by go_num, HOK.out, HNL.out, by omega, HB6n.out, HR6n.out, HN1.out, HN2.out, HKN.out⟩
            case measure => omega
        · have hp2 := pk_bd q2 26 (by decide)
          have HQ2 := Lib.hid (pick13_any q2 26 · HY2.out (by decide))
          generalize pk q2 26 = p2 at *
          have hw2 : IntKind.i64.wrap (p2 - 1) = p2 - 1 := wrapI (by unfold I64; omega)
          obtain ⟨E, L, O, err, hso, hst⟩ := step_replace ep l ow x11 (p2 - 1) (8 + k) HNB.out HK18.out
          have HSO := Lib.hid hso
          have HST := Lib.hid hst
          clear hso hst
          obtain ⟨nl, hnl⟩ : ∃ q, L.length = q := ⟨_, rfl⟩
          obtain ⟨no, hno⟩ : ∃ q, O.length = q := ⟨_, rfl⟩
          have HLL := Lib.hid hnl
          have HOL := Lib.hid hno
          clear hnl hno
          go_upto_region 25 with (fail)
          have r0 : ∀ p : KA (fun j => j = z12) V7, p.val.cell? ⟨z6, 0, none⟩ = some (.int .i64 ep) := fun p => (HB6.out.keep p.k (fun e => by have h6 := HZ12a.out; have h7 := HZ13.out; have h8 := HZ7.out; have h5 : z6 = z12 := e; omega)).1
          have r1 : ∀ p : KA (fun j => j = z12) V7, p.val.cell? ⟨z6, 1, none⟩ = some (.slice bm n cm') := fun p => (HB6.out.keep p.k (fun e => by have h6 := HZ12a.out; have h7 := HZ13.out; have h8 := HZ7.out; have h5 : z6 = z12 := e; omega)).2.1
          have r2 : ∀ p : KA (fun j => j = z12) V7, p.val.cell? ⟨z6, 2, none⟩ = some (.slice bo 64 co') := fun p => (HB6.out.keep p.k (fun e => by have h6 := HZ12a.out; have h7 := HZ13.out; have h8 := HZ7.out; have h5 : z6 = z12 := e; omega)).2.2.1
          refine wp_region_walk [(true, 0), (true, 1), (false, 2), (false, 3), (false, 4), (false, 5), (false, 6), (false, 7), (true, 8), (true, 9), (false, 10), (false, 11)] (inKA (fun j => j = z12) V7) (by kernel_rfl) (by kernel_rfl) ?_
          have HKD : Hid (Keep (fun _ => False) V7 V7.drew) := Lib.hid (Keep.refl _ V7).drew
          have HBS : Hid (V7.heap.size ≤ V7.heap.size) := Lib.hid (Nat.le_refl _)
          iterate 2 (refine walkW_read rfl (fun K hK => ?_); go_simp; refine hK _ ?_; clear hK K)
          clear r0 r1 r2
          have HA9d := Lib.hid (HA9.out.kept HKD.out)
          have HR6d := Lib.hid (HR6.out.kept HKD.out)
          have HTd := Lib.hid (HT.out.kept (HKW.out.trans (HK7.out.trans HKD.out)))
          generalize V7.drew = D0 at *
          refine walkW_do rfl (inKA.of (HKD.out.mono (fun _ h => h.elim))) (fun K hK => ?_)
          go_simp
          refine hK _ _ ?_; clear hK K
          obtain ⟨y0, y1, y2, y3⟩ := HA9d.out
          refine walkW_do rfl (inKA.of (HKD.out.mono (fun _ h => h.elim))) (fun K hK => ?_)
          go_simp
          refine hK _ _ ?_; clear hK K
          clear y0 y1 y2 y3
          refine walkW_do rfl (inKA.of (HKD.out.mono (fun _ h => h.elim))) (fun K hK => ?_)
          go_simp
          with_reducible refine (HQ2.out _).mono ?_
          rintro e W5 ⟨rfl, rfl⟩
          refine hK _ _ ?_; clear hK K
          refine walkW_do rfl (inKA.of (HKD.out.mono (fun _ h => h.elim))) (fun K hK => ?_)
          go_simp
          refine hK _ _ ?_; clear hK K
          have HC := Lib.hid (HST.out _ D0 HR6d.out HTd.out).1
          refine walkW_do rfl (inKA.of (HKD.out.mono (fun _ h => h.elim))) (fun K hK => ?_)
          go_simp
          with_reducible refine HC.out.mono ?_
          clear HC
          rintro e U1 ⟨a1, c1, b1, d1, rfl, hr, hf, kk0⟩
          have kk := HKD.out.trans kk0
          replace hf : (∀ j, (Value.slice a1 L.length c1).ownBlock = some j → V7.heap.size ≤ j) ∧ ∀ j, (Value.slice b1 O.length d1).ownBlock = some j → V7.heap.size ≤ j := ⟨fun j hj => Nat.le_trans HKD.out.size (hf.1 j hj), fun j hj => Nat.le_trans HKD.out.size (hf.2 j hj)⟩
          clear kk0
          rw [HLL.out, HOL.out] at hr hf ⊢
          refine hK _ _ ?_; clear hK K
          have HKK := Lib.hid kk
          have HB12u := Lib.hid (HB12.out.kept kk)
          have HB13u := Lib.hid (HB13.out.kept kk)
          have HB6u := Lib.hid (HB6.out.kept kk)
          have HR6u := Lib.hid (HR6.out.kept kk)
          have HB11u := Lib.hid (HB11.out.kept kk)
          have HA9u := Lib.hid (HA9.out.kept kk)
          have HKu := Lib.hid (HK7.out.trans kk)
          have HFu := Lib.hid hf
          have HRu := Lib.hid hr
          have HSu : Hid (V7.heap.size ≤ U1.heap.size) := Lib.hid kk.size
          clear kk hf hr
          refine walkW_do rfl (inKA.of (HKK.out.mono (fun _ h => h.elim))) (fun K hK => ?_)
          go_simp
          refine hK _ _ ?_; clear hK K
          iterate 2 (refine walkW_read rfl (fun K hK => ?_); go_simp; refine hK _ ?_; clear hK K)
          obtain ⟨u0, u1, u2, uf⟩ := HB12u.out
          refine walkW_do rfl (inKA.of (HKK.out.mono (fun _ h => h.elim))) (fun K hK => ?_)
          go_simp
          refine hK _ _ ?_; clear hK K
          clear u0 u1 u2 uf
          have HKX : Hid (Keep (fun j => j = z12) V7 (((U1.setCell ⟨z12, 0, none⟩ (.int .i64 E)).setCell ⟨z12, 1, none⟩ (.slice a1 nl c1)).setCell ⟨z12, 2, none⟩ (.slice b1 no d1))) := Lib.hid (by
            have kq : Keep (fun j => j = z12) U1 (((U1.setCell ⟨z12, 0, none⟩ (.int .i64 E)).setCell ⟨z12, 1, none⟩ (.slice a1 nl c1)).setCell ⟨z12, 2, none⟩ (.slice b1 no d1)) := (((Keep.refl (fun j => j = z12) U1).setCell (p := ⟨z12, 0, none⟩) _ (.inl rfl)).setCell (p := ⟨z12, 1, none⟩) _ (.inl rfl)).setCell (p := ⟨z12, 2, none⟩) _ (.inl rfl)
            exact (HKK.out.mono (fun _ h => h.elim)).trans kq)
          have kq : Keep (fun j => j = z12) U1 (((U1.setCell ⟨z12, 0, none⟩ (.int .i64 E)).setCell ⟨z12, 1, none⟩ (.slice a1 nl c1)).setCell ⟨z12, 2, none⟩ (.slice b1 no d1)) := (((Keep.refl (fun j => j = z12) U1).setCell (p := ⟨z12, 0, none⟩) _ (.inl rfl)).setCell (p := ⟨z12, 1, none⟩) _ (.inl rfl)).setCell (p := ⟨z12, 2, none⟩) _ (.inl rfl)
          have HB12f := Lib.hid (((HB12u.out.set0 (.int .i64 E)).set1 (.slice a1 nl c1)).set2 (.slice b1 no d1))
          have HB13f := Lib.hid (HB13u.out.keep kq (fun e => by have h6 := HZ12a.out; have h7 := HZ13.out; have h8 := HZ7.out; have h5 : z13 = z12 := e; omega))
          have HB6f := Lib.hid (HB6u.out.keep kq (fun e => by have h6 := HZ12a.out; have h7 := HZ13.out; have h8 := HZ7.out; have h5 : z6 = z12 := e; omega))
          have HB11f := Lib.hid (HB11u.out.keep kq (fun e => by have h6 := HZ12a.out; have h7 := HZ13.out; have h8 := HZ7.out; have h5 : z11 = z12 := e; omega))
          have HA9f := Lib.hid (HA9u.out.keep kq (fun e => by have h6 := HZ12a.out; have h7 := HZ13.out; have h8 := HZ7.out; have h5 : z9 = z12 := e; omega))
          have HR6f := Lib.hid (HR6u.out.keep kq (fun j hj e => by have h6 := HZ12a.out; have h7 := HZ13.out; have h8 := HZ7.out; have h5 : j = z12 := e; have := HLOR.out.1 j hj; omega) (fun j hj e => by have h6 := HZ12a.out; have h7 := HZ13.out; have h8 := HZ7.out; have h5 : j = z12 := e; have := HLOR.out.2 j hj; omega))
          have HR1 := Lib.hid (HRu.out.keep kq (fun j hj e => by have h6 := HZ12a.out; have h7 := HZ13.out; have h8 := HZ7.out; have h5 : j = z12 := e; have := HFu.out.1 j hj; have := HBS.out; omega) (fun j hj e => by have h6 := HZ12a.out; have h7 := HZ13.out; have h8 := HZ7.out; have h5 : j = z12 := e; have := HFu.out.2 j hj; have := HBS.out; omega))
          have HK7f := Lib.hid (HKu.out.trans' kq (fun j e => .inr (by have h6 := HZ12a.out; have h7 := HZ13.out; have h8 := HZ7.out; have h5 : j = z12 := e; omega)))
          have HS1 : Hid (V7.heap.size ≤ (((U1.setCell ⟨z12, 0, none⟩ (.int .i64 E)).setCell ⟨z12, 1, none⟩ (.slice a1 nl c1)).setCell ⟨z12, 2, none⟩ (.slice b1 no d1)).heap.size) := Lib.hid (Nat.le_trans HSu.out kq.size)
          have HF1 := Lib.hid HFu.out
          clear kq HB12u HB13u HB6u HR6u HB11u HA9u HKu HRu HSu HFu
          generalize (((U1.setCell ⟨z12, 0, none⟩ (.int .i64 E)).setCell ⟨z12, 1, none⟩ (.slice a1 nl c1)).setCell ⟨z12, 2, none⟩ (.slice b1 no d1)) = U2 at *
          refine walkW_do rfl (inKA.of HKX.out) (fun K hK => ?_)
          go_simp
          refine hK _ _ ?_; clear hK K
          refine ⟨inKA.of HKX.out, ?_⟩
          clear HKX HKK HKD HA9d HR6d HTd HBS
          go_upto_region 26 with (fail)
          have r0 : ∀ p : KA (fun j => j = z13) U2, p.val.cell? ⟨z6, 0, none⟩ = some (.int .i64 ep) := fun p => (HB6f.out.keep p.k (fun e => by have h6 := HZ12a.out; have h7 := HZ13.out; have h8 := HZ7.out; have h5 : z6 = z13 := e; omega)).1
          have r1 : ∀ p : KA (fun j => j = z13) U2, p.val.cell? ⟨z6, 1, none⟩ = some (.slice bm n cm') := fun p => (HB6f.out.keep p.k (fun e => by have h6 := HZ12a.out; have h7 := HZ13.out; have h8 := HZ7.out; have h5 : z6 = z13 := e; omega)).2.1
          have r2 : ∀ p : KA (fun j => j = z13) U2, p.val.cell? ⟨z6, 2, none⟩ = some (.slice bo 64 co') := fun p => (HB6f.out.keep p.k (fun e => by have h6 := HZ12a.out; have h7 := HZ13.out; have h8 := HZ7.out; have h5 : z6 = z13 := e; omega)).2.2.1
          refine wp_region_walk [(true, 0), (true, 1), (false, 2), (false, 3), (false, 4), (false, 5), (false, 6), (false, 7), (true, 8), (true, 9), (false, 10), (false, 11)] (inKA (fun j => j = z13) U2) (by kernel_rfl) (by kernel_rfl) ?_
          have HKD : Hid (Keep (fun _ => False) U2 U2.drew) := Lib.hid (Keep.refl _ U2).drew
          have HBS : Hid (V7.heap.size ≤ U2.heap.size) := Lib.hid (HS1.out)
          iterate 2 (refine walkW_read rfl (fun K hK => ?_); go_simp; refine hK _ ?_; clear hK K)
          clear r0 r1 r2
          have HA9d := Lib.hid (HA9f.out.kept HKD.out)
          have HR6d := Lib.hid (HR6f.out.kept HKD.out)
          have HTd := Lib.hid (HT.out.kept (HKW.out.trans (HK7f.out.trans HKD.out)))
          generalize U2.drew = D0 at *
          refine walkW_do rfl (inKA.of (HKD.out.mono (fun _ h => h.elim))) (fun K hK => ?_)
          go_simp
          refine hK _ _ ?_; clear hK K
          obtain ⟨y0, y1, y2, y3⟩ := HA9d.out
          refine walkW_do rfl (inKA.of (HKD.out.mono (fun _ h => h.elim))) (fun K hK => ?_)
          go_simp
          refine hK _ _ ?_; clear hK K
          clear y0 y1 y2 y3
          refine walkW_do rfl (inKA.of (HKD.out.mono (fun _ h => h.elim))) (fun K hK => ?_)
          go_simp
          with_reducible refine (HQ2.out _).mono ?_
          rintro e W5 ⟨rfl, rfl⟩
          refine hK _ _ ?_; clear hK K
          refine walkW_do rfl (inKA.of (HKD.out.mono (fun _ h => h.elim))) (fun K hK => ?_)
          go_simp
          refine hK _ _ ?_; clear hK K
          have HC := Lib.hid (HST.out _ D0 HR6d.out HTd.out).2
          refine walkW_do rfl (inKA.of (HKD.out.mono (fun _ h => h.elim))) (fun K hK => ?_)
          go_simp
          with_reducible refine HC.out.mono ?_
          clear HC
          rintro e U3 ⟨a2, c2, b2, d2, rfl, hr, hf, kk0⟩
          have kk := HKD.out.trans kk0
          replace hf : (∀ j, (Value.slice a2 L.length c2).ownBlock = some j → U2.heap.size ≤ j) ∧ ∀ j, (Value.slice b2 O.length d2).ownBlock = some j → U2.heap.size ≤ j := ⟨fun j hj => Nat.le_trans HKD.out.size (hf.1 j hj), fun j hj => Nat.le_trans HKD.out.size (hf.2 j hj)⟩
          clear kk0
          rw [HLL.out, HOL.out] at hr hf ⊢
          refine hK _ _ ?_; clear hK K
          have HKK := Lib.hid kk
          have HB12u := Lib.hid (HB12f.out.kept kk)
          have HB13u := Lib.hid (HB13f.out.kept kk)
          have HB6u := Lib.hid (HB6f.out.kept kk)
          have HR6u := Lib.hid (HR6f.out.kept kk)
          have HB11u := Lib.hid (HB11f.out.kept kk)
          have HA9u := Lib.hid (HA9f.out.kept kk)
          have HKu := Lib.hid (HK7f.out.trans kk)
          have HFu := Lib.hid hf
          have HRu := Lib.hid hr
          have HSu : Hid (U2.heap.size ≤ U3.heap.size) := Lib.hid kk.size
          have HR1u := Lib.hid (HR1.out.kept kk)
          clear kk hf hr
          refine walkW_do rfl (inKA.of (HKK.out.mono (fun _ h => h.elim))) (fun K hK => ?_)
          go_simp
          refine hK _ _ ?_; clear hK K
          iterate 2 (refine walkW_read rfl (fun K hK => ?_); go_simp; refine hK _ ?_; clear hK K)
          obtain ⟨u0, u1, u2, uf⟩ := HB13u.out
          refine walkW_do rfl (inKA.of (HKK.out.mono (fun _ h => h.elim))) (fun K hK => ?_)
          go_simp
          refine hK _ _ ?_; clear hK K
          clear u0 u1 u2 uf
          have HKX : Hid (Keep (fun j => j = z13) U2 (((U3.setCell ⟨z13, 0, none⟩ (.int .i64 E)).setCell ⟨z13, 1, none⟩ (.slice a2 nl c2)).setCell ⟨z13, 2, none⟩ (.slice b2 no d2))) := Lib.hid (by
            have kq : Keep (fun j => j = z13) U3 (((U3.setCell ⟨z13, 0, none⟩ (.int .i64 E)).setCell ⟨z13, 1, none⟩ (.slice a2 nl c2)).setCell ⟨z13, 2, none⟩ (.slice b2 no d2)) := (((Keep.refl (fun j => j = z13) U3).setCell (p := ⟨z13, 0, none⟩) _ (.inl rfl)).setCell (p := ⟨z13, 1, none⟩) _ (.inl rfl)).setCell (p := ⟨z13, 2, none⟩) _ (.inl rfl)
            exact (HKK.out.mono (fun _ h => h.elim)).trans kq)
          have kq : Keep (fun j => j = z13) U3 (((U3.setCell ⟨z13, 0, none⟩ (.int .i64 E)).setCell ⟨z13, 1, none⟩ (.slice a2 nl c2)).setCell ⟨z13, 2, none⟩ (.slice b2 no d2)) := (((Keep.refl (fun j => j = z13) U3).setCell (p := ⟨z13, 0, none⟩) _ (.inl rfl)).setCell (p := ⟨z13, 1, none⟩) _ (.inl rfl)).setCell (p := ⟨z13, 2, none⟩) _ (.inl rfl)
          have HB13g := Lib.hid (((HB13u.out.set0 (.int .i64 E)).set1 (.slice a2 nl c2)).set2 (.slice b2 no d2))
          have HB12g := Lib.hid (HB12u.out.keep kq (fun e => by have h6 := HZ12a.out; have h7 := HZ13.out; have h8 := HZ7.out; have h5 : z12 = z13 := e; omega))
          have HB6g := Lib.hid (HB6u.out.keep kq (fun e => by have h6 := HZ12a.out; have h7 := HZ13.out; have h8 := HZ7.out; have h5 : z6 = z13 := e; omega))
          have HB11g := Lib.hid (HB11u.out.keep kq (fun e => by have h6 := HZ12a.out; have h7 := HZ13.out; have h8 := HZ7.out; have h5 : z11 = z13 := e; omega))
          have HA9g := Lib.hid (HA9u.out.keep kq (fun e => by have h6 := HZ12a.out; have h7 := HZ13.out; have h8 := HZ7.out; have h5 : z9 = z13 := e; omega))
          have HR6g := Lib.hid (HR6u.out.keep kq (fun j hj e => by have h6 := HZ12a.out; have h7 := HZ13.out; have h8 := HZ7.out; have h5 : j = z13 := e; have := HLOR.out.1 j hj; omega) (fun j hj e => by have h6 := HZ12a.out; have h7 := HZ13.out; have h8 := HZ7.out; have h5 : j = z13 := e; have := HLOR.out.2 j hj; omega))
          have HR2 := Lib.hid (HRu.out.keep kq (fun j hj e => by have h6 := HZ12a.out; have h7 := HZ13.out; have h8 := HZ7.out; have h5 : j = z13 := e; have := HFu.out.1 j hj; have := HBS.out; omega) (fun j hj e => by have h6 := HZ12a.out; have h7 := HZ13.out; have h8 := HZ7.out; have h5 : j = z13 := e; have := HFu.out.2 j hj; have := HBS.out; omega))
          have HK7g := Lib.hid (HKu.out.trans' kq (fun j e => .inr (by have h6 := HZ12a.out; have h7 := HZ13.out; have h8 := HZ7.out; have h5 : j = z13 := e; omega)))
          have HR1g := Lib.hid (HR1u.out.keep kq (fun j hj e => by have h6 := HZ12a.out; have h7 := HZ13.out; have h8 := HZ7.out; have h5 : j = z13 := e; have := HF1.out.1 j hj; omega) (fun j hj e => by have h6 := HZ12a.out; have h7 := HZ13.out; have h8 := HZ7.out; have h5 : j = z13 := e; have := HF1.out.2 j hj; omega))
          have HS2 : Hid (U2.heap.size ≤ (((U3.setCell ⟨z13, 0, none⟩ (.int .i64 E)).setCell ⟨z13, 1, none⟩ (.slice a2 nl c2)).setCell ⟨z13, 2, none⟩ (.slice b2 no d2)).heap.size) := Lib.hid (Nat.le_trans HSu.out kq.size)
          clear kq HB12u HB13u HB6u HR6u HB11u HA9u HKu HRu HSu HR1u HR1 HFu
          generalize (((U3.setCell ⟨z13, 0, none⟩ (.int .i64 E)).setCell ⟨z13, 1, none⟩ (.slice a2 nl c2)).setCell ⟨z13, 2, none⟩ (.slice b2 no d2)) = U4 at *
          refine walkW_do rfl (inKA.of HKX.out) (fun K hK => ?_)
          go_simp
          refine hK _ _ ?_; clear hK K
          refine ⟨inKA.of HKX.out, ?_⟩
          clear HKX HKK HKD HA9d HR6d HTd HBS
          go_upto_region 27 with (fail)
          rcases HSO.out with ⟨he0, hok2, hE2, hL2⟩ | he0
          · subst he0
            have HOK2 := Lib.hid hok2
            have HNN := Lib.hid hL2
            clear hok2 hE2 hL2
            obtain ⟨x0, x1, x2, -⟩ := HB12g.out
            obtain ⟨m0, m1, m2, -⟩ := HB13g.out
            have HSC := Lib.hid (refSame_any _ _ E E L L O O _ HR1g.out HR2.out)
            rw [decide_eq_true (rfl : E = E), decide_eq_true (rfl : L = L), decide_eq_true (rfl : O = O)] at HSC
            go_wp2_with fail
            clear x0 x1 x2 m0 m1 m2
            with_reducible refine HSC.out.mono ?_
            rintro e U5 ⟨rfl, kk⟩
            have HO64 : Hid (no = 64) := Lib.hid (by rw [← HOL.out]; exact HOK2.out.2.2.2.1)
            have hno := HO64.out
            subst hno
            have HB12h := Lib.hid (HB12g.out.kept kk)
            have HB6h := Lib.hid (HB6g.out.kept kk)
            have HR1h := Lib.hid (HR1g.out.kept kk)
            have HKh := Lib.hid (HK7g.out.trans kk)
            clear kk HSC
            obtain ⟨x0, x1, x2, -⟩ := HB12h.out
            obtain ⟨m0, m1, m2, mf⟩ := HB6h.out
            go_upto_region 7 with (fail)
            clear x0 x1 x2 m0 m1 m2 mf
            have kq : Keep (fun j => j = z6) U5 (((U5.setCell ⟨z6, 0, none⟩ (.int .i64 E)).setCell ⟨z6, 1, none⟩ (.slice a1 nl c1)).setCell ⟨z6, 2, none⟩ (.slice b1 64 d1)) := (((Keep.refl (fun j => j = z6) U5).setCell (p := ⟨z6, 0, none⟩) _ (.inl rfl)).setCell (p := ⟨z6, 1, none⟩) _ (.inl rfl)).setCell (p := ⟨z6, 2, none⟩) _ (.inl rfl)
            have HB6n := Lib.hid (((HB6h.out.set0 (.int .i64 E)).set1 (.slice a1 nl c1)).set2 (.slice b1 64 d1))
            have HG1 : Hid (∀ j, (Value.slice a1 nl c1).ownBlock = some j → j ≠ z6) := Lib.hid (fun j hj e => by have := HF1.out.1 j hj; have h6 := HZ12a.out; have h7 := HZ13.out; have h8 := HZ7.out; omega)
            have HG2 : Hid (∀ j, (Value.slice b1 64 d1).ownBlock = some j → j ≠ z6) := Lib.hid (fun j hj e => by have := HF1.out.2 j hj; have h6 := HZ12a.out; have h7 := HZ13.out; have h8 := HZ7.out; omega)
            have HR6n := Lib.hid (HR1h.out.keep kq (fun j hj e => HG1.out j hj e) (fun j hj e => HG2.out j hj e))
            have HKN := Lib.hid ((HK.out.trans (HKh.out.mono (fun _ h => h.elim))).trans kq)
            clear kq
            generalize (((U5.setCell ⟨z6, 0, none⟩ (.int .i64 E)).setCell ⟨z6, 1, none⟩ (.slice a1 nl c1)).setCell ⟨z6, 2, none⟩ (.slice b1 64 d1)) = U6 at *
            go_wp2_with fail
            go_roundg (N - (k + 1))
            case rel => exact ⟨k + 1, E, L, O, a1, nl, c1, b1, d1, by omega, by go_num, HOK2.out, HLL.out, by rw [← HLL.out]; have := HNN.out; omega, HB6n.out, HR6n.out, HG1.out, HG2.out, HKN.out⟩
            case measure => omega
          · subst he0
            obtain ⟨x0, x1, x2, -⟩ := HB12g.out
            obtain ⟨m0, m1, m2, -⟩ := HB13g.out
            have HSC := Lib.hid (refSame_any _ _ E E L L O O _ HR1g.out HR2.out)
            rw [decide_eq_true (rfl : E = E), decide_eq_true (rfl : L = L), decide_eq_true (rfl : O = O)] at HSC
            go_wp2_with fail
            clear x0 x1 x2 m0 m1 m2
            with_reducible refine HSC.out.mono ?_
            rintro e U5 ⟨rfl, kk⟩
            have HB6n := Lib.hid (HB6g.out.kept kk)
            have HR6n := Lib.hid (HR6g.out.kept kk)
            have HKN := Lib.hid (HK.out.trans ((HK7g.out.trans kk).mono (fun _ h => h.elim)))
            clear kk HSC
            go_wp2_with fail
            go_roundg (N - (k + 1))
            case rel => exact ⟨k + 1, ep, l, ow, bm, n, cm', bo, co', by omega, by go_num, HOK.out, HNL.out, by omega, HB6n.out, HR6n.out, HN1.out, HN2.out, HKN.out⟩
            case measure => omega
        · have HVZ := Lib.hid (mem13_vl [q0, q1, q2, q3])
          have HMZ : Hid (∀ W v, Its W v [q0, q1, q2, q3] → Calls Tryz.prog 14 #[v] W fun e w' => ∃ a c, e = .returned (.slice a (mem13 [q0, q1, q2, q3]).length c) ∧ Mbs w' (.slice a (mem13 [q0, q1, q2, q3]).length c) (mem13 [q0, q1, q2, q3]) ∧ Keep (fun _ => False) W w') := Lib.hid (fun W v h => members_mbs v _ h)
          generalize mem13 [q0, q1, q2, q3] = lz at *
          obtain ⟨nz, hnz⟩ : ∃ q, lz.length = q := ⟨_, rfl⟩
          have HNZ := Lib.hid hnz
          clear hnz
          obtain ⟨E, L, O, err, hso, hst⟩ := step_change ep l lz ow (8 + k) (by have := HVZ.out.2; omega)
          have HSO := Lib.hid hso
          have HST := Lib.hid hst
          clear hso hst
          obtain ⟨nl, hnl⟩ : ∃ q, L.length = q := ⟨_, rfl⟩
          obtain ⟨no, hno⟩ : ∃ q, O.length = q := ⟨_, rfl⟩
          have HLL := Lib.hid hnl
          have HOL := Lib.hid hno
          clear hnl hno
          go_upto_region 16 with (fail)
          have r0 : ∀ p : KA (fun j => j = z12) V7, p.val.cell? ⟨z6, 0, none⟩ = some (.int .i64 ep) := fun p => (HB6.out.keep p.k (fun e => by have h6 := HZ12a.out; have h7 := HZ13.out; have h8 := HZ7.out; have h5 : z6 = z12 := e; omega)).1
          have r1 : ∀ p : KA (fun j => j = z12) V7, p.val.cell? ⟨z6, 1, none⟩ = some (.slice bm n cm') := fun p => (HB6.out.keep p.k (fun e => by have h6 := HZ12a.out; have h7 := HZ13.out; have h8 := HZ7.out; have h5 : z6 = z12 := e; omega)).2.1
          have r2 : ∀ p : KA (fun j => j = z12) V7, p.val.cell? ⟨z6, 2, none⟩ = some (.slice bo 64 co') := fun p => (HB6.out.keep p.k (fun e => by have h6 := HZ12a.out; have h7 := HZ13.out; have h8 := HZ7.out; have h5 : z6 = z12 := e; omega)).2.2.1
          refine wp_region_walk [(true, 0), (false, 1), (false, 2), (false, 3), (false, 4), (true, 5), (true, 6), (false, 7), (false, 8)] (inKA (fun j => j = z12) V7) (by kernel_rfl) (by kernel_rfl) ?_
          have HKD : Hid (Keep (fun _ => False) V7 V7.drew) := Lib.hid (Keep.refl _ V7).drew
          have HBS : Hid (V7.heap.size ≤ V7.heap.size) := Lib.hid (Nat.le_refl _)
          iterate 1 (refine walkW_read rfl (fun K hK => ?_); go_simp; refine hK _ ?_; clear hK K)
          clear r0 r1 r2
          have HA9d := Lib.hid (HA9.out.kept HKD.out)
          have HR6d := Lib.hid (HR6.out.kept HKD.out)
          have HTd := Lib.hid (HT.out.kept (HKW.out.trans (HK7.out.trans HKD.out)))
          generalize V7.drew = D0 at *
          refine walkW_do rfl (inKA.of (HKD.out.mono (fun _ h => h.elim))) (fun K hK => ?_)
          go_simp
          refine hK _ _ ?_; clear hK K
          have HMC := Lib.hid (HMZ.out D0 _ (HA9d.out.its HY0.out HY1.out HY2.out HY3.out))
          refine walkW_do rfl (inKA.of (HKD.out.mono (fun _ h => h.elim))) (fun K hK => ?_)
          go_simp
          with_reducible refine HMC.out.mono ?_
          clear HMC
          rintro e D1 ⟨am5, cm5, rfl, hm5, kd⟩
          rw [HNZ.out] at hm5 ⊢
          refine hK _ _ ?_; clear hK K
          have HKD1 := Lib.hid (HKD.out.trans kd)
          have HC := Lib.hid (HST.out _ _ D1 (HR6d.out.kept kd) hm5 (HTd.out.kept kd)).1
          clear hm5 kd
          refine walkW_do rfl (inKA.of (HKD1.out.mono (fun _ h => h.elim))) (fun K hK => ?_)
          go_simp
          with_reducible refine HC.out.mono ?_
          clear HC
          rintro e U1 ⟨a1, c1, b1, d1, rfl, hr, hf, kk0⟩
          have kk := HKD1.out.trans kk0
          replace hf : (∀ j, (Value.slice a1 L.length c1).ownBlock = some j → V7.heap.size ≤ j) ∧ ∀ j, (Value.slice b1 O.length d1).ownBlock = some j → V7.heap.size ≤ j := ⟨fun j hj => Nat.le_trans HKD1.out.size (hf.1 j hj), fun j hj => Nat.le_trans HKD1.out.size (hf.2 j hj)⟩
          clear kk0
          rw [HLL.out, HOL.out] at hr hf ⊢
          refine hK _ _ ?_; clear hK K
          have HKK := Lib.hid kk
          have HB12u := Lib.hid (HB12.out.kept kk)
          have HB13u := Lib.hid (HB13.out.kept kk)
          have HB6u := Lib.hid (HB6.out.kept kk)
          have HR6u := Lib.hid (HR6.out.kept kk)
          have HB11u := Lib.hid (HB11.out.kept kk)
          have HA9u := Lib.hid (HA9.out.kept kk)
          have HKu := Lib.hid (HK7.out.trans kk)
          have HFu := Lib.hid hf
          have HRu := Lib.hid hr
          have HSu : Hid (V7.heap.size ≤ U1.heap.size) := Lib.hid kk.size
          clear kk hf hr
          refine walkW_do rfl (inKA.of (HKK.out.mono (fun _ h => h.elim))) (fun K hK => ?_)
          go_simp
          refine hK _ _ ?_; clear hK K
          iterate 2 (refine walkW_read rfl (fun K hK => ?_); go_simp; refine hK _ ?_; clear hK K)
          obtain ⟨u0, u1, u2, uf⟩ := HB12u.out
          refine walkW_do rfl (inKA.of (HKK.out.mono (fun _ h => h.elim))) (fun K hK => ?_)
          go_simp
          refine hK _ _ ?_; clear hK K
          clear u0 u1 u2 uf
          have HKX : Hid (Keep (fun j => j = z12) V7 (((U1.setCell ⟨z12, 0, none⟩ (.int .i64 E)).setCell ⟨z12, 1, none⟩ (.slice a1 nl c1)).setCell ⟨z12, 2, none⟩ (.slice b1 no d1))) := Lib.hid (by
            have kq : Keep (fun j => j = z12) U1 (((U1.setCell ⟨z12, 0, none⟩ (.int .i64 E)).setCell ⟨z12, 1, none⟩ (.slice a1 nl c1)).setCell ⟨z12, 2, none⟩ (.slice b1 no d1)) := (((Keep.refl (fun j => j = z12) U1).setCell (p := ⟨z12, 0, none⟩) _ (.inl rfl)).setCell (p := ⟨z12, 1, none⟩) _ (.inl rfl)).setCell (p := ⟨z12, 2, none⟩) _ (.inl rfl)
            exact (HKK.out.mono (fun _ h => h.elim)).trans kq)
          have kq : Keep (fun j => j = z12) U1 (((U1.setCell ⟨z12, 0, none⟩ (.int .i64 E)).setCell ⟨z12, 1, none⟩ (.slice a1 nl c1)).setCell ⟨z12, 2, none⟩ (.slice b1 no d1)) := (((Keep.refl (fun j => j = z12) U1).setCell (p := ⟨z12, 0, none⟩) _ (.inl rfl)).setCell (p := ⟨z12, 1, none⟩) _ (.inl rfl)).setCell (p := ⟨z12, 2, none⟩) _ (.inl rfl)
          have HB12f := Lib.hid (((HB12u.out.set0 (.int .i64 E)).set1 (.slice a1 nl c1)).set2 (.slice b1 no d1))
          have HB13f := Lib.hid (HB13u.out.keep kq (fun e => by have h6 := HZ12a.out; have h7 := HZ13.out; have h8 := HZ7.out; have h5 : z13 = z12 := e; omega))
          have HB6f := Lib.hid (HB6u.out.keep kq (fun e => by have h6 := HZ12a.out; have h7 := HZ13.out; have h8 := HZ7.out; have h5 : z6 = z12 := e; omega))
          have HB11f := Lib.hid (HB11u.out.keep kq (fun e => by have h6 := HZ12a.out; have h7 := HZ13.out; have h8 := HZ7.out; have h5 : z11 = z12 := e; omega))
          have HA9f := Lib.hid (HA9u.out.keep kq (fun e => by have h6 := HZ12a.out; have h7 := HZ13.out; have h8 := HZ7.out; have h5 : z9 = z12 := e; omega))
          have HR6f := Lib.hid (HR6u.out.keep kq (fun j hj e => by have h6 := HZ12a.out; have h7 := HZ13.out; have h8 := HZ7.out; have h5 : j = z12 := e; have := HLOR.out.1 j hj; omega) (fun j hj e => by have h6 := HZ12a.out; have h7 := HZ13.out; have h8 := HZ7.out; have h5 : j = z12 := e; have := HLOR.out.2 j hj; omega))
          have HR1 := Lib.hid (HRu.out.keep kq (fun j hj e => by have h6 := HZ12a.out; have h7 := HZ13.out; have h8 := HZ7.out; have h5 : j = z12 := e; have := HFu.out.1 j hj; have := HBS.out; omega) (fun j hj e => by have h6 := HZ12a.out; have h7 := HZ13.out; have h8 := HZ7.out; have h5 : j = z12 := e; have := HFu.out.2 j hj; have := HBS.out; omega))
          have HK7f := Lib.hid (HKu.out.trans' kq (fun j e => .inr (by have h6 := HZ12a.out; have h7 := HZ13.out; have h8 := HZ7.out; have h5 : j = z12 := e; omega)))
          have HS1 : Hid (V7.heap.size ≤ (((U1.setCell ⟨z12, 0, none⟩ (.int .i64 E)).setCell ⟨z12, 1, none⟩ (.slice a1 nl c1)).setCell ⟨z12, 2, none⟩ (.slice b1 no d1)).heap.size) := Lib.hid (Nat.le_trans HSu.out kq.size)
          have HF1 := Lib.hid HFu.out
          clear kq HB12u HB13u HB6u HR6u HB11u HA9u HKu HRu HSu HFu
          generalize (((U1.setCell ⟨z12, 0, none⟩ (.int .i64 E)).setCell ⟨z12, 1, none⟩ (.slice a1 nl c1)).setCell ⟨z12, 2, none⟩ (.slice b1 no d1)) = U2 at *
          refine walkW_do rfl (inKA.of HKX.out) (fun K hK => ?_)
          go_simp
          refine hK _ _ ?_; clear hK K
          refine ⟨inKA.of HKX.out, ?_⟩
          clear HKX HKK HKD HA9d HR6d HTd HBS HKD1
          go_upto_region 17 with (fail)
          have r0 : ∀ p : KA (fun j => j = z13) U2, p.val.cell? ⟨z6, 0, none⟩ = some (.int .i64 ep) := fun p => (HB6f.out.keep p.k (fun e => by have h6 := HZ12a.out; have h7 := HZ13.out; have h8 := HZ7.out; have h5 : z6 = z13 := e; omega)).1
          have r1 : ∀ p : KA (fun j => j = z13) U2, p.val.cell? ⟨z6, 1, none⟩ = some (.slice bm n cm') := fun p => (HB6f.out.keep p.k (fun e => by have h6 := HZ12a.out; have h7 := HZ13.out; have h8 := HZ7.out; have h5 : z6 = z13 := e; omega)).2.1
          have r2 : ∀ p : KA (fun j => j = z13) U2, p.val.cell? ⟨z6, 2, none⟩ = some (.slice bo 64 co') := fun p => (HB6f.out.keep p.k (fun e => by have h6 := HZ12a.out; have h7 := HZ13.out; have h8 := HZ7.out; have h5 : z6 = z13 := e; omega)).2.2.1
          refine wp_region_walk [(true, 0), (false, 1), (false, 2), (false, 3), (false, 4), (true, 5), (true, 6), (false, 7), (false, 8)] (inKA (fun j => j = z13) U2) (by kernel_rfl) (by kernel_rfl) ?_
          have HKD : Hid (Keep (fun _ => False) U2 U2.drew) := Lib.hid (Keep.refl _ U2).drew
          have HBS : Hid (V7.heap.size ≤ U2.heap.size) := Lib.hid (HS1.out)
          iterate 1 (refine walkW_read rfl (fun K hK => ?_); go_simp; refine hK _ ?_; clear hK K)
          clear r0 r1 r2
          have HA9d := Lib.hid (HA9f.out.kept HKD.out)
          have HR6d := Lib.hid (HR6f.out.kept HKD.out)
          have HTd := Lib.hid (HT.out.kept (HKW.out.trans (HK7f.out.trans HKD.out)))
          generalize U2.drew = D0 at *
          refine walkW_do rfl (inKA.of (HKD.out.mono (fun _ h => h.elim))) (fun K hK => ?_)
          go_simp
          refine hK _ _ ?_; clear hK K
          have HMC := Lib.hid (HMZ.out D0 _ (HA9d.out.its HY0.out HY1.out HY2.out HY3.out))
          refine walkW_do rfl (inKA.of (HKD.out.mono (fun _ h => h.elim))) (fun K hK => ?_)
          go_simp
          with_reducible refine HMC.out.mono ?_
          clear HMC
          rintro e D1 ⟨am5, cm5, rfl, hm5, kd⟩
          rw [HNZ.out] at hm5 ⊢
          refine hK _ _ ?_; clear hK K
          have HKD1 := Lib.hid (HKD.out.trans kd)
          have HC := Lib.hid (HST.out _ _ D1 (HR6d.out.kept kd) hm5 (HTd.out.kept kd)).2
          clear hm5 kd
          refine walkW_do rfl (inKA.of (HKD1.out.mono (fun _ h => h.elim))) (fun K hK => ?_)
          go_simp
          with_reducible refine HC.out.mono ?_
          clear HC
          rintro e U3 ⟨a2, c2, b2, d2, rfl, hr, hf, kk0⟩
          have kk := HKD1.out.trans kk0
          replace hf : (∀ j, (Value.slice a2 L.length c2).ownBlock = some j → U2.heap.size ≤ j) ∧ ∀ j, (Value.slice b2 O.length d2).ownBlock = some j → U2.heap.size ≤ j := ⟨fun j hj => Nat.le_trans HKD1.out.size (hf.1 j hj), fun j hj => Nat.le_trans HKD1.out.size (hf.2 j hj)⟩
          clear kk0
          rw [HLL.out, HOL.out] at hr hf ⊢
          refine hK _ _ ?_; clear hK K
          have HKK := Lib.hid kk
          have HB12u := Lib.hid (HB12f.out.kept kk)
          have HB13u := Lib.hid (HB13f.out.kept kk)
          have HB6u := Lib.hid (HB6f.out.kept kk)
          have HR6u := Lib.hid (HR6f.out.kept kk)
          have HB11u := Lib.hid (HB11f.out.kept kk)
          have HA9u := Lib.hid (HA9f.out.kept kk)
          have HKu := Lib.hid (HK7f.out.trans kk)
          have HFu := Lib.hid hf
          have HRu := Lib.hid hr
          have HSu : Hid (U2.heap.size ≤ U3.heap.size) := Lib.hid kk.size
          have HR1u := Lib.hid (HR1.out.kept kk)
          clear kk hf hr
          refine walkW_do rfl (inKA.of (HKK.out.mono (fun _ h => h.elim))) (fun K hK => ?_)
          go_simp
          refine hK _ _ ?_; clear hK K
          iterate 2 (refine walkW_read rfl (fun K hK => ?_); go_simp; refine hK _ ?_; clear hK K)
          obtain ⟨u0, u1, u2, uf⟩ := HB13u.out
          refine walkW_do rfl (inKA.of (HKK.out.mono (fun _ h => h.elim))) (fun K hK => ?_)
          go_simp
          refine hK _ _ ?_; clear hK K
          clear u0 u1 u2 uf
          have HKX : Hid (Keep (fun j => j = z13) U2 (((U3.setCell ⟨z13, 0, none⟩ (.int .i64 E)).setCell ⟨z13, 1, none⟩ (.slice a2 nl c2)).setCell ⟨z13, 2, none⟩ (.slice b2 no d2))) := Lib.hid (by
            have kq : Keep (fun j => j = z13) U3 (((U3.setCell ⟨z13, 0, none⟩ (.int .i64 E)).setCell ⟨z13, 1, none⟩ (.slice a2 nl c2)).setCell ⟨z13, 2, none⟩ (.slice b2 no d2)) := (((Keep.refl (fun j => j = z13) U3).setCell (p := ⟨z13, 0, none⟩) _ (.inl rfl)).setCell (p := ⟨z13, 1, none⟩) _ (.inl rfl)).setCell (p := ⟨z13, 2, none⟩) _ (.inl rfl)
            exact (HKK.out.mono (fun _ h => h.elim)).trans kq)
          have kq : Keep (fun j => j = z13) U3 (((U3.setCell ⟨z13, 0, none⟩ (.int .i64 E)).setCell ⟨z13, 1, none⟩ (.slice a2 nl c2)).setCell ⟨z13, 2, none⟩ (.slice b2 no d2)) := (((Keep.refl (fun j => j = z13) U3).setCell (p := ⟨z13, 0, none⟩) _ (.inl rfl)).setCell (p := ⟨z13, 1, none⟩) _ (.inl rfl)).setCell (p := ⟨z13, 2, none⟩) _ (.inl rfl)
          have HB13g := Lib.hid (((HB13u.out.set0 (.int .i64 E)).set1 (.slice a2 nl c2)).set2 (.slice b2 no d2))
          have HB12g := Lib.hid (HB12u.out.keep kq (fun e => by have h6 := HZ12a.out; have h7 := HZ13.out; have h8 := HZ7.out; have h5 : z12 = z13 := e; omega))
          have HB6g := Lib.hid (HB6u.out.keep kq (fun e => by have h6 := HZ12a.out; have h7 := HZ13.out; have h8 := HZ7.out; have h5 : z6 = z13 := e; omega))
          have HB11g := Lib.hid (HB11u.out.keep kq (fun e => by have h6 := HZ12a.out; have h7 := HZ13.out; have h8 := HZ7.out; have h5 : z11 = z13 := e; omega))
          have HA9g := Lib.hid (HA9u.out.keep kq (fun e => by have h6 := HZ12a.out; have h7 := HZ13.out; have h8 := HZ7.out; have h5 : z9 = z13 := e; omega))
          have HR6g := Lib.hid (HR6u.out.keep kq (fun j hj e => by have h6 := HZ12a.out; have h7 := HZ13.out; have h8 := HZ7.out; have h5 : j = z13 := e; have := HLOR.out.1 j hj; omega) (fun j hj e => by have h6 := HZ12a.out; have h7 := HZ13.out; have h8 := HZ7.out; have h5 : j = z13 := e; have := HLOR.out.2 j hj; omega))
          have HR2 := Lib.hid (HRu.out.keep kq (fun j hj e => by have h6 := HZ12a.out; have h7 := HZ13.out; have h8 := HZ7.out; have h5 : j = z13 := e; have := HFu.out.1 j hj; have := HBS.out; omega) (fun j hj e => by have h6 := HZ12a.out; have h7 := HZ13.out; have h8 := HZ7.out; have h5 : j = z13 := e; have := HFu.out.2 j hj; have := HBS.out; omega))
          have HK7g := Lib.hid (HKu.out.trans' kq (fun j e => .inr (by have h6 := HZ12a.out; have h7 := HZ13.out; have h8 := HZ7.out; have h5 : j = z13 := e; omega)))
          have HR1g := Lib.hid (HR1u.out.keep kq (fun j hj e => by have h6 := HZ12a.out; have h7 := HZ13.out; have h8 := HZ7.out; have h5 : j = z13 := e; have := HF1.out.1 j hj; omega) (fun j hj e => by have h6 := HZ12a.out; have h7 := HZ13.out; have h8 := HZ7.out; have h5 : j = z13 := e; have := HF1.out.2 j hj; omega))
          have HS2 : Hid (U2.heap.size ≤ (((U3.setCell ⟨z13, 0, none⟩ (.int .i64 E)).setCell ⟨z13, 1, none⟩ (.slice a2 nl c2)).setCell ⟨z13, 2, none⟩ (.slice b2 no d2)).heap.size) := Lib.hid (Nat.le_trans HSu.out kq.size)
          clear kq HB12u HB13u HB6u HR6u HB11u HA9u HKu HRu HSu HR1u HR1 HFu
          generalize (((U3.setCell ⟨z13, 0, none⟩ (.int .i64 E)).setCell ⟨z13, 1, none⟩ (.slice a2 nl c2)).setCell ⟨z13, 2, none⟩ (.slice b2 no d2)) = U4 at *
          refine walkW_do rfl (inKA.of HKX.out) (fun K hK => ?_)
          go_simp
          refine hK _ _ ?_; clear hK K
          refine ⟨inKA.of HKX.out, ?_⟩
          clear HKX HKK HKD HA9d HR6d HTd HBS HKD1
          go_upto_region 27 with (fail)
          rcases HSO.out with ⟨he0, hok2, hE2, hL2⟩ | he0
          · subst he0
            have HOK2 := Lib.hid hok2
            have HNN := Lib.hid hL2
            clear hok2 hE2 hL2
            obtain ⟨x0, x1, x2, -⟩ := HB12g.out
            obtain ⟨m0, m1, m2, -⟩ := HB13g.out
            have HSC := Lib.hid (refSame_any _ _ E E L L O O _ HR1g.out HR2.out)
            rw [decide_eq_true (rfl : E = E), decide_eq_true (rfl : L = L), decide_eq_true (rfl : O = O)] at HSC
            go_wp2_with fail
            clear x0 x1 x2 m0 m1 m2
            with_reducible refine HSC.out.mono ?_
            rintro e U5 ⟨rfl, kk⟩
            have HO64 : Hid (no = 64) := Lib.hid (by rw [← HOL.out]; exact HOK2.out.2.2.2.1)
            have hno := HO64.out
            subst hno
            have HB12h := Lib.hid (HB12g.out.kept kk)
            have HB6h := Lib.hid (HB6g.out.kept kk)
            have HR1h := Lib.hid (HR1g.out.kept kk)
            have HKh := Lib.hid (HK7g.out.trans kk)
            clear kk HSC
            obtain ⟨x0, x1, x2, -⟩ := HB12h.out
            obtain ⟨m0, m1, m2, mf⟩ := HB6h.out
            go_upto_region 7 with (fail)
            clear x0 x1 x2 m0 m1 m2 mf
            have kq : Keep (fun j => j = z6) U5 (((U5.setCell ⟨z6, 0, none⟩ (.int .i64 E)).setCell ⟨z6, 1, none⟩ (.slice a1 nl c1)).setCell ⟨z6, 2, none⟩ (.slice b1 64 d1)) := (((Keep.refl (fun j => j = z6) U5).setCell (p := ⟨z6, 0, none⟩) _ (.inl rfl)).setCell (p := ⟨z6, 1, none⟩) _ (.inl rfl)).setCell (p := ⟨z6, 2, none⟩) _ (.inl rfl)
            have HB6n := Lib.hid (((HB6h.out.set0 (.int .i64 E)).set1 (.slice a1 nl c1)).set2 (.slice b1 64 d1))
            have HG1 : Hid (∀ j, (Value.slice a1 nl c1).ownBlock = some j → j ≠ z6) := Lib.hid (fun j hj e => by have := HF1.out.1 j hj; have h6 := HZ12a.out; have h7 := HZ13.out; have h8 := HZ7.out; omega)
            have HG2 : Hid (∀ j, (Value.slice b1 64 d1).ownBlock = some j → j ≠ z6) := Lib.hid (fun j hj e => by have := HF1.out.2 j hj; have h6 := HZ12a.out; have h7 := HZ13.out; have h8 := HZ7.out; omega)
            have HR6n := Lib.hid (HR1h.out.keep kq (fun j hj e => HG1.out j hj e) (fun j hj e => HG2.out j hj e))
            have HKN := Lib.hid ((HK.out.trans (HKh.out.mono (fun _ h => h.elim))).trans kq)
            clear kq
            generalize (((U5.setCell ⟨z6, 0, none⟩ (.int .i64 E)).setCell ⟨z6, 1, none⟩ (.slice a1 nl c1)).setCell ⟨z6, 2, none⟩ (.slice b1 64 d1)) = U6 at *
            go_wp2_with fail
            go_roundg (N - (k + 1))
            case rel => exact ⟨k + 1, E, L, O, a1, nl, c1, b1, d1, by omega, by go_num, HOK2.out, HLL.out, by rw [← HLL.out]; have := HNN.out; omega, HB6n.out, HR6n.out, HG1.out, HG2.out, HKN.out⟩
            case measure => omega
          · subst he0
            obtain ⟨x0, x1, x2, -⟩ := HB12g.out
            obtain ⟨m0, m1, m2, -⟩ := HB13g.out
            have HSC := Lib.hid (refSame_any _ _ E E L L O O _ HR1g.out HR2.out)
            rw [decide_eq_true (rfl : E = E), decide_eq_true (rfl : L = L), decide_eq_true (rfl : O = O)] at HSC
            go_wp2_with fail
            clear x0 x1 x2 m0 m1 m2
            with_reducible refine HSC.out.mono ?_
            rintro e U5 ⟨rfl, kk⟩
            have HB6n := Lib.hid (HB6g.out.kept kk)
            have HR6n := Lib.hid (HR6g.out.kept kk)
            have HKN := Lib.hid (HK.out.trans ((HK7g.out.trans kk).mono (fun _ h => h.elim)))
            clear kk HSC
            go_wp2_with fail
            go_roundg (N - (k + 1))
            case rel => exact ⟨k + 1, ep, l, ow, bm, n, cm', bo, co', by omega, by go_num, HOK.out, HNL.out, by omega, HB6n.out, HR6n.out, HN1.out, HN2.out, HKN.out⟩
            case measure => omega
    · obtain rfl : k = N := by omega
      have HKN := HKW
      by_cases hkm : k < ns
      · have hkz : (k : Int) < (ns : Int) := by omega
        have hk8 : ¬ (k : Int) < 8 := by have := HN.out; omega
        go_wp2_with fail
        go_ret
        exact ⟨rfl, HKN.out⟩
      · have hkz : ¬ (k : Int) < (ns : Int) := by omega
        go_wp2_with fail
        go_ret
        exact ⟨rfl, HKN.out⟩
end Go.Proofs.YtplkmbfeeegaiaaGreatDoor
