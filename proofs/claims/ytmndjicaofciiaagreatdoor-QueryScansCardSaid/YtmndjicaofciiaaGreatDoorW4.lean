/-
  The fields of a query, as pointers.
-/
import Derived.Test.YtmndjicaofciiaaGreatDoorW0
import Derived.Test.YtmndjicaofciiaaGreatDoorG10
import Derived.Maps.AppendAt
import Derived.Maps.Own
namespace Go.Proofs.YtmndjicaofciiaaGreatDoor
open Go.RowKit Go.Shelf

abbrev pF (z f : Nat) : Value := .pointer (some ⟨z, f, none⟩)
/-- Pointers to fields in a row of their own. -/
def FldPost (z : Nat) (fs : List Nat) (w : World) (e : Ending) (w' : World) : Prop := ∃ a c, e = .returned (.slice a fs.length c) ∧ w'.ownsRow w.heap.size 84 1 (.slice a fs.length c) fs.length (fs.map (pF z)) ∧ Keep (fun _ => False) w w'
theorem own_new (W : World) (B : Nat) (xs : List Value) (t : TypeId) (hB : B ≤ W.heap.size) (hn : 0 < xs.length) (hl : xs.length ≤ 1000) : (W.alloc (.cells xs.toArray t)).ownsRow B t 1 (.slice (some ⟨W.heap.size, 0, none⟩) xs.length xs.length) xs.length xs :=
  ⟨by simp, .inr ⟨W.heap.size, xs.length, xs.toArray, rfl, hB, World.alloc_heap_new _ _, Nat.le_refl _, by unfold maxLen; omega, by simp, by simp⟩⟩
theorem wp_appP {P : Program} {o : Oper} {a : Act} {w w' : World} {K : Act → World → Prop} {Q : Exit → Act → World → Prop} {v v2 v' : Value}
    (s x : Operand) (t : TypeId) (hop : o.op = Op.call { callee := Callee.builtin Builtin.append, args := #[s, x], argTypes := #[t, t] })
    (hs : a.eval s = v) (hx : a.eval x = v2) (hrun : (Builtin.append_ #[t, t] o.type #[v, v2]).run P w = .ok v' w') (hK : K (a.put o.dst v') w') : o.wp P a w K Q := by
  unfold Oper.wp
  simp [execOp, hop, resolve, invoke, builtin, hs, hx, hrun, Result.andThen]
  exact hK
theorem walkW_app {P : Program} {ops : Array Oper} {C : World → Prop} {Q : Act → World → Prop} {i : Nat} {rest : List (Bool × Nat)} {a : Act} {w w' : World} {o : Oper} {v v2 v' : Value} (ho : ops[i]? = some o) (hC : C w) (hw : Region.wanted o (yielded ops a.tmps) = true)
    (s x : Operand) (t : TypeId) (hop : o.op = Op.call { callee := Callee.builtin Builtin.append, args := #[s, x], argTypes := #[t, t] })
    (hs : a.eval s = v) (hx : a.eval x = v2) (hrun : (Builtin.append_ #[t, t] o.type #[v, v2]).run P w = .ok v' w') (hK : walkW P ops Q rest C (a.put o.dst v') w') : walkW P ops Q ((false, i) :: rest) C a w :=
  walkW_do ho hC (fun K hK' => by rw [if_pos hw]; exact wp_appP s x t hop hs hx hrun (hK' _ _ hK))
theorem infoPtr : (Tryz.prog.info? 84).map (fun i => (i.zero, i.size, i.bytes)) = some (some (.pointer none), 1, 8) := by kernel_rfl
/-- One row of pointers behind another. -/
theorem app_ptr (W : World) (ty lo z : Nat) (a b : Option Addr) (n c m d : Nat) (xs ys : List Nat) (_hn : xs.length = n) (hm : ys.length = m) (hown : W.ownsRow lo 84 1 (.slice a n c) n (xs.map (pF z))) (hs : W.ownsRow lo 84 1 (.slice b m d) m (ys.map (pF z))) (hne : 0 < m) (hl : n + m ≤ 1000) (hlo : lo ≤ W.heap.size) :
    ∃ v' w', (Builtin.append_ #[82, 82] ty #[.slice a n c, .slice b m d]).run Tryz.prog W = .ok v' w' ∧ w'.ownsRow lo 84 1 v' (n + m) ((xs ++ ys).map (pF z)) ∧ Keep (fun k => (Value.slice a n c).ownBlock = some k) W w' := by
  obtain ⟨i0, hi, hz0, hz1, hz2⟩ := info_parts infoPtr
  obtain ⟨-, ⟨-, h0⟩ | ⟨g, cap, cur, e, hg, hh, hnc, hcm, hsz, htk⟩⟩ := hs
  · omega
  obtain ⟨rfl, -, rfl⟩ := Value.slice.inj e
  obtain ⟨v', w', r1, r2, r3, r4, r5⟩ := run_append_own_at (P := Tryz.prog) W lo 82 ty 84 i0 _ 1 8 Tryz.underlying82 hi hz0 hz1 hz2 rfl (by decide) (.slice a n c) n (xs.map (pF z)) hown ⟨g, 0, none⟩ m d (ys.map (pF z)) (by simp [hm])
    (by
      intro j u hj
      rw [Addr.add_lit, Nat.zero_add]
      rw [← htk, List.getElem?_take] at hj
      split at hj
      · simp only [World.cell?, hh]
        simpa using hj
      · cases hj)
    (by
      intro u hu
      obtain ⟨f, _, rfl⟩ := List.mem_map.1 hu
      rfl) (by unfold maxLen; omega) (by omega) hlo
  exact ⟨v', w', r1, by rw [List.map_append]; exact r2, Keep.of_grown r3⟩
set_option maxRecDepth 100000 in
set_option maxHeartbeats 1000000 in
theorem rowFields_any (z : Nat) (w : World) : Calls Tryz.prog 34 #[ptr z] w (FldPost z [1, 3] w) := by
  have HK : Hid (Keep (fun _ => False) w w.drew) := Lib.hid (Keep.refl _ w).drew
  have HK1 : Hid (Keep (fun _ => False) w (w.alloc (.cells #[pF z 1, pF z 3] 84)).drew) := Lib.hid ((Keep.refl _ w).alloc _).drew
  have HO : Hid ((w.alloc (.cells #[pF z 1, pF z 3] 84)).drew.ownsRow w.heap.size 84 1 (.slice (some ⟨w.heap.size, 0, none⟩) 2 2) 2 [pF z 1, pF z 3]) := Lib.hid (own_new w w.heap.size [pF z 1, pF z 3] 84 (Nat.le_refl _) (by simp) (by simp))
  go_enter Tryz.func34, Tryz.ntmps34
  go_upto_region 1 with (fail)
  refine wp_region_walk [(true, 0), (true, 1), (true, 2), (false, 3), (false, 4), (false, 5), (false, 6), (false, 7)] (inKA (fun _ => False) w) (by kernel_rfl) (by kernel_rfl) ?_
  iterate 3 (refine walkW_read rfl (fun K hK => ?_); go_simp; refine hK _ ?_; clear hK K)
  iterate 4 (refine walkW_do rfl (inKA.of HK.out) (fun K hK => ?_); go_simp; refine hK _ _ ?_; clear hK K)
  refine walkW_do rfl (inKA.of HK1.out) (fun K hK => ?_)
  go_simp
  refine hK _ _ ?_; clear hK K
  refine ⟨inKA.of HK1.out, ?_⟩
  go_wp2_with fail
  go_ret
  exact ⟨_, _, rfl, HO.out, HK1.out⟩
set_option maxRecDepth 100000 in
set_option maxHeartbeats 1000000 in
theorem rangeFields_any (z : Nat) (w : World) : Calls Tryz.prog 35 #[ptr z] w (FldPost z [1, 2, 3, 4] w) := by
  have HK : Hid (Keep (fun _ => False) w w.drew) := Lib.hid (Keep.refl _ w).drew
  have HK1 : Hid (Keep (fun _ => False) w (w.alloc (.cells #[pF z 1, pF z 2, pF z 3, pF z 4] 84)).drew) := Lib.hid ((Keep.refl _ w).alloc _).drew
  have HO : Hid ((w.alloc (.cells #[pF z 1, pF z 2, pF z 3, pF z 4] 84)).drew.ownsRow w.heap.size 84 1 (.slice (some ⟨w.heap.size, 0, none⟩) 4 4) 4 [pF z 1, pF z 2, pF z 3, pF z 4]) := Lib.hid (own_new w w.heap.size [pF z 1, pF z 2, pF z 3, pF z 4] 84 (Nat.le_refl _) (by simp) (by simp))
  go_enter Tryz.func35, Tryz.ntmps35
  go_upto_region 1 with (fail)
  refine wp_region_walk [(true, 0), (true, 1), (true, 2), (true, 3), (true, 4), (true, 5), (true, 6), (true, 7), (true, 8), (false, 9), (false, 10), (false, 11), (false, 12), (false, 13)] (inKA (fun _ => False) w) (by kernel_rfl) (by kernel_rfl) ?_
  iterate 9 (refine walkW_read rfl (fun K hK => ?_); go_simp; refine hK _ ?_; clear hK K)
  iterate 4 (refine walkW_do rfl (inKA.of HK.out) (fun K hK => ?_); go_simp; refine hK _ _ ?_; clear hK K)
  refine walkW_do rfl (inKA.of HK1.out) (fun K hK => ?_)
  go_simp
  refine hK _ _ ?_; clear hK K
  refine ⟨inKA.of HK1.out, ?_⟩
  go_wp2_with fail
  go_ret
  exact ⟨_, _, rfl, HO.out, HK1.out⟩
theorem own_kept {W W' : World} {lo : Nat} {e : TypeId} {z n : Nat} {v : Value} {xs : List Value} (h : W.ownsRow lo e z v n xs) (k : Keep (fun _ => False) W W') : W'.ownsRow lo e z v n xs := by
  obtain ⟨h1, h2 | ⟨g, cap, cur, hv, hg, hh, h3⟩⟩ := h
  · exact ⟨h1, .inl h2⟩
  · exact ⟨h1, .inr ⟨g, cap, cur, hv, hg, k.heap hh (fun h => h), h3⟩⟩
theorem own_low {W : World} {lo lo' : Nat} {e : TypeId} {z n : Nat} {v : Value} {xs : List Value} (h : W.ownsRow lo e z v n xs) (hl : lo' ≤ lo) : W.ownsRow lo' e z v n xs := by
  obtain ⟨h1, h2 | ⟨g, cap, cur, hv, hg, h3⟩⟩ := h
  · exact ⟨h1, .inl h2⟩
  · exact ⟨h1, .inr ⟨g, cap, cur, hv, Nat.le_trans hl hg, h3⟩⟩
/-- What the free operations answer. -/
def aggFields_anyS (w : World) (z : Nat) (t : Nat) (v : Value) (W : World) : Prop :=
  (t = 6 → ∃ a c, v = .slice a 1 c ∧ W.ownsRow w.heap.size 84 1 (.slice a 1 c) 1 ([5].map (pF z))) ∧
  (t = 8 → ∃ a c, v = .slice a 4 c ∧ W.ownsRow w.heap.size 84 1 (.slice a 4 c) 4 ([1, 2, 3, 4].map (pF z)))
theorem aggFields_anyS_keep {u : World} {z : Nat} (t : Nat) (v : Value) (w w' : World) (h : aggFields_anyS u z t v w) (k : Keep (fun _ => False) w w') : aggFields_anyS u z t v w' := by
  obtain ⟨h1, h2⟩ := h
  refine ⟨fun e => ?_, fun e => ?_⟩
  · obtain ⟨a, c, q1, q2⟩ := h1 e
    exact ⟨a, c, q1, own_kept q2 k⟩
  · obtain ⟨a, c, q1, q2⟩ := h2 e
    exact ⟨a, c, q1, own_kept q2 k⟩
set_option maxRecDepth 100000 in
set_option maxHeartbeats 2000000 in
theorem aggFields_any (z : Nat) (w : World) : Calls Tryz.prog 36 #[ptr z] w (FldPost z [5, 1, 2, 3, 4] w) := by
  have HRF : Hid (∀ W, Calls Tryz.prog 35 #[ptr z] W (FldPost z [1, 2, 3, 4] W)) := Lib.hid (rangeFields_any z)
  go_enter Tryz.func36, Tryz.ntmps36
  go_upto_region 1 with (fail)
  refine wp_region_free [0, 1, 2, 4] [⟨3, 6, []⟩, ⟨5, 8, []⟩] [(false, 6), (false, 7)] (inKA (fun _ => False) w) (aggFields_anyS w z) (Keep (fun _ => False)) (by kernel_rfl) (by kernel_rfl) (inKA.of (Keep.refl _ w).drew) aggFields_anyS_keep (fun w w' hw hk => by obtain ⟨p, rfl⟩ := hw; exact inKA.of (p.k.trans hk)) ?_
  iterate 4 (refine headW_step rfl (fun K hK => ?_); go_simp; refine hK _ ?_; clear hK K)
  refine ⟨?_, ?_, ?_⟩
  · intro h hh
    simp only [List.mem_cons, List.not_mem_nil, or_false] at hh
    rcases hh with rfl | rfl <;> simp
  · refine freeW_step rfl (fun vs W hC hS K hK => ?_) (freeW_step rfl (fun vs W hC hS K hK => ?_) trivial)
    · obtain ⟨p, rfl⟩ := hC
      simp only [putL, List.foldl]
      have HO := Lib.hid (own_new p.val w.heap.size [pF z 5] 84 p.k.size (by simp) (by simp))
      go_simp
      exact hK _ _ ⟨fun _ => ⟨_, _, rfl, HO.out⟩, fun e => absurd e (by decide)⟩ ((Keep.refl _ p.val).alloc _)
    · obtain ⟨p, rfl⟩ := hC
      simp only [putL, List.foldl]
      have HSZ := Lib.hid p.k.size
      go_simp
      refine (HRF.out p.val).mono ?_
      rintro e W2 ⟨a, c, rfl, ho, kk⟩
      exact hK _ _ ⟨fun e => absurd e (by decide), fun _ => ⟨_, _, rfl, own_low ho HSZ.out⟩⟩ kk
  · intro vs W hC hS
    obtain ⟨p, rfl⟩ := hC
    obtain ⟨a1, c1, e1, o1⟩ := (hS ⟨3, 6, []⟩ (by simp)).1 rfl
    obtain ⟨a2, c2, e2, o2⟩ := (hS ⟨5, 8, []⟩ (by simp)).2 rfl
    simp only [] at e1 e2
    simp only [List.map, putL, List.foldl]
    generalize vs 6 = v1 at *
    generalize vs 8 = v2 at *
    subst e1 e2
    have HKP := Lib.hid p.k
    have hap := app_ptr p.val 82 w.heap.size z a1 a2 1 c1 4 c2 [5] [1, 2, 3, 4] rfl rfl o1 o2 (by decide) (by decide) p.k.size
    obtain ⟨v', w', r1, r2, r3⟩ := hap
    have HR := Lib.hid r1
    have HO := Lib.hid r2
    have hz : ∀ j, (Value.slice a1 1 c1).ownBlock = some j → w.heap.size ≤ j := fun j hj => (o1.lt j hj).1
    have HKQ : Hid (Keep (fun _ => False) w w') := Lib.hid (HKP.out.trans' r3 (fun j e => .inr (hz j e)))
    clear hS o1 o2 r1 r2 r3 hz
    generalize p.val = V at *
    obtain ⟨av, cv, rfl⟩ : ∃ a c, v' = .slice a 5 c := by
      rcases HO.out.2 with ⟨_, h0⟩ | ⟨g, c, cur, hv, _⟩
      · exact absurd h0 (by decide)
      · exact ⟨_, _, hv⟩
    refine walkW_app rfl (inKA.of HKP.out) rfl (.tmp 6) (.tmp 8) 82 rfl rfl rfl HR.out ?_
    refine walkW_do rfl (inKA.of HKQ.out) (fun K hK => ?_)
    go_simp
    refine hK _ _ ?_; clear hK K
    refine ⟨inKA.of HKQ.out, ?_⟩
    go_wp2_with fail
    go_ret
    exact ⟨_, _, rfl, HO.out, HKQ.out⟩
/-- What the free operations answer. -/
def joinFields_anyS (w : World) (z : Nat) (t : Nat) (v : Value) (W : World) : Prop :=
  (t = 9 → ∃ a c, v = .slice a 2 c ∧ W.ownsRow w.heap.size 84 1 (.slice a 2 c) 2 ([5, 6].map (pF z))) ∧
  (t = 11 → ∃ a c, v = .slice a 4 c ∧ W.ownsRow w.heap.size 84 1 (.slice a 4 c) 4 ([1, 2, 3, 4].map (pF z)))
theorem joinFields_anyS_keep {u : World} {z : Nat} (t : Nat) (v : Value) (w w' : World) (h : joinFields_anyS u z t v w) (k : Keep (fun _ => False) w w') : joinFields_anyS u z t v w' := by
  obtain ⟨h1, h2⟩ := h
  refine ⟨fun e => ?_, fun e => ?_⟩
  · obtain ⟨a, c, q1, q2⟩ := h1 e
    exact ⟨a, c, q1, own_kept q2 k⟩
  · obtain ⟨a, c, q1, q2⟩ := h2 e
    exact ⟨a, c, q1, own_kept q2 k⟩
set_option maxRecDepth 100000 in
set_option maxHeartbeats 2000000 in
theorem joinFields_any (z : Nat) (w : World) : Calls Tryz.prog 37 #[ptr z] w (FldPost z [5, 6, 1, 2, 3, 4] w) := by
  have HRF : Hid (∀ W, Calls Tryz.prog 35 #[ptr z] W (FldPost z [1, 2, 3, 4] W)) := Lib.hid (rangeFields_any z)
  go_enter Tryz.func37, Tryz.ntmps37
  go_upto_region 1 with (fail)
  refine wp_region_free [0, 1, 2, 3, 4, 5, 7] [⟨6, 9, []⟩, ⟨8, 11, []⟩] [(false, 9), (false, 10)] (inKA (fun _ => False) w) (joinFields_anyS w z) (Keep (fun _ => False)) (by kernel_rfl) (by kernel_rfl) (inKA.of (Keep.refl _ w).drew) joinFields_anyS_keep (fun w w' hw hk => by obtain ⟨p, rfl⟩ := hw; exact inKA.of (p.k.trans hk)) ?_
  iterate 7 (refine headW_step rfl (fun K hK => ?_); go_simp; refine hK _ ?_; clear hK K)
  refine ⟨?_, ?_, ?_⟩
  · intro h hh
    simp only [List.mem_cons, List.not_mem_nil, or_false] at hh
    rcases hh with rfl | rfl <;> simp
  · refine freeW_step rfl (fun vs W hC hS K hK => ?_) (freeW_step rfl (fun vs W hC hS K hK => ?_) trivial)
    · obtain ⟨p, rfl⟩ := hC
      simp only [putL, List.foldl]
      have HO := Lib.hid (own_new p.val w.heap.size [pF z 5, pF z 6] 84 p.k.size (by simp) (by simp))
      go_simp
      exact hK _ _ ⟨fun _ => ⟨_, _, rfl, HO.out⟩, fun e => absurd e (by decide)⟩ ((Keep.refl _ p.val).alloc _)
    · obtain ⟨p, rfl⟩ := hC
      simp only [putL, List.foldl]
      have HSZ := Lib.hid p.k.size
      go_simp
      refine (HRF.out p.val).mono ?_
      rintro e W2 ⟨a, c, rfl, ho, kk⟩
      exact hK _ _ ⟨fun e => absurd e (by decide), fun _ => ⟨_, _, rfl, own_low ho HSZ.out⟩⟩ kk
  · intro vs W hC hS
    obtain ⟨p, rfl⟩ := hC
    obtain ⟨a1, c1, e1, o1⟩ := (hS ⟨6, 9, []⟩ (by simp)).1 rfl
    obtain ⟨a2, c2, e2, o2⟩ := (hS ⟨8, 11, []⟩ (by simp)).2 rfl
    simp only [] at e1 e2
    simp only [List.map, putL, List.foldl]
    generalize vs 9 = v1 at *
    generalize vs 11 = v2 at *
    subst e1 e2
    have HKP := Lib.hid p.k
    have hap := app_ptr p.val 82 w.heap.size z a1 a2 2 c1 4 c2 [5, 6] [1, 2, 3, 4] rfl rfl o1 o2 (by decide) (by decide) p.k.size
    obtain ⟨v', w', r1, r2, r3⟩ := hap
    have HR := Lib.hid r1
    have HO := Lib.hid r2
    have hz : ∀ j, (Value.slice a1 2 c1).ownBlock = some j → w.heap.size ≤ j := fun j hj => (o1.lt j hj).1
    have HKQ : Hid (Keep (fun _ => False) w w') := Lib.hid (HKP.out.trans' r3 (fun j e => .inr (hz j e)))
    clear hS o1 o2 r1 r2 r3 hz
    generalize p.val = V at *
    obtain ⟨av, cv, rfl⟩ : ∃ a c, v' = .slice a 6 c := by
      rcases HO.out.2 with ⟨_, h0⟩ | ⟨g, c, cur, hv, _⟩
      · exact absurd h0 (by decide)
      · exact ⟨_, _, hv⟩
    refine walkW_app rfl (inKA.of HKP.out) rfl (.tmp 9) (.tmp 11) 82 rfl rfl rfl HR.out ?_
    refine walkW_do rfl (inKA.of HKQ.out) (fun K hK => ?_)
    go_simp
    refine hK _ _ ?_; clear hK K
    refine ⟨inKA.of HKQ.out, ?_⟩
    go_wp2_with fail
    go_ret
    exact ⟨_, _, rfl, HO.out, HKQ.out⟩
end Go.Proofs.YtmndjicaofciiaaGreatDoor
