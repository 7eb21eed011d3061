/-
  Assign refused; Clone of members; New.
-/
import Derived.Test.YtplkmbfeeegaiaaDoorB3
namespace Go.Proofs.YtplkmbfeeegaiaaDoor
open Go.RowKit Go.Shelf
attribute [local go_sem] Oper.semAt_some

set_option maxRecDepth 100000 in
set_option maxHeartbeats 2000000 in
theorem assign_bad (v : Value) (l : List Mb) (w : World) (h : Mbs w v l) (hv : ¬ VL l) : Calls Tryd.prog 15 #[v] w fun e w' => e = .returned (.tuple #[.slice none 0 0, .int .i64 120]) ∧ Keep (fun _ => False) w w' := by
  have HVA : Hid (Calls Tryd.prog 19 #[v] w fun e w' => e = .returned (.bool false) ∧ Keep (fun _ => False) w w') := Lib.hid (by
    have := valid_any v l w h
    rwa [show validL l = false from by
      cases e : validL l with
      | false => rfl
      | true => exact absurd ((validL_iff l).1 e) hv] at this)
  clear h hv
  refine (callsIn_wide (n := 0)).1 ?_
  refine callsIn_of_wp_marks Tryd.func15 rfl trivial ?_ rfl
  simp only [Tryd.ntmps15, List.size_toArray, List.length_cons, List.length_nil, Nat.reduceAdd, Nat.reduceSub, Array.replicate_succ, Array.replicate_zero, List.push_toArray, List.append_toArray, List.nil_append, List.cons_append]
  refine wpIn_wide.2 ?_
  go_wp2_with fail
  go_step3
  go_wp2_with fail
  with_reducible refine HVA.out.mono ?_
  rintro e W1 ⟨rfl, k1⟩
  have HK1 := Lib.hid k1
  clear k1 HVA
  go_wp2_with fail
  rw [Exit.noGoto_ret]
  exact ⟨.tuple #[.slice none 0 0, .int .i64 120], by simp [results, Tryd.f15, go_sem], rfl, HK1.out⟩

def encMb (m : Mb) : List Value := [.int .i64 m.node, .int .i64 m.region, .int .i64 m.weight]
def flatB (l : List Mb) : List Value := l.flatMap encMb
theorem flatB_append (a b : List Mb) : flatB (a ++ b) = flatB a ++ flatB b := by unfold flatB; rw [List.flatMap_append]
theorem flatB_one (x : Mb) : flatB [x] = encMb x := by simp [flatB]
theorem flatB_len (l : List Mb) : (flatB l).length = l.length * 3 := by
  induction l with
  | nil => rfl
  | cons x l ih => unfold flatB at ih ⊢; rw [List.flatMap_cons, List.length_append, ih]; simp [encMb]; omega
theorem flatB_get : ∀ (l : List Mb) (q : Nat) (x : Mb) (r : Nat), l[q]? = some x → r < 3 → (flatB l)[q * 3 + r]? = (encMb x)[r]?
  | [], q, x, r, h, _ => by simp at h
  | y :: l, 0, x, r, h, hr => by
    simp only [List.getElem?_cons_zero, Option.some.injEq] at h
    subst h
    unfold flatB
    rw [List.flatMap_cons, Nat.zero_mul, Nat.zero_add, List.getElem?_append_left (by simp [encMb]; omega)]
  | y :: l, q + 1, x, r, h, hr => by
    simp only [List.getElem?_cons_succ] at h
    have ih := flatB_get l q x r h hr
    unfold flatB at ih ⊢
    rw [List.flatMap_cons, List.getElem?_append_right (by simp [encMb]; omega)]
    have e : (q + 1) * 3 + r - (encMb y).length = q * 3 + r := by simp [encMb]; omega
    rw [e]; exact ih
theorem flatB_cells {W : World} {b off : Nat} {l : List Mb} (h : ∀ j m, l[j]? = some m → W.cell? ⟨b, off + j * 3, none⟩ = some (.int .i64 m.node) ∧ W.cell? ⟨b, off + j * 3 + 1, none⟩ = some (.int .i64 m.region) ∧ W.cell? ⟨b, off + j * 3 + 2, none⟩ = some (.int .i64 m.weight)) (j : Nat) (u : Value) (hj : (flatB l)[j]? = some u) : W.cell? ⟨b, off + j, none⟩ = some u := by
  have hlt := (List.getElem?_eq_some_iff.1 hj).1
  rw [flatB_len] at hlt
  have hq : j / 3 < l.length := by omega
  have hx : l[j / 3]? = some l[j / 3] := List.getElem?_eq_getElem hq
  have h1 := flatB_get l (j / 3) _ (j % 3) hx (by omega)
  rw [show j / 3 * 3 + j % 3 = j by omega, hj] at h1
  have h2 := h _ _ hx
  have hr : j % 3 = 0 ∨ j % 3 = 1 ∨ j % 3 = 2 := by omega
  rcases hr with e | e | e
  · rw [e] at h1
    simp only [encMb, List.getElem?_cons_zero, Option.some.injEq] at h1
    rw [h1, ← h2.1]; congr 2; omega
  · rw [e] at h1
    simp only [encMb, List.getElem?_cons_succ, List.getElem?_cons_zero, Option.some.injEq] at h1
    rw [h1, ← h2.2.1]; congr 2; omega
  · rw [e] at h1
    simp only [encMb, List.getElem?_cons_succ, List.getElem?_cons_zero, Option.some.injEq] at h1
    rw [h1, ← h2.2.2]; congr 2; omega
theorem mbs_owns {W : World} {lo : Nat} {v : Value} {l : List Mb} (h : W.ownsRow lo 25 3 v l.length (flatB l)) (hl : l.length ≤ 1000000) (hb : ∀ m ∈ l, I64 m.node ∧ I64 m.region ∧ I64 m.weight) : Mbs W v l := by
  rcases h.2 with ⟨rfl, hx⟩ | ⟨g, cap, cur, rfl, _, _, hc, r⟩
  · have : l = [] := List.eq_nil_of_length_eq_zero hx
    subst this
    exact ⟨by simp, by simp, none, 0, 0, 0, rfl, by simp, fun h => by simp at h, fun j x hj => by simp at hj⟩
  · refine ⟨by omega, hb, some ⟨g, 0, none⟩, cap, g, 0, rfl, hc, fun _ => rfl, fun j x hj => ?_⟩
    have key : ∀ r, r < 3 → ∀ u, (encMb x)[r]? = some u → W.cell? ⟨g, 0 + (j * 3 + r), none⟩ = some u := fun r hr u hu => by
      have h1 := flatB_get l j x r hj hr
      rw [hu] at h1
      have h3 := h.cells (g := g) rfl _ _ h1
      rwa [Addr.add_lit] at h3
    exact ⟨key 0 (by decide) _ rfl, by have := key 1 (by decide) _ rfl; rwa [← Nat.add_assoc] at this, by have := key 2 (by decide) _ rfl; rwa [← Nat.add_assoc] at this⟩
theorem its_owns {W : World} {lo : Nat} {v : Value} {xs : List Int} (h : W.ownsRow lo 3 1 v xs.length (xs.map (fun x => Value.int .i64 x))) (hl : xs.length ≤ 1000000) (hb : ∀ x ∈ xs, I64 x) : Its W v xs := by
  rcases h.2 with ⟨rfl, hx⟩ | ⟨g, cap, cur, rfl, _, _, hc, r⟩
  · have : xs = [] := List.eq_nil_of_length_eq_zero hx
    subst this
    exact Its.nil W
  · refine ⟨by omega, hb, some ⟨g, 0, none⟩, cap, g, 0, rfl, hc, fun _ => rfl, fun j x hj => ?_⟩
    have h3 := h.cells (g := g) rfl j (.int .i64 x) (by rw [List.getElem?_map, hj]; rfl)
    rwa [Addr.add_lit] at h3

/-- More members. -/
theorem app_mbs (W : World) (ty lo : Nat) (v src : Value) (l ys : List Mb) (hown : W.ownsRow lo 25 3 v l.length (flatB l)) (hs : Mbs W src ys) (hne : 0 < ys.length) (hn : l.length + ys.length ≤ 100000) (hlo : lo ≤ W.heap.size) :
    ∃ v' w', (Builtin.append_ #[22, 22] ty #[v, src]).run Tryd.prog W = .ok v' w' ∧ w'.ownsRow lo 25 3 v' (l ++ ys).length (flatB (l ++ ys)) ∧
      Keep (fun k => v.ownBlock = some k) W w' ∧ (v'.ownBlock = v.ownBlock ∨ v'.ownBlock = some W.heap.size) := by
  obtain ⟨hn2, hb, a, c, b, off, rfl, hc, ha, hcell⟩ := hs
  obtain rfl := ha hne
  obtain ⟨i0, hi, hz0, hz1, hz2⟩ := info_parts infoMb
  obtain ⟨v', w', r1, r2, r3, r4, r5⟩ := run_append_own_at (P := Tryd.prog) W lo 22 ty 25 i0 _ 3 24 Tryd.underlying22 hi hz0 hz1 hz2 rfl (by decide) v l.length (flatB l) hown ⟨b, off, none⟩ ys.length c (flatB ys) (flatB_len ys)
    (by
      intro j u hj
      rw [Addr.add_lit]
      exact flatB_cells hcell j u hj)
    (by
      intro u hu
      unfold flatB at hu
      obtain ⟨m, _, hu⟩ := List.mem_flatMap.1 hu
      simp only [encMb, List.mem_cons, List.not_mem_nil, or_false] at hu
      rcases hu with rfl | rfl | rfl <;> rfl) (by unfold maxLen; omega) (by omega) hlo
  refine ⟨v', w', r1, ?_, Keep.of_grown r3, r5⟩
  rw [flatB_append, List.length_append]
  exact r2

def ClonePost (l : List Mb) (w : World) (e : Ending) (w' : World) : Prop := ∃ v, e = .returned v ∧ w'.ownsRow w.heap.size 25 3 v l.length (flatB l) ∧ Keep (fun _ => False) w w'
set_option maxRecDepth 100000 in
set_option maxHeartbeats 1000000 in
theorem cloneMb_any (v : Value) (l : List Mb) (w : World) (h : Mbs w v l) (hne : 0 < l.length) (hl : l.length ≤ 1000) : Calls Tryd.prog 54 #[v] w (ClonePost l w) := by
  have k1 : Keep (fun _ => False) w (w.alloc (.cells #[] 25)) := (Keep.refl _ w).alloc _
  obtain ⟨v', W2, hr, hown, hkp, hob⟩ := app_mbs (w.alloc (.cells #[] 25)) 22 w.heap.size (.slice (some ⟨w.heap.size, 0, none⟩) 0 0) v [] l (World.ownsRow_lit w #[] 0 (Nat.le_refl _) (by decide) rfl) (h.kept k1) hne (by simp; omega) (by simp)
  rw [List.nil_append] at hown
  have HP : Hid (ClonePost l w (.returned v') W2) := Lib.hid ⟨v', rfl, hown, k1.trans' hkp (fun j e => by cases e; exact .inr (Nat.le_refl _))⟩
  obtain ⟨-, -, a, c, b, off, rfl, -, ha, -⟩ := h
  obtain rfl := ha hne
  have HR := Lib.hid hr
  clear hr hown hkp hob k1 ha
  have heq : (binOp BinOp.eql 22 (.slice (some ⟨b, off, none⟩) l.length c) (.slice none 0 0)).run Tryd.prog w = .ok (.bool false) w := by
    simp only [binOp]
    simp [Op.equal, Op.maxDepth, Lib.run_equalIn_slice_nil w 9999 22 25 (some ⟨b, off, none⟩) l.length c 0 0 Tryd.underlying22]
  go_enter Tryd.func54, Tryd.ntmps54
  go_wp2_with (at_builtin; refine wpList_app rfl (.tmp 5) (.tmp 6) 22 rfl rfl rfl HR.out ?_)
  go_ret
  exact HP.out

/-- A ring of its own. -/
def NewPost (ep : Int) (l : List Mb) (w : World) (e : Ending) (w' : World) : Prop := ∃ vm vo, e = .returned (.tuple #[ringV ep vm vo, .int .i64 0]) ∧ w'.ownsRow w.heap.size 25 3 vm l.length (flatB l) ∧ w'.ownsRow w.heap.size 3 1 vo (ownersL PN QS l).length ((ownersL PN QS l).map (fun x => Value.int .i64 x)) ∧ (∀ b, vo.ownBlock = some b → vm.ownBlock ≠ some b) ∧ Keep (fun _ => False) w w'
theorem VL.bd {l : List Mb} (h : VL l) : ∀ m ∈ l, I64 m.node ∧ I64 m.region ∧ I64 m.weight := fun m hm => by
  have := h.ok m hm
  unfold okMb at this
  unfold I64
  omega
theorem VL.obd {l : List Mb} (h : VL l) : ∀ x ∈ ownersL PN QS l, I64 x := fun x hx => by
  obtain ⟨m, hm, rfl⟩ := (owners_ok PN QS h).2.2 x hx
  exact (h.bd m hm).1

set_option maxRecDepth 100000 in
set_option maxHeartbeats 2000000 in
theorem new_ok (ep : Int) (v : Value) (l : List Mb) (w : World) (h : Mbs w v l) (hv : VL l) (hT : Tab w) (he : 1 ≤ ep ∧ ep ≤ 1000000) : Calls Tryd.prog 17 #[.int .i64 ep, v] w (NewPost ep l w) := by
  have HAS : Hid (∀ W, Keep (fun _ => False) w W → Calls Tryd.prog 15 #[v] W (AsgPost l W)) := Lib.hid (fun W k => assign_ok v l W (h.kept k) hv (hT.kept k))
  have HCL : Hid (∀ W, Keep (fun _ => False) w W → Calls Tryd.prog 54 #[v] W (ClonePost l W)) := Lib.hid (fun W k => cloneMb_any v l W (h.kept k) (List.length_pos_iff.2 hv.ne) (by have := hv.len; omega))
  have HEP := Lib.hid (decide_eq_true he)
  clear h hv hT he
  have HK0 : Hid (Keep (fun _ => False) w (w.alloc (.cells #[.int .i64 0, .slice none 0 0, .slice none 0 0] 31))) := Lib.hid ((Keep.refl _ w).alloc _)
  have HT3 := Lib.hid (three_cell w (.int .i64 0) (.slice none 0 0) (.slice none 0 0) 31)
  go_enter Tryd.func17, Tryd.ntmps17
  go_wp2_with fail
  generalize w.alloc (.cells #[.int .i64 0, .slice none 0 0, .slice none 0 0] 31) = W0 at *
  generalize hz : w.heap.size = z at HT3
  have HZ := Lib.hid hz
  clear hz
  with_reducible refine (HAS.out _ HK0.out).mono ?_
  rintro e W1 ⟨vo, rfl, how, k1⟩
  have HK1 := Lib.hid (HK0.out.trans k1)
  have HSZ1 := Lib.hid k1.size
  have HOW := Lib.hid how
  have HT1 := Lib.hid (And.intro (k1.cell HT3.out.1 (fun h => h)) (And.intro (k1.cell HT3.out.2.1 (fun h => h)) (And.intro (k1.cell HT3.out.2.2.1 (fun h => h)) (fun o => (k1.frozen (World.block_lt_of_cell? _ _ HT3.out.1) (fun h => h) o).trans (HT3.out.2.2.2 o)))))
  clear k1 how
  go_wp2_with fail
  with_reducible refine (within_b ep 1 1000000 true HEP.out _).mono ?_
  rintro e w' ⟨rfl, rfl⟩
  go_wp2_with fail
  with_reducible refine (HCL.out _ HK1.out).mono ?_
  rintro e W2 ⟨vm, rfl, hmb, k2⟩
  have hform : (∃ a n c, vo = .slice a n c) ∧ ∃ a n c, vm = .slice a n c := by
    constructor
    · rcases HOW.out.2 with ⟨rfl, _⟩ | ⟨g, cap, cur, rfl, _⟩ <;> exact ⟨_, _, _, rfl⟩
    · rcases hmb.2 with ⟨rfl, _⟩ | ⟨g, cap, cur, rfl, _⟩ <;> exact ⟨_, _, _, rfl⟩
  obtain ⟨⟨oa, on, oc, rfl⟩, ma, mn, mc, rfl⟩ := hform
  have f0 := k2.cell HT1.out.1 (fun h => h)
  have f1 := k2.cell HT1.out.2.1 (fun h => h)
  have f2 := k2.cell HT1.out.2.2.1 (fun h => h)
  have ff : ∀ o, W2.frozen? ⟨z, o, none⟩ = false := fun o => (k2.frozen (World.block_lt_of_cell? _ _ HT1.out.1) (fun h => h) o).trans (HT1.out.2.2.2 o)
  have HK2 := Lib.hid (HK1.out.trans k2)
  have HOW2 := Lib.hid (ownsRow_keep HOW.out k2 (fun _ _ h => h))
  have HMB := Lib.hid hmb
  have HLT := Lib.hid (fun b (e : (Value.slice oa on oc).ownBlock = some b) => (HOW.out.lt b e))
  clear k2 hmb HOW
  go_wp2_with fail
  have g0 : (((W2.setCell ⟨z, 0, none⟩ (.int .i64 ep)).setCell ⟨z, 1, none⟩ (.slice ma mn mc)).setCell ⟨z, 2, none⟩ (.slice oa on oc)).cell? ⟨z, 0, none⟩ = some (.int .i64 ep) := (cell_set_off (by decide)).trans ((cell_set_off (by decide)).trans (cell_set_same f0))
  have g1 : (((W2.setCell ⟨z, 0, none⟩ (.int .i64 ep)).setCell ⟨z, 1, none⟩ (.slice ma mn mc)).setCell ⟨z, 2, none⟩ (.slice oa on oc)).cell? ⟨z, 1, none⟩ = some (.slice ma mn mc) := (cell_set_off (by decide)).trans (cell_set_same ((cell_set_off (by decide)).trans f1))
  have g2 : (((W2.setCell ⟨z, 0, none⟩ (.int .i64 ep)).setCell ⟨z, 1, none⟩ (.slice ma mn mc)).setCell ⟨z, 2, none⟩ (.slice oa on oc)).cell? ⟨z, 2, none⟩ = some (.slice oa on oc) := cell_set_same ((cell_set_off (by decide)).trans ((cell_set_off (by decide)).trans f2))
  have HKS : Hid (Keep (fun j => j = z) W2 (((W2.setCell ⟨z, 0, none⟩ (.int .i64 ep)).setCell ⟨z, 1, none⟩ (.slice ma mn mc)).setCell ⟨z, 2, none⟩ (.slice oa on oc))) := Lib.hid ((((Keep.refl (fun j => j = z) W2).setCell (p := ⟨z, 0, none⟩) _ (.inl rfl)).setCell (p := ⟨z, 1, none⟩) _ (.inl rfl)).setCell (p := ⟨z, 2, none⟩) _ (.inl rfl))
  generalize ((W2.setCell ⟨z, 0, none⟩ (.int .i64 ep)).setCell ⟨z, 1, none⟩ (.slice ma mn mc)).setCell ⟨z, 2, none⟩ (.slice oa on oc) = W3 at *
  refine bodyPost_ret (v := .tuple #[ringV ep (.slice ma mn mc) (.slice oa on oc), .int .i64 0]) (by simp [results, Tryd.results17, go_sem, g0, g1, g2]) rfl ?_
  have hz0 : w.heap.size = z := HZ.out
  have hW0 := World.block_lt_of_cell? _ _ HT3.out.1
  simp only [] at hW0
  have hW1 := HK1.out.size
  refine ⟨_, _, rfl, ownsRow_lo (ownsRow_keep HMB.out HKS.out (fun b hb e => ?_)) hW1, ownsRow_lo (ownsRow_keep HOW2.out HKS.out (fun b hb e => ?_)) HK0.out.size, fun b hb hm => ?_, HK2.out.trans' HKS.out (fun i e => .inr (by omega))⟩
  · have := (HMB.out.lt b hb).1
    have h3 : W0.heap.size ≤ W1.heap.size := HSZ1.out
    omega
  · have := (HOW2.out.lt b hb).1; omega
  · have h1 := (HMB.out.lt b hm).1
    have h2 := (HLT.out b hb).2
    omega
end Go.Proofs.YtplkmbfeeegaiaaDoor
