/-
  Several texts in one, each under its own heading below (merged by a program of ours): the contracts of the functions that the law reaches, part 2 of 5.
-/
import Derived.Test.YtiacdkggbnoigaaGreatDoorM1
import Derived.Maps.AppendAt
import Derived.OwnWalk
import Derived.RangeFuncBox
import Derived.WideShapes
import Derived.RangeFuncNested
import Derived.RangeFuncBound
import Derived.RangeFuncCalls
import Derived.RangeFuncLeaves
import Derived.Shelf.Abstract
import Derived.Shelf.RegionOpen
import Derived.WalkKit
import Derived.OwnWalkIn
import Derived.TacticsInMore
import Derived.LoopNIn
import Derived.LoopIn
import Derived.Sort.LoopGhostIn

/-
  append of one element; the points of members.
-/
namespace Go.Proofs.YtiacdkggbnoigaaGreatDoor
open Go.RowKit Go.Shelf

theorem ownsRow_keep {W W' : World} {lo : Nat} {e : TypeId} {z : Nat} {v : Value} {n : Nat} {xs : List Value} {A : Nat → Prop} (h : W.ownsRow lo e z v n xs) (k : Keep A W W') (hA : ∀ b, v.ownBlock = some b → ¬ A b) : W'.ownsRow lo e z v n xs := by
  obtain ⟨h1, h2⟩ := h
  refine ⟨h1, ?_⟩
  rcases h2 with h2 | ⟨g, cap, cur, rfl, hb, hh, r⟩
  · exact .inl h2
  · exact .inr ⟨g, cap, cur, rfl, hb, k.heap hh (hA g rfl), r⟩
theorem ownsRow_lo {W : World} {lo lo' : Nat} {e : TypeId} {z : Nat} {v : Value} {n : Nat} {xs : List Value} (h : W.ownsRow lo e z v n xs) (hl : lo' ≤ lo) : W.ownsRow lo' e z v n xs :=
  ⟨h.1, h.2.imp id (fun ⟨g, cp, cur, a1, a2, a3⟩ => ⟨g, cp, cur, a1, Nat.le_trans hl a2, a3⟩)⟩
theorem cells_new (W : World) (xs : List Value) (t : TypeId) (j : Nat) (u : Value) (h : xs[j]? = some u) : (W.alloc (.cells xs.toArray t)).cell? ⟨W.heap.size, j, none⟩ = some u := by
  unfold World.cell?
  rw [World.alloc_heap_new]
  simp [h]

/-- One element more. -/
theorem app_one (st e : TypeId) (k by_ : Nat) (z : Value) (hst : Tryz.prog.underlying st = some (.slice e)) (hinfo : (Tryz.prog.info? e).map (fun i => (i.zero, i.size, i.bytes)) = some (some z, k, by_)) (hzs : z.cells.size = k) (hk : 0 < k) (hby : by_ ≤ 64)
    (W : World) (ty lo : Nat) (v : Value) (n : Nat) (xs new : List Value) (hown : W.ownsRow lo e k v n xs) (hlen : new.length = k) (h1 : ∀ u ∈ new, u.oneCell' = true) (hn : n ≤ 1000000) (hlo : lo ≤ W.heap.size) :
    ∃ v' w', (Builtin.append_ #[st, st] ty #[v, .slice (some ⟨W.heap.size, 0, none⟩) 1 1]).run Tryz.prog (W.alloc (.cells new.toArray e)) = .ok v' w' ∧ w'.ownsRow lo e k v' (n + 1) (xs ++ new) ∧
      Keep (fun k => v.ownBlock = some k) W w' ∧ (v'.ownBlock = v.ownBlock ∨ v'.ownBlock = some (W.heap.size + 1)) ∧ ∃ g c, v' = .slice (some ⟨g, 0, none⟩) (n + 1) c := by
  obtain ⟨i0, hi, hz0, hz1, hz2⟩ := info_parts hinfo
  obtain ⟨v', w', r1, r2, r3, r4, r5⟩ := run_append_own_at (P := Tryz.prog) (W.alloc (.cells new.toArray e)) lo st ty e i0 z k by_ hst hi hz0 hz1 hz2 hzs hk v n xs (hown.alloc _) ⟨W.heap.size, 0, none⟩ 1 1 new (by omega)
    (by
      intro j u hj
      rw [Addr.add_lit, Nat.zero_add]
      exact cells_new W new e j u hj)
    h1 (by unfold maxLen; omega) (by
      have : (n + 1) * by_ ≤ 1000001 * 64 := Nat.mul_le_mul (by omega) hby
      omega) (by rw [World.size_alloc]; omega)
  exact ⟨v', w', r1, r2, ((Keep.refl _ W).alloc _).trans (Keep.of_grown r3), by rw [World.size_alloc] at r5; exact r5, ownsRow_succ r2⟩

theorem its_new (W : World) (xs : List Int) (hn : xs.length ≤ 1000) (hb : ∀ x ∈ xs, I64 x) : Its (W.alloc (.cells (xs.map (fun x => Value.int .i64 x)).toArray 3)) (.slice (some ⟨W.heap.size, 0, none⟩) xs.length xs.length) xs :=
  ⟨by omega, hb, _, _, W.heap.size, 0, rfl, Nat.le_refl _, fun _ => rfl, fun j x hj => by rw [Nat.zero_add]; exact cells_new W _ _ j _ (by rw [List.getElem?_map, hj]; rfl)⟩
theorem nodeT_eq (m i : Nat) : nodeT (m : Int) i = txt ⟨#[110, 111, 100, 101]⟩ [m, i] := by unfold nodeT; rw [Int.toNat_natCast]
theorem wp_app {P : Program} {o : Oper} {a : Act} {w w' : World} {K : Act → World → Prop} {Q : Exit → Act → World → Prop} {v v2 v' : Value}
    (s x : Operand) (t : TypeId) (hop : o.op = Op.call { callee := Callee.builtin Builtin.append, args := #[s, x], argTypes := #[t, t] })
    (hs : a.eval s = v) (hx : a.eval x = v2) (hrun : (Builtin.append_ #[t, t] o.type #[v, v2]).run P w = .ok v' w') (hK : K (a.put o.dst v') w') : o.wp P a w K Q := by
  unfold Oper.wp
  simp [execOp, hop, resolve, invoke, builtin, hs, hx, hrun, Result.andThen]
  exact hK
theorem wpList_app {P : Program} {ops : Array Oper} {rest : List Oper} {o : Oper} {a : Act} {w w' : World} {Q : Exit → Act → World → Prop} {v v2 v' : Value}
    (hg : o.guard = none) (s x : Operand) (t : TypeId) (hop : o.op = Op.call { callee := Callee.builtin Builtin.append, args := #[s, x], argTypes := #[t, t] })
    (hs : a.eval s = v) (hx : a.eval x = v2) (hrun : (Builtin.append_ #[t, t] o.type #[v, v2]).run P w = .ok v' w') (hK : wpList P ops Q rest (a.put o.dst v') w') : wpList P ops Q (o :: rest) a w := by
  refine wpList_plain hg fun K hK' => ?_
  unfold Oper.wp
  simp [execOp, hop, resolve, invoke, builtin, hs, hx, hrun, Result.andThen]
  exact hK' _ _ hK

theorem infoMk : (Tryz.prog.info? 99).map (fun i => (i.zero, i.size, i.bytes)) = some (some (.agg #[.int .i64 0, .int .i64 0, .int .i64 0]), 3, 24) := by kernel_rfl
theorem infoInt : (Tryz.prog.info? 3).map (fun i => (i.zero, i.size, i.bytes)) = some (some (.int .i64 0), 1, 8) := by kernel_rfl
theorem infoMb : (Tryz.prog.info? 44).map (fun i => (i.zero, i.size, i.bytes)) = some (some (.agg #[.int .i64 0, .int .i64 0, .int .i64 0]), 3, 24) := by kernel_rfl

def flatM (l : List Mk) : List Value := l.flatMap encMk
theorem flatM_append (a b : List Mk) : flatM (a ++ b) = flatM a ++ flatM b := by unfold flatM; rw [List.flatMap_append]
theorem flatM_one (x : Mk) : flatM [x] = encMk x := by simp [flatM]

/-- The points that are drawn when k members are done, and i points of the next one. -/
def drawK (l : List Mb) (k i : Nat) : List Mk := draws PN (l.take k) ++ (match l[k]? with | some m => (drawM PN m).take i | none => [])
theorem drawK_next {l : List Mb} {k : Nat} {m : Mb} (h : l[k]? = some m) : drawK l k (4 * m.weight.toNat) = drawK l (k + 1) 0 := by
  unfold drawK
  rw [h, List.take_add_one, h, Option.toList_some, draws_append]
  have e : (drawM PN m).take (4 * m.weight.toNat) = drawM PN m := List.take_of_length_le (by simp [drawM])
  have e2 : draws PN [m] = drawM PN m := by simp [draws]
  simp only [e, e2]
  split <;> simp
theorem drawK_succ {l : List Mb} {k i : Nat} {m : Mb} (h : l[k]? = some m) (hi : i < 4 * m.weight.toNat) : drawK l k (i + 1) = drawK l k i ++ [⟨PN m.node i, m.node, i⟩] := by
  unfold drawK
  rw [h]
  simp only []
  rw [List.take_add_one, List.append_assoc]
  congr 2
  unfold drawM
  rw [List.getElem?_map, List.getElem?_range hi]
  rfl
theorem drawK_zero (l : List Mb) : drawK l 0 0 = [] := by unfold drawK; split <;> simp [draws]
theorem drawK_all {l : List Mb} {k : Nat} (h : l.length ≤ k) : drawK l k 0 = draws PN l := by
  unfold drawK
  rw [List.take_of_length_le h, List.getElem?_eq_none h]
  simp
theorem drawK_len {l : List Mb} (hv : VL l) {k i : Nat} : (drawK l k i).length ≤ 100000 := by
  unfold drawK
  rw [List.length_append]
  have h1 : ((draws PN (l.take k)).length : Int) = 4 * wsum (l.take k) := draws_len PN _ (fun m hm => hv.ok m (List.mem_of_mem_take hm))
  have h2 := wsum_take hv.ok k
  have h3 := hv.wsum
  have h4 : (match l[k]? with | some m => (drawM PN m).take i | none => []).length ≤ 64 := by
    cases e : l[k]? with
    | none => simp
    | some m =>
      have := hv.ok m (List.mem_of_getElem? e)
      unfold okMb at this
      simp only []
      refine Nat.le_trans (List.length_take_le' _ _) ?_
      simp [drawM]
      omega
  omega

/-- Points in a slice of their own. -/
def OwnM (w : World) (l : List Mk) (v : Value) (W : World) : Prop := Keep (fun _ => False) w W ∧ W.ownsRow w.heap.size 99 3 v l.length (flatM l)
theorem OwnM.nil {w W : World} (k : Keep (fun _ => False) w W) : OwnM w [] (.slice none 0 0) W := ⟨k, by simpa [flatM] using World.ownsRow_nil W w.heap.size 99 3⟩
theorem OwnM.keep {w W W' : World} {l : List Mk} {v : Value} (h : OwnM w l v W) (k : Keep (fun _ => False) W W') : OwnM w l v W' := ⟨h.1.trans k, ownsRow_keep h.2 k (fun _ _ h => h)⟩
theorem OwnM.form {w W : World} {l : List Mk} {v : Value} (h : OwnM w l v W) : v = .slice none 0 0 ∨ ∃ b n c, v = .slice (some ⟨b, 0, none⟩) n c := by
  rcases h.2.2 with ⟨rfl, _⟩ | ⟨g', cap, cur, rfl, _⟩
  · exact .inl rfl
  · exact .inr ⟨_, _, _, rfl⟩
theorem OwnM.snoc {w W : World} {l : List Mk} {v : Value} (h : OwnM w l v W) (x : Mk) (hl : l.length ≤ 100000) :
    ∃ v' w', (Builtin.append_ #[79, 79] 79 #[v, .slice (some ⟨W.heap.size, 0, none⟩) 1 1]).run Tryz.prog (W.alloc (.cells #[.int .i64 x.point, .int .i64 x.node, .int .i64 x.i] 99)) = .ok v' w' ∧ OwnM w (l ++ [x]) v' w' ∧ Keep (fun j => v.ownBlock = some j) W w' ∧ (v'.ownBlock = v.ownBlock ∨ v'.ownBlock = some (W.heap.size + 1)) := by
  obtain ⟨v', w', r1, r2, r3, r4, -⟩ := app_one 79 99 3 24 _ Tryz.underlying79 infoMk rfl (by decide) (by decide) W 79 w.heap.size v l.length (flatM l) (encMk x) h.2 rfl (by simp [encMk, Value.oneCell']) (by omega) h.1.size
  refine ⟨v', w', r1, ⟨h.1.trans' r3 (fun j e => .inr (h.2.lt j e).1), ?_⟩, r3, r4⟩
  rw [flatM_append, flatM_one, List.length_append]
  exact r2

set_option maxRecDepth 100000 in
set_option maxHeartbeats 4000000 in
theorem drawn_raw (v : Value) (l : List Mb) (w : World) (h : Mbs w v l) (hv : VL l) (hT : Tab w) (Q : Ending → World → Prop)
    (hQ : ∀ vo W, OwnM w (draws PN l) vo W → Calls Tryz.prog 70 #[vo, .func (.func 71) #[] #[]] W fun e w' => e = .returned (.tuple #[]) ∧ Q (.returned vo) w') :
    Calls Tryz.prog 54 #[v] w Q := by
  obtain ⟨hn, hbd, a, c, b, off, rfl, hc, ha, hcell⟩ := h
  have HC := Lib.hid hcell
  have HA := Lib.hid ha
  have HV := Lib.hid hv
  have HQ := Lib.hid hQ
  have HT := Lib.hid hT
  clear hcell ha hbd hv hQ hT
  obtain ⟨n, hn'⟩ : ∃ n, l.length = n := ⟨_, rfl⟩
  have HL := Lib.hid hn'
  rw [hn'] at hn hc ⊢
  clear hn'
  go_enter Tryz.func54, Tryz.ntmps54
  go_wp2_with fail
  go_loopg [3, 9] n (fun gh v3 v wr => ∃ (k : Nat), gh + k = n ∧ v = .int .i64 k ∧ OwnM w (drawK l k 0) v3 wr)
  case atStart => exact ⟨0, by omega, rfl, by rw [drawK_zero]; exact OwnM.nil (Keep.refl _ _)⟩
  case round =>
    obtain ⟨k, hk, rfl, how⟩ := hrel
    have HOW := Lib.hid how
    clear how
    by_cases hlt : k < n
    · obtain ⟨m, hm⟩ : ∃ m, l[k]? = some m := ⟨_, List.getElem?_eq_getElem (by have := HL.out; omega)⟩
      obtain rfl := HA.out (by have := HL.out; omega)
      have c0 := HOW.out.1.cell (HC.out k m hm).1 (fun h => h)
      have c1 := HOW.out.1.cell (HC.out k m hm).2.1 (fun h => h)
      have c2 := HOW.out.1.cell (HC.out k m hm).2.2 (fun h => h)
      have HM := Lib.hid hm
      have hok := HV.out.ok m (List.mem_of_getElem? hm)
      unfold okMb at hok
      have hkz : (k : Int) < (n : Int) := by omega
      have hk0 : (0 : Int) ≤ (k : Int) := by omega
      clear hm
      obtain ⟨mn, mr, mw⟩ := m
      simp only [] at c0 c1 c2 hok
      have HK2 : Hid (OwnM w (drawK l k 0) u3 (wr.alloc (.cells #[.int .i64 mn, .int .i64 mr, .int .i64 mw] 44))) := Lib.hid (HOW.out.keep ((Keep.refl _ wr).alloc _))
      have HT3 := Lib.hid (three_cell wr (.int .i64 mn) (.int .i64 mr) (.int .i64 mw) 44)
      have HZ : Hid (w.heap.size ≤ wr.heap.size) := Lib.hid HOW.out.1.size
      go_wp2_with fail
      clear c0 c1 c2
      generalize wr.alloc (.cells #[.int .i64 mn, .int .i64 mr, .int .i64 mw] 44) = W2 at *
      have HOB : Hid (∀ j, u3.ownBlock = some j → j ≠ wr.heap.size) := Lib.hid (fun j e => by have := (HOW.out.2.lt j e).2; omega)
      generalize wr.heap.size = z at *
      obtain ⟨mq, rfl⟩ : ∃ mq : Nat, mn = mq := ⟨mn.toNat, by omega⟩
      obtain ⟨wq, rfl⟩ : ∃ wq : Nat, mw = wq := ⟨mw.toNat, by omega⟩
      go_loopg [3, 16] (4 * wq) (fun g2 v3 v wr2 => ∃ i : Nat, g2 + i = 4 * wq ∧ v = .int .i64 i ∧ OwnM w (drawK l k i) v3 wr2 ∧ wr2.cell? ⟨z, 0, none⟩ = some (.int .i64 mq) ∧ ∀ j, v3.ownBlock = some j → j ≠ z)
      case atStart => exact ⟨0, by omega, rfl, HK2.out, HT3.out.1, HOB.out⟩
      case round =>
        clear HK2 HT3 HOB HOW
        obtain ⟨i, hi, rfl, how, hcz, hob⟩ := hrel
        have HOW := Lib.hid how
        have HOB := Lib.hid hob
        have HCZ := Lib.hid hcz
        clear how hob hcz
        by_cases hil : i < 4 * wq
        · have hiz : (i : Int) < 4 * (wq : Int) := by omega
          have hi0 : (0 : Int) ≤ (i : Int) := by omega
          have hi100 : i < 100 := by omega
          have hm100 : mq < 100 := by omega
          have HF := Lib.hid HOW.out.form
          go_upto_region 8 with (fail)
          have cz : ∀ p : KA (fun j => u3.ownBlock = some j) wr, p.val.cell? ⟨z, 0, none⟩ = some (.int .i64 mq) := fun p => p.k.cell HCZ.out (fun e => HOB.out z e rfl)
          refine wp_region_walk [(true, 0), (true, 1), (true, 2), (true, 3), (true, 7), (true, 8), (true, 9), (false, 4), (false, 5), (false, 6), (false, 10), (false, 11), (false, 12), (false, 13)] (inKA (fun j => u3.ownBlock = some j) wr) (by kernel_rfl) (by kernel_rfl) ?_
          iterate 7 (refine walkW_read rfl (fun K hK => ?_); go_simp; refine hK _ ?_; clear hK K)
          clear cz
          refine walkW_do rfl (inKA.of (Keep.refl _ wr).drew) (fun K hK => ?_)
          go_simp
          refine hK _ _ ?_; clear hK K
          have HI : Hid (Its (wr.alloc (.cells #[.int .i64 mq, .int .i64 i] 3)).drew (.slice (some ⟨wr.heap.size, 0, none⟩) 2 2) ([mq, i].map (fun q : Nat => (q : Int)))) := Lib.hid ((its_new wr [(mq : Int), (i : Int)] (by simp) (by
            intro x hx
            simp only [List.mem_cons, List.not_mem_nil, or_false] at hx
            unfold I64
            rcases hx with rfl | rfl <;> omega)).kept (Keep.refl _ _).drew)
          have HK1 : Hid (Keep (fun _ => False) wr (wr.alloc (.cells #[.int .i64 mq, .int .i64 i] 3)).drew) := Lib.hid ((Keep.refl _ wr).alloc _).drew
          have HSZ : Hid (wr.heap.size < (wr.alloc (.cells #[.int .i64 mq, .int .i64 i] 3)).drew.heap.size) := Lib.hid (by show wr.heap.size < (wr.alloc _).heap.size; simp)
          generalize (wr.alloc (.cells #[.int .i64 mq, .int .i64 i] 3)).drew = V1 at *
          generalize hws : wr.heap.size = ws at HI HSZ
          have HWS := Lib.hid hws
          clear hws
          have HK1' : Hid (Keep (fun j => u3.ownBlock = some j) wr V1) := Lib.hid (HK1.out.mono (fun _ h => h.elim))
          refine walkW_do rfl (inKA.of HK1'.out) (fun K hK => ?_)
          go_simp
          refine (text_any _ _ [mq, i] V1 (by decide) (by simp) (by
            intro q hq
            simp only [List.mem_cons, List.not_mem_nil, or_false] at hq
            rcases hq with rfl | rfl <;> omega) HI.out).mono ?_
          rintro e w' ⟨rfl, rfl⟩
          refine hK _ _ ?_; clear hK K
          have hnt := nodeT_eq mq i
          rw [← hnt]
          clear hnt
          have HP : Hid (((pt (nodeT (mq : Int) i) : Nat) : Int) = PN (mq : Int) i) := Lib.hid rfl
          have HPT := Lib.hid (point_any (nodeT (mq : Int) i) (nodeT_size (by rw [Int.toNat_natCast]; omega) hi100) V1 ((HT.out.kept HOW.out.1).kept HK1.out))
          rw [HP.out] at HPT
          clear HP
          generalize nodeT (mq : Int) i = nt at *
          refine walkW_do rfl (inKA.of HK1'.out) (fun K hK => ?_)
          go_simp
          refine HPT.out.mono ?_
          rintro e w' ⟨rfl, rfl⟩
          refine hK _ _ ?_; clear hK K
          obtain ⟨v', W3, hr, how3, hk3, hob3⟩ := (HOW.out.keep HK1.out).snoc ⟨PN (mq : Int) i, mq, i⟩ (drawK_len HV.out)
          simp only [] at hr
          have HN : Hid (OwnM w (drawK l k (i + 1)) v' W3) := Lib.hid (by
            rw [drawK_succ HM.out (by show i < 4 * (wq : Int).toNat; rw [Int.toNat_natCast]; omega)]
            exact how3)
          have HK3 : Hid (Keep (fun j => u3.ownBlock = some j) wr W3) := Lib.hid (HK1'.out.trans hk3)
          have HCZ3 : Hid (W3.cell? ⟨z, 0, none⟩ = some (.int .i64 mq)) := Lib.hid (HK3.out.cell HCZ.out (fun e => HOB.out z e rfl))
          have HOB3 : Hid (∀ j, v'.ownBlock = some j → j ≠ z) := Lib.hid (fun j e => by
            rcases hob3 with h | h
            · exact HOB.out j (h.symm.trans e)
            · rw [h] at e
              cases e
              have h1 := World.block_lt_of_cell? _ _ HCZ.out
              have h2 := HWS.out
              have h3 := HSZ.out
              simp only [] at h1
              omega)
          have HR := Lib.hid hr
          clear how3 hk3 hob3 hr
          generalize PN (mq : Int) i = pn at *
          refine walkW_do rfl (inKA.of HK1'.out) (fun K hK => ?_)
          go_simp
          refine hK _ _ ?_; clear hK K
          refine walkW_do rfl (inKA.of HK1'.out) (fun K hK => ?_)
          go_simp
          refine hK _ _ ?_; clear hK K
          refine walkW_do rfl (inKA.of (HK1'.out.alloc _)) (fun K hK => ?_)
          rw [if_pos (by simp [Region.wanted])]
          refine wp_app (.tmp 19) (.tmp 30) 79 rfl rfl rfl HR.out (hK _ _ ?_); clear hK K
          refine walkW_do rfl (inKA.of HK3.out) (fun K hK => ?_)
          go_simp
          refine hK _ _ ?_; clear hK K
          refine ⟨inKA.of HK3.out, ?_⟩
          go_wp2_with fail
          go_roundg (gk - 1)
          case rel => exact ⟨i + 1, by omega, by go_num, HN.out, HCZ3.out, HOB3.out⟩
          case measure => omega
        · obtain rfl : i = 4 * wq := by omega
          have HN : Hid (OwnM w (drawK l (k + 1) 0) u3 wr) := Lib.hid (by
            have := HOW.out
            rwa [show 4 * wq = 4 * (wq : Int).toNat by rw [Int.toNat_natCast], drawK_next HM.out] at this)
          have hiz : ¬ ((4 * wq : Nat) : Int) < 4 * (wq : Int) := by omega
          go_wp2_with fail
          go_roundg (n - (k + 1))
          case rel => exact ⟨k + 1, by omega, by go_num, HN.out⟩
          case measure => omega
    · have HN : Hid (OwnM w (draws PN l) u3 wr) := Lib.hid (by
        have := HOW.out
        rwa [drawK_all (by have := HL.out; omega)] at this)
      go_wp2_with fail
      with_reducible refine (HQ.out _ _ HN.out).mono ?_
      rintro e W3 ⟨rfl, hq⟩
      go_wp2_with fail
      exact hq
end Go.Proofs.YtiacdkggbnoigaaGreatDoor

/-
  The reference's points of members.
-/
namespace Go.Proofs.YtiacdkggbnoigaaGreatDoor
open Go.RowKit Go.Shelf

/-- A point as the reference keeps it. -/
def encSp (x : Mk) : List Value := [.int .i64 x.point, .int .i64 x.node]
theorem encSp_len (x : Mk) : (encSp x).length = 2 := rfl
def flatS (l : List Mk) : List Value := l.flatMap encSp
theorem flatS_one (x : Mk) : flatS [x] = encSp x := by simp [flatS]
theorem flatS_append (a b : List Mk) : flatS (a ++ b) = flatS a ++ flatS b := by unfold flatS; rw [List.flatMap_append]
theorem flatS_cell (l : List Mk) : ∀ u ∈ flatS l, u.oneCell' = true := by
  intro u hu
  unfold flatS at hu
  obtain ⟨m, _, hu⟩ := List.mem_flatMap.1 hu
  simp only [encSp, List.mem_cons, List.not_mem_nil, or_false] at hu
  rcases hu with rfl | rfl <;> rfl
def OwnS (w : World) (l : List Mk) (v : Value) (W : World) : Prop := Keep (fun _ => False) w W ∧ W.ownsRow w.heap.size 95 2 v l.length (flatS l)
theorem OwnS.nil {w W : World} (k : Keep (fun _ => False) w W) : OwnS w [] (.slice none 0 0) W := ⟨k, by simpa [flatS] using World.ownsRow_nil W w.heap.size 95 2⟩
theorem OwnS.keep {w W W' : World} {l : List Mk} {v : Value} (h : OwnS w l v W) (k : Keep (fun _ => False) W W') : OwnS w l v W' := ⟨h.1.trans k, ownsRow_keep h.2 k (fun _ _ h => h)⟩
theorem OwnS.form {w W : World} {l : List Mk} {v : Value} (h : OwnS w l v W) : (v = .slice none 0 0 ∧ l = []) ∨ ∃ b c, v = .slice (some ⟨b, 0, none⟩) l.length c := by
  rcases h.2.2 with ⟨h1, h2⟩ | ⟨g, c, cur, h1, _⟩
  · exact .inl ⟨h1, List.eq_nil_of_length_eq_zero h2⟩
  · exact .inr ⟨g, c, h1⟩
theorem infoSp : (Tryz.prog.info? 95).map (fun i => (i.zero, i.size, i.bytes)) = some (some (.agg #[.int .i64 0, .int .i64 0]), 2, 16) := by kernel_rfl
theorem OwnS.snoc {w W : World} {l : List Mk} {v : Value} (h : OwnS w l v W) (x : Mk) (hl : l.length ≤ 100000) :
    ∃ g c w', (Builtin.append_ #[92, 92] 92 #[v, .slice (some ⟨W.heap.size, 0, none⟩) 1 1]).run Tryz.prog (W.alloc (.cells #[.int .i64 x.point, .int .i64 x.node] 95)) = .ok (.slice (some ⟨g, 0, none⟩) (l.length + 1) c) w' ∧ OwnS w (l ++ [x]) (.slice (some ⟨g, 0, none⟩) (l.length + 1) c) w' ∧ Keep (fun j => v.ownBlock = some j) W w' ∧ (v.ownBlock = some g ∨ g = W.heap.size + 1) := by
  obtain ⟨v', w', r1, r2, r3, r4, g, c, r5⟩ := app_one 92 95 2 16 _ Tryz.underlying92 infoSp rfl (by decide) (by decide) W 92 w.heap.size v l.length (flatS l) (encSp x) h.2 rfl (by simp [encSp, Value.oneCell']) (by omega) h.1.size
  subst r5
  refine ⟨g, c, w', r1, ⟨h.1.trans' r3 (fun j e => .inr (h.2.lt j e).1), ?_⟩, r3, ?_⟩
  · rw [flatS_append, flatS_one, List.length_append]
    exact r2
  · rcases r4 with r4 | r4
    · exact .inl r4.symm
    · exact .inr (by cases r4; rfl)
theorem two_cell (W : World) (x y : Value) (t : TypeId) : (W.alloc (.cells #[x, y] t)).cell? ⟨W.heap.size, 0, none⟩ = some x ∧ (W.alloc (.cells #[x, y] t)).cell? ⟨W.heap.size, 1, none⟩ = some y ∧ ∀ o, (W.alloc (.cells #[x, y] t)).frozen? ⟨W.heap.size, o, none⟩ = false := by
  refine ⟨?_, ?_, fun o => ?_⟩
  · exact cells_new W [x, y] t 0 x rfl
  · exact cells_new W [x, y] t 1 y rfl
  · unfold World.frozen?
    rw [World.alloc_heap_new]
    simp
/-- The text of a point. -/
theorem nodeT_ref (m i : Nat) : ((⟨#[110, 111, 100, 101, 32]⟩ : ByteArray) ++ dig m) ++ ⟨#[32]⟩ ++ dig i = nodeT (m : Int) i := by
  rw [nodeT_eq]
  apply Go.WideShapes.bytes_inj
  simp [txt, addT]

/-- A point in a block of its own. -/
structure SpotAt (w0 W : World) (z : Nat) (p n : Int) : Prop where
  k : Keep (fun _ => False) w0 W
  lo : w0.heap.size ≤ z
  c0 : W.cell? ⟨z, 0, none⟩ = some (.int .i64 p)
  c1 : W.cell? ⟨z, 1, none⟩ = some (.int .i64 n)
theorem SpotAt.mk' {w0 V : World} {z : Nat} {p n : Int} {x y : Value} (k : Keep (fun _ => False) w0 V) (lo : w0.heap.size ≤ z) (f0 : V.cell? ⟨z, 0, none⟩ = some x) (f1 : V.cell? ⟨z, 1, none⟩ = some y) (_ff : ∀ o, V.frozen? ⟨z, o, none⟩ = false) :
    SpotAt w0 ((V.setCell ⟨z, 0, none⟩ (.int .i64 p)).setCell ⟨z, 1, none⟩ (.int .i64 n)) z p n :=
  ⟨(k.setCell (p := ⟨z, 0, none⟩) _ (.inr lo)).setCell (p := ⟨z, 1, none⟩) _ (.inr lo), lo, (cell_set_off (by decide)).trans (cell_set_same f0), cell_set_same ((cell_set_off (by decide)).trans f1)⟩

theorem infoSp2 : (Tryz.prog.info? 95).map (·.size) = some 2 := by kernel_rfl
theorem wp_cpy {P : Program} {o : Oper} {a : Act} {w w' : World} {K : Act → World → Prop} {Q : Exit → Act → World → Prop} {v v2 v' : Value}
    (s x : Operand) (t : TypeId) (hop : o.op = Op.call { callee := Callee.builtin Builtin.copy, args := #[s, x], argTypes := #[t, t] })
    (hs : a.eval s = v) (hx : a.eval x = v2) (hrun : (Builtin.copy_ #[t, t] o.type #[v, v2]).run P w = .ok v' w') (hK : K (a.put o.dst v') w') : o.wp P a w K Q := by
  unfold Oper.wp
  simp [execOp, hop, resolve, invoke, builtin, hs, hx, hrun, Result.andThen]
  exact hK
/-- The points that are drawn already come before the next one. -/
theorem drawK_lt {l : List Mb} (hv : VL l) {k i : Nat} {m : Mb} (h : l[k]? = some m) : ∀ y ∈ drawK l k i, dLt y ⟨PN m.node i, m.node, i⟩ := by
  intro y hy
  unfold drawK at hy
  rw [h] at hy
  rcases List.mem_append.1 hy with hy | hy
  · obtain ⟨m', hm', hy⟩ := (mem_draws PN).1 hy
    have h1 := ((mem_drawM PN).1 hy).1
    have h2 := hv.asc
    rw [← List.take_append_drop k l, List.pairwise_append] at h2
    have h3 := h2.2.2 m' hm' m (by
      have hk : k < l.length := (List.getElem?_eq_some_iff.1 h).1
      rw [List.drop_eq_getElem_cons hk]
      rw [List.getElem?_eq_getElem hk] at h
      simp only [Option.some.injEq] at h
      rw [h]; exact List.mem_cons_self)
    exact .inl (by simp only []; omega)
  · obtain ⟨j, hj⟩ := List.mem_iff_getElem?.1 hy
    have hji : j < i := by have := (List.getElem?_eq_some_iff.1 hj).1; rw [List.length_take] at this; omega
    rw [List.getElem?_take_of_lt hji] at hj
    unfold drawM at hj
    rw [List.getElem?_map] at hj
    cases hr : (List.range (4 * m.weight.toNat))[j]? with
    | none => rw [hr] at hj; simp at hj
    | some j' =>
      rw [hr] at hj
      simp only [Option.map_some, Option.some.injEq] at hj
      have hjj : j' = j := by
        have := (List.getElem?_eq_some_iff.1 hr).2
        simpa using this.symm
      subst hj
      exact .inr ⟨rfl, by simp only []; omega⟩
set_option maxRecDepth 100000 in
set_option maxHeartbeats 8000000 in
theorem spots_any (v : Value) (l : List Mb) (w : World) (h : Mbs w v l) (hv : VL l) : Calls Tryz.prog 66 #[v] w fun e w' => ∃ vo, e = .returned vo ∧ OwnS w (circ PN l) vo w' := by
  obtain ⟨hn, hbd, a, c, b, off, rfl, hc, ha, hcell⟩ := h
  have HC := Lib.hid hcell
  have HA := Lib.hid ha
  have HV := Lib.hid hv
  clear hcell ha hbd hv
  obtain ⟨n, hn'⟩ : ∃ n, l.length = n := ⟨_, rfl⟩
  have HL := Lib.hid hn'
  rw [hn'] at hn hc ⊢
  clear hn'
  go_enter Tryz.func66, Tryz.ntmps66
  go_wp2_with fail
  go_loopg [3, 4] n (fun gh v3 v wr => ∃ (k : Nat) (S : List Mk), gh + k = n ∧ v = .int .i64 k ∧ OwnS w S v3 wr ∧ Hid (S.Pairwise ltMk ∧ S.Perm (drawK l k 0)))
  case atStart => exact ⟨0, [], by omega, rfl, OwnS.nil (Keep.refl _ _), Lib.hid ⟨List.Pairwise.nil, by rw [drawK_zero]⟩⟩
  case round =>
    obtain ⟨k, S, hk, rfl, how, HS⟩ := hrel
    have HOW := Lib.hid how
    clear how
    by_cases hlt : k < n
    · obtain ⟨m, hm⟩ : ∃ m, l[k]? = some m := ⟨_, List.getElem?_eq_getElem (by have := HL.out; omega)⟩
      obtain rfl := HA.out (by have := HL.out; omega)
      have HM := Lib.hid hm
      have HCX := Lib.hid (HC.out k m hm)
      have hok := HV.out.ok m (List.mem_of_getElem? hm)
      unfold okMb at hok
      have hkz : (k : Int) < (n : Int) := by omega
      have hk0 : (0 : Int) ≤ (k : Int) := by omega
      clear hm
      obtain ⟨mn, mr, mw⟩ := m
      simp only [] at HCX hok
      obtain ⟨mq, rfl⟩ : ∃ mq : Nat, mn = mq := ⟨mn.toNat, by omega⟩
      obtain ⟨wq, rfl⟩ : ∃ wq : Nat, mw = wq := ⟨mw.toNat, by omega⟩
      have HKK := Lib.hid (And.intro hk hlt)
      clear hk hlt
      go_wp2_with fail
      go_loopg [3, 5] (4 * wq) (fun g2 v3 v wr2 => ∃ (i : Nat) (S : List Mk), g2 + i = 4 * wq ∧ v = .int .i64 i ∧ OwnS w S v3 wr2 ∧ Hid (S.Pairwise ltMk ∧ S.Perm (drawK l k i)))
      case atStart => exact ⟨0, S, by omega, rfl, HOW.out, HS⟩
      case round =>
        clear HOW HS S
        obtain ⟨i, S, hi, rfl, how, HS⟩ := hrel
        have HOW := Lib.hid how
        clear how
        have c0 := HOW.out.1.cell HCX.out.1 (fun h => h)
        have c2 := HOW.out.1.cell HCX.out.2.2 (fun h => h)
        have hw4 : IntKind.i64.wrap (4 * (wq : Int)) = 4 * (wq : Int) := wrapI (by unfold I64; omega)
        by_cases hil : i < 4 * wq
        · have hiz : (i : Int) < 4 * (wq : Int) := by omega
          have hi0 : (0 : Int) ≤ (i : Int) := by omega
          have HF := Lib.hid HOW.out.form
          have HD1 : Hid (∀ W, Calls Tryz.prog 44 #[.int .i64 (mq : Int)] W fun e w' => e = .returned (.string (dig mq)) ∧ Keep (fun _ => False) W w') := Lib.hid (fun W => digits_any mq (by omega) W)
          have HD2 : Hid (∀ W, Calls Tryz.prog 44 #[.int .i64 (i : Int)] W fun e w' => e = .returned (.string (dig i)) ∧ Keep (fun _ => False) W w') := Lib.hid (fun W => digits_any i (by omega) W)
          have HPT : Hid (∀ W, Calls Tryz.prog 43 #[.string (((⟨#[110, 111, 100, 101, 32]⟩ : ByteArray) ++ dig mq) ++ ⟨#[32]⟩ ++ dig i)] W fun e w' => e = .returned (.int .i64 (PN (mq : Int) i)) ∧ W = w') := Lib.hid (fun W => by
            rw [nodeT_ref]
            exact refPoint_any _ (nodeT_size (by rw [Int.toNat_natCast]; omega) (by omega)) W)
          have hd1 : (dig mq).size ≤ 2 := dig_size (by omega)
          have hd2 : (dig i).size ≤ 2 := dig_size (by omega)
          generalize dig mq = dm at *
          generalize dig i = di at *
          go_upto_region 8 with (fail)
          clear c0 c2
          have cz : ∀ q : KA (fun _ => False) wr, q.val.cell? ⟨b, off + k * 3, none⟩ = some (.int .i64 mq) := fun q => q.k.cell (HOW.out.1.cell HCX.out.1 (fun h => h)) (fun h => h)
          refine wp_region_walkT_join (.read 0 (.read 1 (.read 2 (.read 3 (.read 4 (.read 8 (.read 12 (.read 13 (.read 14 (.read 15 (.read 16 (.two 5 (.read 6 (.read 7 (.two 9 (.read 10 (.two 11 (.read 17 (.one 18 (.one 19 .done))) 18 (.one 11 (.read 17 (.one 19 .done))))) 18 (.one 9 (.read 10 (.one 11 (.read 17 (.one 19 .done)))))))) 18 (.one 5 (.read 6 (.read 7 (.one 9 (.read 10 (.one 11 (.read 17 (.one 19 .done)))))))))))))))))))) (inKA (fun _ => False) wr) (fun a' w' => ∃ z, SpotAt wr w' z (PN (mq : Int) i) mq ∧ a' = { tmps := #[.slice (some ⟨b, off, none⟩) n c, undef, .slice none 0 0, u3, .int .i64 (k : Int), .int .i64 (i : Int), .pointer (some ⟨z, 0, none⟩), u7, .int .i64 (k : Int), .slice (some ⟨b, off, none⟩) n c, .int .i64 (n : Int), .bool true, u12, u13, .int .i64 (i : Int), .slice (some ⟨b, off, none⟩) n c, .int .i64 (k : Int), .pointer (some ⟨b, off + k * 3, none⟩), .pointer (some ⟨b, off + k * 3 + 2, none⟩), .int .i64 (wq : Int), .int .i64 (4 * (wq : Int)), .bool true, u22, u23, .slice (some ⟨b, off, none⟩) n c, .int .i64 (k : Int), .pointer (some ⟨b, off + k * 3, none⟩), .pointer (some ⟨b, off + k * 3, none⟩), .int .i64 (mq : Int), .string dm, .string ((⟨#[110, 111, 100, 101, 32]⟩ : ByteArray) ++ dm), .string (((⟨#[110, 111, 100, 101, 32]⟩ : ByteArray) ++ dm) ++ ⟨#[32]⟩), .int .i64 (i : Int), .string di, .string ((((⟨#[110, 111, 100, 101, 32]⟩ : ByteArray) ++ dm) ++ ⟨#[32]⟩) ++ di), .int .i64 (PN (mq : Int) i), .slice (some ⟨b, off, none⟩) n c, .int .i64 (k : Int), .pointer (some ⟨b, off + k * 3, none⟩), .pointer (some ⟨b, off + k * 3, none⟩), .int .i64 (mq : Int), .agg #[.int .i64 (PN (mq : Int) i), .int .i64 (mq : Int)], u42, u43, u44, u45, u46, u47, u48, u49, u50, u51, u52, u53, u54, u55, u56, u57, u58, u59, u60, u61, u62, u63, u64, u65, u66, u67, u68, u69, u70, u71, u72, u73, u74, undef], defers := [] }) (by kernel_rfl) (by kernel_rfl) ?_ ?_
          rotate_left
          ·
            iterate 11 (refine walkT_read rfl (fun K hK => ?_); go_simp; refine hK _ ?_; clear hK K)
            clear cz
            have HKR : Hid (Keep (fun _ => False) wr wr.drew) := Lib.hid (Keep.refl _ wr).drew
            generalize wr.drew = V0 at *
            have hz1 : ¬ (9223372036854775807 < 5 + dm.size) := by omega
            have hz2 : ¬ (9223372036854775807 < 5 + dm.size + 1) := by omega
            have hz3 : ¬ (9223372036854775807 < 5 + dm.size + 1 + di.size) := by omega
            refine walkT_two rfl rfl (inKA.of HKR.out) (fun K hK => ?_) (fun K hK => ?_)
            rotate_left
            ·
              skip
              go_simp
              refine hK _ _ ?_; clear hK K
              have HK1 : Hid (Keep (fun _ => False) wr (V0.alloc (.cells #[.int .i64 0, .int .i64 0] 95))) := Lib.hid (HKR.out.alloc _)
              have G1 := Lib.hid (And.intro (two_cell V0 (.int .i64 0) (.int .i64 0) 95).1 (And.intro (two_cell V0 (.int .i64 0) (.int .i64 0) 95).2.1 (And.intro (two_cell V0 (.int .i64 0) (.int .i64 0) 95).2.2 HKR.out.size)))
              generalize V0.alloc (.cells #[.int .i64 0, .int .i64 0] 95) = V1 at *
              generalize V0.heap.size = z at *
              refine walkT_do rfl (inKA.of HK1.out) (fun K hK => ?_)
              go_simp
              refine (HD1.out _).mono ?_
              rintro e V2 ⟨rfl, kk⟩
              refine hK _ _ ?_; clear hK K
              have HK2 := Lib.hid (HK1.out.trans kk)
              have G2 := Lib.hid (And.intro (kk.cell G1.out.1 (fun h => h)) (And.intro (kk.cell G1.out.2.1 (fun h => h)) (And.intro (fun o => (kk.frozen (World.block_lt_of_cell? _ _ G1.out.1) (fun h => h) o).trans (G1.out.2.2.1 o)) G1.out.2.2.2)))
              clear kk
              refine walkT_read rfl (fun K hK => ?_); go_simp; refine hK _ ?_; clear hK K
              refine walkT_read rfl (fun K hK => ?_); go_simp; refine hK _ ?_; clear hK K
              refine walkT_do rfl (inKA.of HK2.out) (fun K hK => ?_)
              go_simp
              refine (HD2.out _).mono ?_
              rintro e V3 ⟨rfl, kk⟩
              refine hK _ _ ?_; clear hK K
              have HK3 := Lib.hid (HK2.out.trans kk)
              have G3 := Lib.hid (And.intro (kk.cell G2.out.1 (fun h => h)) (And.intro (kk.cell G2.out.2.1 (fun h => h)) (And.intro (fun o => (kk.frozen (World.block_lt_of_cell? _ _ G2.out.1) (fun h => h) o).trans (G2.out.2.2.1 o)) G2.out.2.2.2)))
              clear kk
              refine walkT_read rfl (fun K hK => ?_); go_simp; refine hK _ ?_; clear hK K
              refine walkT_do rfl (inKA.of HK3.out) (fun K hK => ?_)
              go_simp
              refine (HPT.out _).mono ?_
              rintro e w' ⟨rfl, rfl⟩
              refine hK _ _ ?_; clear hK K
              refine walkT_read rfl (fun K hK => ?_); go_simp; refine hK _ ?_; clear hK K
              have f0 := G3.out.1
              have f1 := G3.out.2.1
              have ff := G3.out.2.2.1
              refine walkT_do rfl (inKA.of HK3.out) (fun K hK => ?_)
              go_simp
              refine hK _ _ ?_; clear hK K
              have HY : Hid (SpotAt wr ((V3.setCell ⟨z, 0, none⟩ (.int .i64 (PN (mq : Int) i))).setCell ⟨z, 1, none⟩ (.int .i64 (mq : Int))) z (PN (mq : Int) i) mq) := Lib.hid (SpotAt.mk' HK3.out G3.out.2.2.2 f0 f1 ff)
              clear f0 f1 ff
              generalize (V3.setCell ⟨z, 0, none⟩ (.int .i64 (PN (mq : Int) i))).setCell ⟨z, 1, none⟩ (.int .i64 (mq : Int)) = Y at *
              refine ⟨inKA.of HY.out.k, ?_⟩
              exact ⟨z, HY.out, rfl⟩
            ·
              skip
              go_simp
              refine (HD1.out _).mono ?_
              rintro e V5 ⟨rfl, kk⟩
              refine hK _ _ ?_; clear hK K
              have HK5 := Lib.hid (HKR.out.trans kk)
              clear kk
              refine walkT_read rfl (fun K hK => ?_); go_simp; refine hK _ ?_; clear hK K
              refine walkT_read rfl (fun K hK => ?_); go_simp; refine hK _ ?_; clear hK K
              refine walkT_two rfl rfl (inKA.of HK5.out) (fun K hK => ?_) (fun K hK => ?_)
              rotate_left
              ·
                skip
                go_simp
                refine hK _ _ ?_; clear hK K
                have HK6 : Hid (Keep (fun _ => False) wr (V5.alloc (.cells #[.int .i64 0, .int .i64 0] 95))) := Lib.hid (HK5.out.alloc _)
                have G6 := Lib.hid (And.intro (two_cell V5 (.int .i64 0) (.int .i64 0) 95).1 (And.intro (two_cell V5 (.int .i64 0) (.int .i64 0) 95).2.1 (And.intro (two_cell V5 (.int .i64 0) (.int .i64 0) 95).2.2 HK5.out.size)))
                generalize V5.alloc (.cells #[.int .i64 0, .int .i64 0] 95) = V6 at *
                generalize V5.heap.size = z at *
                refine walkT_do rfl (inKA.of HK6.out) (fun K hK => ?_)
                go_simp
                refine (HD2.out _).mono ?_
                rintro e V7 ⟨rfl, kk⟩
                refine hK _ _ ?_; clear hK K
                have HK7 := Lib.hid (HK6.out.trans kk)
                have G7 := Lib.hid (And.intro (kk.cell G6.out.1 (fun h => h)) (And.intro (kk.cell G6.out.2.1 (fun h => h)) (And.intro (fun o => (kk.frozen (World.block_lt_of_cell? _ _ G6.out.1) (fun h => h) o).trans (G6.out.2.2.1 o)) G6.out.2.2.2)))
                clear kk
                refine walkT_read rfl (fun K hK => ?_); go_simp; refine hK _ ?_; clear hK K
                refine walkT_do rfl (inKA.of HK7.out) (fun K hK => ?_)
                go_simp
                refine (HPT.out _).mono ?_
                rintro e w' ⟨rfl, rfl⟩
                refine hK _ _ ?_; clear hK K
                refine walkT_read rfl (fun K hK => ?_); go_simp; refine hK _ ?_; clear hK K
                have f0 := G7.out.1
                have f1 := G7.out.2.1
                have ff := G7.out.2.2.1
                refine walkT_do rfl (inKA.of HK7.out) (fun K hK => ?_)
                go_simp
                refine hK _ _ ?_; clear hK K
                have HY : Hid (SpotAt wr ((V7.setCell ⟨z, 0, none⟩ (.int .i64 (PN (mq : Int) i))).setCell ⟨z, 1, none⟩ (.int .i64 (mq : Int))) z (PN (mq : Int) i) mq) := Lib.hid (SpotAt.mk' HK7.out G7.out.2.2.2 f0 f1 ff)
                clear f0 f1 ff
                generalize (V7.setCell ⟨z, 0, none⟩ (.int .i64 (PN (mq : Int) i))).setCell ⟨z, 1, none⟩ (.int .i64 (mq : Int)) = Y at *
                refine ⟨inKA.of HY.out.k, ?_⟩
                exact ⟨z, HY.out, rfl⟩
              ·
                skip
                go_simp
                refine (HD2.out _).mono ?_
                rintro e V9 ⟨rfl, kk⟩
                refine hK _ _ ?_; clear hK K
                have HK9 := Lib.hid (HK5.out.trans kk)
                clear kk
                refine walkT_read rfl (fun K hK => ?_); go_simp; refine hK _ ?_; clear hK K
                refine walkT_two rfl rfl (inKA.of HK9.out) (fun K hK => ?_) (fun K hK => ?_)
                rotate_left
                ·
                  skip
                  go_simp
                  refine hK _ _ ?_; clear hK K
                  have HK10 : Hid (Keep (fun _ => False) wr (V9.alloc (.cells #[.int .i64 0, .int .i64 0] 95))) := Lib.hid (HK9.out.alloc _)
                  have G10 := Lib.hid (And.intro (two_cell V9 (.int .i64 0) (.int .i64 0) 95).1 (And.intro (two_cell V9 (.int .i64 0) (.int .i64 0) 95).2.1 (And.intro (two_cell V9 (.int .i64 0) (.int .i64 0) 95).2.2 HK9.out.size)))
                  generalize V9.alloc (.cells #[.int .i64 0, .int .i64 0] 95) = V10 at *
                  generalize V9.heap.size = z at *
                  refine walkT_do rfl (inKA.of HK10.out) (fun K hK => ?_)
                  go_simp
                  refine (HPT.out _).mono ?_
                  rintro e w' ⟨rfl, rfl⟩
                  refine hK _ _ ?_; clear hK K
                  refine walkT_read rfl (fun K hK => ?_); go_simp; refine hK _ ?_; clear hK K
                  have f0 := G10.out.1
                  have f1 := G10.out.2.1
                  have ff := G10.out.2.2.1
                  refine walkT_do rfl (inKA.of HK10.out) (fun K hK => ?_)
                  go_simp
                  refine hK _ _ ?_; clear hK K
                  have HY : Hid (SpotAt wr ((V10.setCell ⟨z, 0, none⟩ (.int .i64 (PN (mq : Int) i))).setCell ⟨z, 1, none⟩ (.int .i64 (mq : Int))) z (PN (mq : Int) i) mq) := Lib.hid (SpotAt.mk' HK10.out G10.out.2.2.2 f0 f1 ff)
                  clear f0 f1 ff
                  generalize (V10.setCell ⟨z, 0, none⟩ (.int .i64 (PN (mq : Int) i))).setCell ⟨z, 1, none⟩ (.int .i64 (mq : Int)) = Y at *
                  refine ⟨inKA.of HY.out.k, ?_⟩
                  exact ⟨z, HY.out, rfl⟩
                ·
                  skip
                  go_simp
                  refine (HPT.out _).mono ?_
                  rintro e w' ⟨rfl, rfl⟩
                  refine hK _ _ ?_; clear hK K
                  refine walkT_read rfl (fun K hK => ?_); go_simp; refine hK _ ?_; clear hK K
                  refine walkT_do rfl (inKA.of HK9.out) (fun K hK => ?_)
                  go_simp
                  refine hK _ _ ?_; clear hK K
                  have HK13 : Hid (Keep (fun _ => False) wr (V9.alloc (.cells #[.int .i64 0, .int .i64 0] 95))) := Lib.hid (HK9.out.alloc _)
                  have G13 := Lib.hid (And.intro (two_cell V9 (.int .i64 0) (.int .i64 0) 95).1 (And.intro (two_cell V9 (.int .i64 0) (.int .i64 0) 95).2.1 (And.intro (two_cell V9 (.int .i64 0) (.int .i64 0) 95).2.2 HK9.out.size)))
                  generalize V9.alloc (.cells #[.int .i64 0, .int .i64 0] 95) = V13 at *
                  generalize V9.heap.size = z at *
                  have f0 := G13.out.1
                  have f1 := G13.out.2.1
                  have ff := G13.out.2.2.1
                  refine walkT_do rfl (inKA.of HK13.out) (fun K hK => ?_)
                  go_simp
                  refine hK _ _ ?_; clear hK K
                  have HY : Hid (SpotAt wr ((V13.setCell ⟨z, 0, none⟩ (.int .i64 (PN (mq : Int) i))).setCell ⟨z, 1, none⟩ (.int .i64 (mq : Int))) z (PN (mq : Int) i) mq) := Lib.hid (SpotAt.mk' HK13.out G13.out.2.2.2 f0 f1 ff)
                  clear f0 f1 ff
                  generalize (V13.setCell ⟨z, 0, none⟩ (.int .i64 (PN (mq : Int) i))).setCell ⟨z, 1, none⟩ (.int .i64 (mq : Int)) = Y at *
                  refine ⟨inKA.of HY.out.k, ?_⟩
                  exact ⟨z, HY.out, rfl⟩
          ·
            rintro a' Y ⟨z, hy, rfl⟩
            have HY := Lib.hid hy
            have HOY := Lib.hid (HOW.out.keep hy.k)
            clear hy hd1 hd2 HD1 HD2 HPT
            obtain ⟨x, hx⟩ : ∃ x : Mk, (⟨PN (mq : Int) i, (mq : Int), (i : Int)⟩ : Mk) = x := ⟨_, rfl⟩
            have HX := Lib.hid hx
            have HX0 : Hid (PN (mq : Int) i = x.point) := Lib.hid (by rw [← hx])
            have HX1 : Hid ((mq : Int) = x.node) := Lib.hid (by rw [← hx])
            clear hx
            have HXC0 : Hid (Y.cell? ⟨z, 0, none⟩ = some (.int .i64 x.point)) := Lib.hid (by rw [← HX0.out]; exact HY.out.c0)
            have HXC1 : Hid (Y.cell? ⟨z, 1, none⟩ = some (.int .i64 x.node)) := Lib.hid (by rw [← HX1.out]; exact HY.out.c1)
            have HLEN : Hid (S.length ≤ 100000) := Lib.hid (by rw [HS.out.2.length_eq]; exact drawK_len HV.out)
            obtain ⟨q, hq⟩ : ∃ q, S.length = q := ⟨_, rfl⟩
            have HQ := Lib.hid hq
            obtain ⟨ua, uc, bo, hue, hua⟩ : ∃ (a : Option Addr) (c bo : Nat), u3 = .slice a q c ∧ (0 < q → a = some ⟨bo, 0, none⟩) := by
              rcases HOY.out.form with ⟨h1, h2⟩ | ⟨bo, co, h1⟩
              · exact ⟨none, 0, 0, by rw [h1, ← hq, h2]; rfl, fun h => by rw [← hq, h2] at h; simp at h⟩
              · exact ⟨_, co, bo, by rw [h1, hq], fun _ => rfl⟩
            subst hue
            have HUA := Lib.hid hua
            have hq5 : q ≤ 100000 := by rw [← hq]; exact HLEN.out
            clear hq hua
            go_wp2_with fail
            go_loopg [7] q (fun g3 v wr3 => ∃ (m : Nat), v = .int .i64 (g3 : Int) ∧ g3 ≤ q ∧ wr3 = Y.drewN m ∧ Hid (∀ y ∈ S.drop g3, x.point < y.point))
            case atStart => exact ⟨0, rfl, Nat.le_refl _, rfl, Lib.hid (fun y hy => by rw [List.drop_of_length_le (by rw [HQ.out]; exact Nat.le_refl _)] at hy; cases hy)⟩
            case round =>
              obtain ⟨m, rfl, hjq, rfl, HDP⟩ := hrel
              generalize gk = j at *
              have xc := HXC0.out
              by_cases hj0 : j = 0
              · have HTK : Hid (∀ y ∈ S.take j, y.point ≤ x.point) := Lib.hid (by rw [hj0]; simp)
                have HJD : Hid (decide (0 < j) = false) := Lib.hid (decide_eq_false (by omega))
                clear hj0
                go_upto_region 10 with (fail)
                refine wp_region_walk [(false, 0), (false, 1), (false, 2), (true, 3), (true, 4), (true, 5), (true, 6), (true, 7), (true, 8), (false, 9), (false, 10), (false, 11), (false, 12)] (inKA (fun _ => False) (Y.drewN m)) (by kernel_rfl) (by kernel_rfl) ?_
                have HKN : Hid (Keep (fun _ => False) (Y.drewN m) (Y.drewN m).drew) := Lib.hid (Keep.refl _ _).drew
                have HKN0 : Hid (Keep (fun _ => False) Y (Y.drewN m).drew) := Lib.hid (((Keep.refl (fun _ => False) Y).drewN m).drew)
                generalize (Y.drewN m).drew = Y2 at *
                refine walkW_do rfl (inKA.of HKN.out) (fun K hK => ?_); go_simp; refine hK _ _ ?_; clear hK K
                refine walkW_do rfl (inKA.of HKN.out) (fun K hK => ?_); go_simp; refine hK _ _ ?_; clear hK K
                rw [HJD.out]
                refine walkW_do rfl (inKA.of HKN.out) (fun K hK => ?_); go_simp; refine hK _ _ ?_; clear hK K
                iterate 6 (refine walkW_read rfl (fun K hK => ?_); go_simp; refine hK _ ?_; clear hK K)
                iterate 4 (refine walkW_do rfl (inKA.of HKN.out) (fun K hK => ?_); go_simp; refine hK _ _ ?_; clear hK K)
                refine ⟨inKA.of HKN.out, ?_⟩
                clear xc
                have HOY2 := Lib.hid (HOY.out.keep HKN0.out)
                have HKY2 := HKN0
                have x0 := HKY2.out.cell HXC0.out (fun h => h)
                have x1 := HKY2.out.cell HXC1.out (fun h => h)
                obtain ⟨g, gc', Y3, hr, hown3, kp, hg⟩ := HOY2.out.snoc x HLEN.out
                rw [HQ.out] at hr hown3
                have HR := Lib.hid hr
                have HOY3 := Lib.hid hown3
                have hzu : ∀ jj, (Value.slice ua q uc).ownBlock = some jj → jj < z := fun jj e => Nat.lt_of_lt_of_le (HOW.out.2.lt jj e).2 HY.out.lo
                have hgz : g ≠ z := by
                  rcases hg with hg | hg
                  · have := hzu g hg; omega
                  · have := World.block_lt_of_cell? _ _ x0; simp only [] at this; omega
                have HX30 := Lib.hid (kp.cell x0 (fun e => by have := hzu z e; omega))
                have HX31 := Lib.hid (kp.cell x1 (fun e => by have := hzu z e; omega))
                have HKY3 := Lib.hid kp
                clear hr hown3 kp hg
                go_wp2_with (at_builtin; refine wpList_app rfl (.tmp 59) (.tmp 61) 92 rfl rfl rfl HR.out ?_)
                clear x0 x1
                have hjz0 : (0 : Int) ≤ (j : Int) := by omega
                have hjq0 : (j : Int) ≤ (q : Int) := by omega
                have hj1 : (0 : Int) ≤ (j : Int) + 1 := by omega
                have hj2 : (j : Int) ≤ (q : Int) + 1 := by omega
                have hwj : IntKind.i64.wrap ((j : Int) + 1) = (j : Int) + 1 := wrapI (by unfold I64; omega)
                go_upto_region 13 with (fail)
                refine wp_region_walk [(true, 0), (true, 1), (true, 2), (true, 3), (true, 4), (false, 5), (false, 6), (false, 7)] (inKA (fun jj => jj = g) Y3) (by kernel_rfl) (by kernel_rfl) ?_
                have HKD : Hid (Keep (fun jj => jj = g) Y3 Y3.drew) := Lib.hid (Keep.refl _ Y3).drew
                have HKD0 : Hid (Keep (fun _ => False) Y3 Y3.drew) := Lib.hid (Keep.refl _ Y3).drew
                generalize Y3.drew = Y4 at *
                iterate 5 (refine walkW_read rfl (fun K hK => ?_); go_simp; refine hK _ ?_; clear hK K)
                iterate 2 (refine walkW_do rfl (inKA.of HKD.out) (fun K hK => ?_); go_simp; refine hK _ _ ?_; clear hK K)
                have HOY4 := Lib.hid (HOY3.out.keep HKD0.out)
                have hgc : q + 1 ≤ gc' := by
                  rcases HOY4.out.2.2 with ⟨e, _⟩ | ⟨g', c', cur, e, _, _, h1, _⟩
                  · cases e
                  · obtain ⟨_, _, e3⟩ := Value.slice.inj e
                    have h2 := HQ.out
                    rw [List.length_append, h2] at h1
                    have h3 : [x].length = 1 := rfl
                    omega
                have hown4 := HOY4.out.2
                rw [List.length_append, HQ.out] at hown4
                obtain ⟨Y5, hcp, hown5, kcp⟩ := copy_within (P := Tryz.prog) hown4 (flatS_cell _) 92 92 3 95 Tryz.underlying92 infoSp2
                  (if gc' = j + 1 then some ⟨g, 0, none⟩ else some ⟨g, (j + 1) * 2, none⟩) (if gc' = j then some ⟨g, 0, none⟩ else some ⟨g, j * 2, none⟩) (q - j) (gc' - (j + 1)) (q + 1 - j) (gc' - j) ((j + 1) * 2) (j * 2) (q - j) (by show min (q + 1 - j) (q - j) = q - j; omega)
                  (fun h => ⟨if_neg (by omega), if_neg (by omega)⟩) (by omega) (by omega)
                have HCP := Lib.hid hcp
                have HOWN5 := Lib.hid hown5
                have HKCP := Lib.hid kcp
                clear hcp hown5 kcp hown4
                refine walkW_do rfl (inKA.of HKD.out) (fun K hK => ?_)
                rw [if_pos (by simp [Region.wanted])]
                refine wp_cpy (.tmp 66) (.tmp 69) 92 rfl rfl rfl HCP.out (hK _ _ ?_); clear hK K
                refine ⟨inKA.of (HKD.out.trans HKCP.out), ?_⟩
                have hS5 : (flatS (S ++ [x])).take ((j + 1) * 2) ++ (((flatS (S ++ [x])).drop (j * 2)).take ((q - j) * 2) ++ (flatS (S ++ [x])).drop ((j + 1) * 2 + (q - j) * 2)) = flatS ((S ++ [x]).take (j + 1) ++ S.drop j) := by
                  unfold flatS
                  rw [flat_take encSp_len, flat_drop encSp_len, flat_take encSp_len, show (j + 1) * 2 + (q - j) * 2 = (q + 1) * 2 by omega, flat_drop encSp_len, List.flatMap_append, ← HQ.out, moved_eq S x (by rw [HQ.out]; omega), List.drop_of_length_le (l := S ++ [x]) (by simp)]
                  simp
                rw [hS5] at HOWN5
                clear hS5
                have x0 := HKCP.out.cell (HKD0.out.cell HX30.out (fun h => h)) (fun e => hgz e.symm)
                have x1 := HKCP.out.cell (HKD0.out.cell HX31.out (fun h => h)) (fun e => hgz e.symm)
                obtain ⟨s0, hs0⟩ : ∃ y, ((S ++ [x]).take (j + 1) ++ S.drop j)[j]? = some y := ⟨_, List.getElem?_eq_getElem (by have := HQ.out; simp only [List.length_append, List.length_take, List.length_drop, List.length_cons, List.length_nil]; omega)⟩
                have HS0 := Lib.hid hs0
                have hcl5 : (S.length + [x].length) = q + 1 := by rw [HQ.out]; rfl
                have g0 : Y5.cell? ⟨g, j * 2, none⟩ = some (.int .i64 s0.point) := by
                  rw [HOWN5.out.cellAt (j * 2) (by omega)]
                  exact flat_get encSp_len _ j s0 0 hs0 (by decide)
                have g1 : Y5.cell? ⟨g, j * 2 + 1, none⟩ = some (.int .i64 s0.node) := by
                  rw [HOWN5.out.cellAt (j * 2 + 1) (by omega)]
                  exact flat_get encSp_len _ j s0 1 hs0 (by decide)
                have gf : ∀ o, Y5.frozen? ⟨g, o, none⟩ = false := fun o => HOWN5.out.frozenAt o
                clear hs0
                have hjq1 : (j : Int) < (q : Int) + 1 := by omega
                clear hcl5
                generalize (if gc' = j + 1 then (some ⟨g, 0, none⟩ : Option Addr) else some ⟨g, (j + 1) * 2, none⟩) = adp at *
                generalize (if gc' = j then (some ⟨g, 0, none⟩ : Option Addr) else some ⟨g, j * 2, none⟩) = asp at *
                go_wp2_with fail
                clear x0 x1 g0 g1 gf
                go_roundg (4 * wq - (i + 1))
                case rel =>
                  have hlen : (S.take j ++ x :: S.drop j).length = q + 1 := by
                    have := HQ.out
                    simp only [List.length_append, List.length_take, List.length_cons, List.length_drop]
                    omega
                  have hst : ((flatS ((S ++ [x]).take (j + 1) ++ S.drop j)).set (j * 2) (.int .i64 x.point)).set (j * 2 + 1) (.int .i64 x.node) = flatS (S.take j ++ x :: S.drop j) := by
                    have e1 : (((S ++ [x]).take (j + 1) ++ S.drop j).flatMap encSp).set (j * 2) (.int .i64 x.point) = (((S ++ [x]).take (j + 1) ++ S.drop j).set j ⟨x.point, s0.node, x.i⟩).flatMap encSp := flat_set encSp_len (r := 0) (u := .int .i64 x.point) (by decide) _ j s0 ⟨x.point, s0.node, x.i⟩ HS0.out rfl
                    have h2 : (((S ++ [x]).take (j + 1) ++ S.drop j).set j ⟨x.point, s0.node, x.i⟩)[j]? = some ⟨x.point, s0.node, x.i⟩ := List.getElem?_set_self (List.getElem?_eq_some_iff.1 HS0.out).1
                    have e2 := flat_set encSp_len (r := 1) (u := .int .i64 x.node) (by decide) _ j _ x h2 rfl
                    unfold flatS
                    rw [e1, e2, List.set_set, ins_moved S x (by rw [HQ.out]; exact hjq)]
                  have h1 := ((HOWN5.out.stored (j * 2) (.int .i64 x.point)).1.stored (j * 2 + 1) (.int .i64 x.node)).1
                  rw [hst] at h1
                  have hgw : w.heap.size ≤ g := (HOY3.out.2.lt g rfl).1
                  refine ⟨i + 1, S.take j ++ x :: S.drop j, by omega, by go_num, ⟨(HOY3.out.1.trans HKD0.out).trans' ((HKCP.out.setCell (p := ⟨g, j * 2, none⟩) _ (.inl rfl)).setCell (p := ⟨g, j * 2 + 1, none⟩) _ (.inl rfl)) (fun jj e => .inr (by omega)), ?_⟩, Lib.hid ⟨?_, ?_⟩⟩
                  · rw [hlen]; exact h1
                  · exact ins_at HS.out.1 (fun y hy => by rw [← HX.out]; exact drawK_lt HV.out HM.out y (HS.out.2.mem_iff.1 hy)) HTK.out HDP.out
                  · rw [drawK_succ HM.out (by simp only [Int.toNat_natCast]; exact hil), HX.out]
                    exact (ins_perm S x j).trans (HS.out.2.append_right _)
                case measure => omega
              · obtain ⟨p, hjp⟩ : ∃ p, j = p + 1 := ⟨j - 1, by omega⟩
                clear hj0
                obtain ⟨y, hy⟩ : ∃ y, S[p]? = some y := ⟨_, List.getElem?_eq_getElem (by rw [HQ.out]; omega)⟩
                have hjz : 0 < j := by omega
                have ek : (j : Int) - 1 = (p : Int) := by omega
                have hwk : IntKind.i64.wrap (p : Int) = (p : Int) := wrapI (by unfold I64; omega)
                obtain rfl := HUA.out (by omega)
                have hp0 : (0 : Int) ≤ (p : Int) := by omega
                have hpq : (p : Int) < (q : Int) := by omega
                have yc : Y.cell? ⟨bo, p * 2, none⟩ = some (.int .i64 y.point) := by
                  have h1 := HOY.out.2
                  rw [HQ.out] at h1
                  rw [h1.cellAt (p * 2) (by omega)]
                  exact flat_get encSp_len S p y 0 hy (by decide)
                have HJP := Lib.hid hjp
                have HYS := Lib.hid hy
                clear hy hjp
                by_cases hgt : x.point < y.point
                · have HDN : Hid (∀ y ∈ S.drop p, x.point < y.point) := Lib.hid (fun y' hy' => by
                    rw [List.drop_eq_getElem_cons (by rw [HQ.out]; omega)] at hy'
                    rcases List.mem_cons.1 hy' with rfl | hy'
                    · obtain ⟨_, e⟩ := List.getElem?_eq_some_iff.1 HYS.out
                      rw [e]; exact hgt
                    · rw [← HJP.out] at hy'; exact HDP.out y' hy')
                  go_wp2_with fail
                  go_quiet (fail)
                  go_wp2_with fail
                  go_roundg p
                  case rel => exact ⟨_, by go_num, by have := HJP.out; omega, by first | rfl | exact World.drewN_drewN _ _ _, HDN⟩
                  case measure => have := HJP.out; omega
                · have HTK : Hid (∀ y ∈ S.take j, y.point ≤ x.point) := Lib.hid (fun y' hy' => by
                    obtain ⟨a1, ha1⟩ := List.mem_iff_getElem?.1 hy'
                    have hlt1 : a1 < j := by have := (List.getElem?_eq_some_iff.1 ha1).1; rw [List.length_take] at this; omega
                    rw [List.getElem?_take_of_lt hlt1] at ha1
                    have := sorted_points HS.out.1 ha1 HYS.out (by have := HJP.out; omega)
                    omega)
                  go_wp2_with fail
                  go_quiet (fail)
                  clear xc
                  have HOY2 := Lib.hid (HOY.out.keep (((Keep.refl (fun _ => False) Y).drewN m).drewN nq))
                  have HKY2 : Hid (Keep (fun _ => False) Y ((Y.drewN m).drewN nq)) := Lib.hid (((Keep.refl (fun _ => False) Y).drewN m).drewN nq)
                  generalize (Y.drewN m).drewN nq = Y2 at *
                  have x0 := HKY2.out.cell HXC0.out (fun h => h)
                  have x1 := HKY2.out.cell HXC1.out (fun h => h)
                  obtain ⟨g, gc', Y3, hr, hown3, kp, hg⟩ := HOY2.out.snoc x HLEN.out
                  rw [HQ.out] at hr hown3
                  have HR := Lib.hid hr
                  have HOY3 := Lib.hid hown3
                  have hzu : ∀ jj, (Value.slice (some ⟨bo, 0, none⟩) q uc).ownBlock = some jj → jj < z := fun jj e => Nat.lt_of_lt_of_le (HOW.out.2.lt jj e).2 HY.out.lo
                  have hgz : g ≠ z := by
                    rcases hg with hg | hg
                    · have := hzu g hg; omega
                    · have := World.block_lt_of_cell? _ _ x0; simp only [] at this; omega
                  have HX30 := Lib.hid (kp.cell x0 (fun e => by have := hzu z e; omega))
                  have HX31 := Lib.hid (kp.cell x1 (fun e => by have := hzu z e; omega))
                  have HKY3 := Lib.hid kp
                  clear hr hown3 kp hg
                  go_wp2_with (at_builtin; refine wpList_app rfl (.tmp 59) (.tmp 61) 92 rfl rfl rfl HR.out ?_)
                  clear x0 x1
                  have hjz0 : (0 : Int) ≤ (j : Int) := by omega
                  have hjq0 : (j : Int) ≤ (q : Int) := by omega
                  have hj1 : (0 : Int) ≤ (j : Int) + 1 := by omega
                  have hj2 : (j : Int) ≤ (q : Int) + 1 := by omega
                  have hwj : IntKind.i64.wrap ((j : Int) + 1) = (j : Int) + 1 := wrapI (by unfold I64; omega)
                  go_upto_region 13 with (fail)
                  refine wp_region_walk [(true, 0), (true, 1), (true, 2), (true, 3), (true, 4), (false, 5), (false, 6), (false, 7)] (inKA (fun jj => jj = g) Y3) (by kernel_rfl) (by kernel_rfl) ?_
                  have HKD : Hid (Keep (fun jj => jj = g) Y3 Y3.drew) := Lib.hid (Keep.refl _ Y3).drew
                  have HKD0 : Hid (Keep (fun _ => False) Y3 Y3.drew) := Lib.hid (Keep.refl _ Y3).drew
                  generalize Y3.drew = Y4 at *
                  iterate 5 (refine walkW_read rfl (fun K hK => ?_); go_simp; refine hK _ ?_; clear hK K)
                  iterate 2 (refine walkW_do rfl (inKA.of HKD.out) (fun K hK => ?_); go_simp; refine hK _ _ ?_; clear hK K)
                  have HOY4 := Lib.hid (HOY3.out.keep HKD0.out)
                  have hgc : q + 1 ≤ gc' := by
                    rcases HOY4.out.2.2 with ⟨e, _⟩ | ⟨g', c', cur, e, _, _, h1, _⟩
                    · cases e
                    · obtain ⟨_, _, e3⟩ := Value.slice.inj e
                      have h2 := HQ.out
                      rw [List.length_append, h2] at h1
                      have h3 : [x].length = 1 := rfl
                      omega
                  have hown4 := HOY4.out.2
                  rw [List.length_append, HQ.out] at hown4
                  obtain ⟨Y5, hcp, hown5, kcp⟩ := copy_within (P := Tryz.prog) hown4 (flatS_cell _) 92 92 3 95 Tryz.underlying92 infoSp2
                    (if gc' = j + 1 then some ⟨g, 0, none⟩ else some ⟨g, (j + 1) * 2, none⟩) (if gc' = j then some ⟨g, 0, none⟩ else some ⟨g, j * 2, none⟩) (q - j) (gc' - (j + 1)) (q + 1 - j) (gc' - j) ((j + 1) * 2) (j * 2) (q - j) (by show min (q + 1 - j) (q - j) = q - j; omega)
                    (fun h => ⟨if_neg (by omega), if_neg (by omega)⟩) (by omega) (by omega)
                  have HCP := Lib.hid hcp
                  have HOWN5 := Lib.hid hown5
                  have HKCP := Lib.hid kcp
                  clear hcp hown5 kcp hown4
                  refine walkW_do rfl (inKA.of HKD.out) (fun K hK => ?_)
                  rw [if_pos (by simp [Region.wanted])]
                  refine wp_cpy (.tmp 66) (.tmp 69) 92 rfl rfl rfl HCP.out (hK _ _ ?_); clear hK K
                  refine ⟨inKA.of (HKD.out.trans HKCP.out), ?_⟩
                  have hS5 : (flatS (S ++ [x])).take ((j + 1) * 2) ++ (((flatS (S ++ [x])).drop (j * 2)).take ((q - j) * 2) ++ (flatS (S ++ [x])).drop ((j + 1) * 2 + (q - j) * 2)) = flatS ((S ++ [x]).take (j + 1) ++ S.drop j) := by
                    unfold flatS
                    rw [flat_take encSp_len, flat_drop encSp_len, flat_take encSp_len, show (j + 1) * 2 + (q - j) * 2 = (q + 1) * 2 by omega, flat_drop encSp_len, List.flatMap_append, ← HQ.out, moved_eq S x (by rw [HQ.out]; omega), List.drop_of_length_le (l := S ++ [x]) (by simp)]
                    simp
                  rw [hS5] at HOWN5
                  clear hS5
                  have x0 := HKCP.out.cell (HKD0.out.cell HX30.out (fun h => h)) (fun e => hgz e.symm)
                  have x1 := HKCP.out.cell (HKD0.out.cell HX31.out (fun h => h)) (fun e => hgz e.symm)
                  obtain ⟨s0, hs0⟩ : ∃ y, ((S ++ [x]).take (j + 1) ++ S.drop j)[j]? = some y := ⟨_, List.getElem?_eq_getElem (by have := HQ.out; simp only [List.length_append, List.length_take, List.length_drop, List.length_cons, List.length_nil]; omega)⟩
                  have HS0 := Lib.hid hs0
                  have hcl5 : (S.length + [x].length) = q + 1 := by rw [HQ.out]; rfl
                  have g0 : Y5.cell? ⟨g, j * 2, none⟩ = some (.int .i64 s0.point) := by
                    rw [HOWN5.out.cellAt (j * 2) (by omega)]
                    exact flat_get encSp_len _ j s0 0 hs0 (by decide)
                  have g1 : Y5.cell? ⟨g, j * 2 + 1, none⟩ = some (.int .i64 s0.node) := by
                    rw [HOWN5.out.cellAt (j * 2 + 1) (by omega)]
                    exact flat_get encSp_len _ j s0 1 hs0 (by decide)
                  have gf : ∀ o, Y5.frozen? ⟨g, o, none⟩ = false := fun o => HOWN5.out.frozenAt o
                  clear hs0
                  have hjq1 : (j : Int) < (q : Int) + 1 := by omega
                  clear hcl5
                  generalize (if gc' = j + 1 then (some ⟨g, 0, none⟩ : Option Addr) else some ⟨g, (j + 1) * 2, none⟩) = adp at *
                  generalize (if gc' = j then (some ⟨g, 0, none⟩ : Option Addr) else some ⟨g, j * 2, none⟩) = asp at *
                  go_wp2_with fail
                  clear x0 x1 g0 g1 gf
                  go_roundg (4 * wq - (i + 1))
                  case rel =>
                    have hlen : (S.take j ++ x :: S.drop j).length = q + 1 := by
                      have := HQ.out
                      simp only [List.length_append, List.length_take, List.length_cons, List.length_drop]
                      omega
                    have hst : ((flatS ((S ++ [x]).take (j + 1) ++ S.drop j)).set (j * 2) (.int .i64 x.point)).set (j * 2 + 1) (.int .i64 x.node) = flatS (S.take j ++ x :: S.drop j) := by
                      have e1 : (((S ++ [x]).take (j + 1) ++ S.drop j).flatMap encSp).set (j * 2) (.int .i64 x.point) = (((S ++ [x]).take (j + 1) ++ S.drop j).set j ⟨x.point, s0.node, x.i⟩).flatMap encSp := flat_set encSp_len (r := 0) (u := .int .i64 x.point) (by decide) _ j s0 ⟨x.point, s0.node, x.i⟩ HS0.out rfl
                      have h2 : (((S ++ [x]).take (j + 1) ++ S.drop j).set j ⟨x.point, s0.node, x.i⟩)[j]? = some ⟨x.point, s0.node, x.i⟩ := List.getElem?_set_self (List.getElem?_eq_some_iff.1 HS0.out).1
                      have e2 := flat_set encSp_len (r := 1) (u := .int .i64 x.node) (by decide) _ j _ x h2 rfl
                      unfold flatS
                      rw [e1, e2, List.set_set, ins_moved S x (by rw [HQ.out]; exact hjq)]
                    have h1 := ((HOWN5.out.stored (j * 2) (.int .i64 x.point)).1.stored (j * 2 + 1) (.int .i64 x.node)).1
                    rw [hst] at h1
                    have hgw : w.heap.size ≤ g := (HOY3.out.2.lt g rfl).1
                    refine ⟨i + 1, S.take j ++ x :: S.drop j, by omega, by go_num, ⟨(HOY3.out.1.trans HKD0.out).trans' ((HKCP.out.setCell (p := ⟨g, j * 2, none⟩) _ (.inl rfl)).setCell (p := ⟨g, j * 2 + 1, none⟩) _ (.inl rfl)) (fun jj e => .inr (by omega)), ?_⟩, Lib.hid ⟨?_, ?_⟩⟩
                    · rw [hlen]; exact h1
                    · exact ins_at HS.out.1 (fun y hy => by rw [← HX.out]; exact drawK_lt HV.out HM.out y (HS.out.2.mem_iff.1 hy)) HTK.out HDP.out
                    · rw [drawK_succ HM.out (by simp only [Int.toNat_natCast]; exact hil), HX.out]
                      exact (ins_perm S x j).trans (HS.out.2.append_right _)
                  case measure => omega
        · obtain rfl : i = 4 * wq := by omega
          have hig : ¬ ((4 * wq : Nat) : Int) < 4 * (wq : Int) := by omega
          go_wp2_with fail
          go_roundg (n - (k + 1))
          case rel => exact ⟨k + 1, S, by have := HKK.out; omega, by go_num, HOW.out, Lib.hid ⟨HS.out.1, by have h := HS.out.2; rw [show 4 * wq = 4 * ((wq : Int)).toNat by rw [Int.toNat_natCast], drawK_next HM.out] at h; exact h⟩⟩
          case measure => have := HKK.out; omega
    · obtain rfl : k = n := by omega
      have HE : Hid (S = circ PN l) := Lib.hid (circ_uniq PN HV.out.asc (by rw [← drawK_all (l := l) (k := k) (by have := HL.out; omega)]; exact HS.out.2) HS.out.1)
      go_wp2_with fail
      go_ret
      exact ⟨_, rfl, by rw [← HE.out]; exact HOW.out⟩
end Go.Proofs.YtiacdkggbnoigaaGreatDoor

/-
  drawn: the circle.
-/
namespace Go.Proofs.YtiacdkggbnoigaaGreatDoor
open Go.RowKit Go.Shelf
open Go.Sort (grow)

theorem flatM_get : ∀ (l : List Mk) (q : Nat) (x : Mk) (r : Nat), l[q]? = some x → r < 3 → (flatM l)[q * 3 + r]? = (encMk x)[r]?
  | [], q, x, r, h, _ => by simp at h
  | y :: l, 0, x, r, h, hr => by
    simp only [List.getElem?_cons_zero, Option.some.injEq] at h
    subst h
    unfold flatM
    rw [List.flatMap_cons, Nat.zero_mul, Nat.zero_add, List.getElem?_append_left (by simp [encMk]; omega)]
  | y :: l, q + 1, x, r, h, hr => by
    simp only [List.getElem?_cons_succ] at h
    have ih := flatM_get l q x r h hr
    unfold flatM at ih ⊢
    rw [List.flatMap_cons, List.getElem?_append_right (by simp [encMk]; omega)]
    have e : (q + 1) * 3 + r - (encMk y).length = q * 3 + r := by simp [encMk]; omega
    rw [e]; exact ih
/-- Points in a slice. -/
structure Mks (W : World) (v : Value) (l : List Mk) : Prop where
  n : l.length ≤ 100000
  at_ : ∃ a c b off, v = .slice a l.length c ∧ l.length ≤ c ∧ (0 < l.length → a = some ⟨b, off, none⟩) ∧ ∀ j x, l[j]? = some x → W.cell? ⟨b, off + j * 3, none⟩ = some (.int .i64 x.point) ∧ W.cell? ⟨b, off + j * 3 + 1, none⟩ = some (.int .i64 x.node) ∧ W.cell? ⟨b, off + j * 3 + 2, none⟩ = some (.int .i64 x.i)
theorem Mks.keep {W W' : World} {A : Nat → Prop} {v : Value} {l : List Mk} (h : Mks W v l) (k : Keep A W W') (hA : ∀ b, v.ownBlock = some b → ¬ A b) : Mks W' v l := by
  obtain ⟨a, c, b, off, rfl, hc, ha, h1⟩ := h.at_
  refine ⟨h.n, a, c, b, off, rfl, hc, ha, fun j x hj => ?_⟩
  have hp : 0 < l.length := by have := (List.getElem?_eq_some_iff.1 hj).1; omega
  have hb := hA b (by rw [ha hp]; rfl)
  exact ⟨k.cell (h1 j x hj).1 hb, k.cell (h1 j x hj).2.1 hb, k.cell (h1 j x hj).2.2 hb⟩
theorem Mks.kept {W W' : World} {v : Value} {l : List Mk} (h : Mks W v l) (k : Keep (fun _ => False) W W') : Mks W' v l := h.keep k (fun _ _ h => h)

theorem holds_mks {W : World} {g : Nat} {d : Array Mk} (h : Go.Sort.HoldsK encMk 3 W g 0 d) (j : Nat) (x : Mk) (hj : d.toList[j]? = some x) : W.cell? ⟨g, 0 + j * 3, none⟩ = some (.int .i64 x.point) ∧ W.cell? ⟨g, 0 + j * 3 + 1, none⟩ = some (.int .i64 x.node) ∧ W.cell? ⟨g, 0 + j * 3 + 2, none⟩ = some (.int .i64 x.i) := by
  have hlt : j < d.size := by have := (List.getElem?_eq_some_iff.1 hj).1; simpa using this
  have hx : d[j]! = x := by
    rw [Array.getElem?_toList, Array.getElem?_eq_getElem hlt] at hj
    simp only [Option.some.injEq] at hj
    rw [getElem!_pos d j hlt]; exact hj
  have key : ∀ r, r < 3 → W.cell? ⟨g, 0 + (j * 3 + r), none⟩ = some ((encMk x)[r]!) := fun r hr => by
    have h1 := (h (j * 3 + r) (by rw [Go.Sort.size_flatK]; omega)).1
    rw [Go.Sort.get_flatK _ _ _ _ (by omega), show (j * 3 + r) / 3 = j by omega, show (j * 3 + r) % 3 = r by omega, hx] at h1
    exact h1
  exact ⟨key 0 (by decide), by have := key 1 (by decide); rwa [← Nat.add_assoc] at this, by have := key 2 (by decide); rwa [← Nat.add_assoc] at this⟩
theorem owns_holds {W : World} {lo g n cap : Nat} {l : List Mk} (h : W.ownsRow lo 99 3 (.slice (some ⟨g, 0, none⟩) n cap) l.length (flatM l)) : Go.Sort.HoldsK encMk 3 W g 0 l.toArray := by
  intro j hj
  rw [Go.Sort.size_flatK] at hj
  simp only [List.size_toArray] at hj
  have hq : j / 3 < l.length := by omega
  have hx : l[j / 3]? = some l[j / 3] := List.getElem?_eq_getElem hq
  have h1 := flatM_get l (j / 3) _ (j % 3) hx (by omega)
  rw [show j / 3 * 3 + j % 3 = j by omega] at h1
  have h2 : (encMk l[j / 3])[j % 3]? = some ((encMk l[j / 3])[j % 3]!) := by
    have : j % 3 < (encMk l[j / 3]).length := by show j % 3 < 3; omega
    rw [List.getElem?_eq_getElem this, getElem!_pos (encMk l[j / 3]) (j % 3) this]
  rw [h2] at h1
  have h3 := h.cells (g := g) rfl _ _ h1
  rw [Addr.add_lit] at h3
  refine ⟨?_, ?_⟩
  · rw [Go.Sort.get_flatK _ _ _ _ (by simpa using hj)]
    have e : (l.toArray)[j / 3]! = l[j / 3] := by rw [getElem!_pos l.toArray (j / 3) (by simpa using hq)]; simp
    rw [e]; exact h3
  · rcases h.2 with ⟨h4, _⟩ | ⟨g', cap', cur, h4, _, hh, _⟩
    · cases h4
    · cases h4
      unfold World.frozen?
      rw [hh]
      rfl
theorem keep_sort (w : World) (blk off m : Nat) (d : Array Mk) (os : Array Obj) : Keep (fun j => j = blk) w (Go.Proofs.sortWorldK encMk 3 w blk off m d os) := by
  unfold Go.Proofs.sortWorldK
  refine ⟨rfl, rfl, rfl, ?_, fun k hk hn => ?_⟩
  · rw [Go.Sort.size_grow, Go.Sort.size_putRowK]
    exact Nat.le_add_right _ _
  · unfold grow
    show ((Go.Sort.putRowK encMk 3 (Go.Sort.ahead w m) blk off d).heap ++ os)[k]? = _
    rw [Array.getElem?_append_left (by rw [Go.Sort.size_putRowK]; exact hk)]
    unfold Go.Sort.putRowK Go.Sort.putRow Go.Sort.mapBlock
    show ((Go.Sort.ahead w m).heap.modify blk _)[k]? = _
    rw [Array.getElem?_modify, if_neg (fun e => hn e.symm)]
    rfl

def DrawPost (l : List Mb) (w : World) (e : Ending) (w' : World) : Prop := ∃ v, e = .returned v ∧ Mks w' v (circ PN l) ∧ Keep (fun _ => False) w w'
theorem drawn_any (v : Value) (l : List Mb) (w : World) (h : Mbs w v l) (hv : VL l) (hT : Tab w) : Calls Tryz.prog 54 #[v] w (DrawPost l w) := by
  refine drawn_raw v l w h hv hT _ fun vo W how => ?_
  have hlen := draws_len PN l hv.ok
  have hws := hv.wsum
  rcases how.2.2 with ⟨rfl, h0⟩ | ⟨g, cap, cur, rfl, hg, hh, hcap, r⟩
  · omega
  · have hH := owns_holds how.2
    have hblk : g < W.heap.size := (Array.getElem?_eq_some_iff.1 hh).1
    have hs := sortMarks g 0 cap (draws PN l).toArray W hH hblk (by simp; omega)
    simp only [List.size_toArray] at hs
    refine hs.mono ?_
    rintro e w' ⟨rfl, d', n, os, hperm, hsort, rfl⟩
    refine ⟨rfl, _, rfl, ?_, ?_⟩
    · have hp : d'.toList.Perm (draws PN l) := by
        have h1 := hperm.2.2
        have h2 := hperm.1
        simp only [List.size_toArray] at h2
        have e1 : d'.extract 0 (draws PN l).length = d' := by rw [← h2]; exact Array.extract_size
        have e2 : ((draws PN l).toArray.extract 0 (draws PN l).length) = (draws PN l).toArray := by
          simp
        rw [e1, e2] at h1
        simpa using h1
      have hsz : d'.size = (draws PN l).length := by have := hperm.1; simpa using this
      have hso : d'.toList.Pairwise ltMk := by
        rw [List.pairwise_iff_getElem]
        intro i j hi hj hij
        have hi' : i < d'.size := by simpa using hi
        have hj' : j < d'.size := by simpa using hj
        have h1 := hsort i j (Nat.zero_le _) hij (by omega)
        rw [cmpM_lt, decide_eq_false_iff_not, getElem!_pos d' j hj', getElem!_pos d' i hi'] at h1
        have hne : d'.toList[i] ≠ d'.toList[j] := by
          have hnd : d'.toList.Nodup := hp.nodup_iff.2 (draws_nodup PN hv.asc)
          intro e
          have := (List.getElem_inj hnd).1 e
          omega
        rw [Array.getElem_toList, Array.getElem_toList] at hne ⊢
        exact (ltMk_total hne).resolve_right h1
      have hc := circ_uniq PN hv.asc hp hso
      have hcl : (circ PN l).length = (draws PN l).length := (sortMk_perm _).length_eq
      have hHd := Go.Proofs.holdsK_sortWorldK_c encMk 3 W g 0 (draws PN l).toArray d' n os hH hblk (by simpa using hsz)
      refine ⟨by rw [hcl]; omega, some ⟨g, 0, none⟩, cap, g, 0, by rw [hcl], by rw [hcl]; exact hcap, fun _ => rfl, fun j x hj => ?_⟩
      rw [← hc] at hj
      exact holds_mks hHd j x hj
    · exact how.1.trans' (keep_sort W g 0 n d' os) (fun i e => .inr (by omega))
end Go.Proofs.YtiacdkggbnoigaaGreatDoor

/-
  BinarySearchFunc on a circle.
-/
namespace Go.Proofs.YtiacdkggbnoigaaGreatDoor
open Go.RowKit Go.Shelf

set_option maxRecDepth 100000 in
set_option maxHeartbeats 1000000 in
theorem cmpPoint_any (x : Mk) (p : Int) (W : World) : Calls Tryz.prog 74 #[mkV x, .int .i64 p] W fun e w' => e = .returned (.int .i64 (cmpI x.point p)) ∧ Keep (fun _ => False) W w' := by
  obtain ⟨x0, x1, x2⟩ := x
  have HK : Hid (Keep (fun _ => False) W (W.alloc (.cells #[.int .i64 x0, .int .i64 x1, .int .i64 x2] 99))) := Lib.hid ((Keep.refl _ W).alloc _)
  go_enter Tryz.func74, Tryz.ntmps74
  go_wp2_with fail
  with_reducible refine (cmp_int x0 p _).mono ?_
  rintro e w' ⟨rfl, rfl⟩
  go_wp2_with fail
  go_ret
  exact ⟨rfl, HK.out⟩

theorem cmpI_neg (a b : Int) : cmpI a b < 0 ↔ a < b := by
  unfold cmpI
  split
  · simp [*]
  · split <;> simp [*]

set_option maxRecDepth 100000 in
set_option maxHeartbeats 4000000 in
theorem bsearch_any (v : Value) (c : List Mk) (p : Int) (w : World) (h : Mks w v c) (hs : c.Pairwise ltMk) :
    Calls Tryz.prog 73 #[v, .int .i64 p, .func (.func 74) #[] #[]] w fun e w' => (∃ b, e = .returned (.tuple #[.int .i64 (lows c p : Nat), .bool b])) ∧ Keep (fun _ => False) w w' := by
  obtain ⟨hn, a, cc, b, off, rfl, hc, ha, hcell⟩ := h
  have HC := Lib.hid hcell
  have HA := Lib.hid ha
  have HS := Lib.hid hs
  have hlo := lows_le c p
  clear hcell ha hs
  obtain ⟨n, hn'⟩ : ∃ n, c.length = n := ⟨_, rfl⟩
  have HL := Lib.hid hn'
  rw [hn'] at hn hc hlo ⊢
  clear hn'
  obtain ⟨lo, hlo'⟩ : ∃ lo, lows c p = lo := ⟨_, rfl⟩
  have HLO := Lib.hid hlo'
  rw [hlo'] at hlo
  clear hlo'
  go_enter Tryz.func73, Tryz.ntmps73
  go_wp2_with fail
  go_loopg [9, 10] n (fun gh v9 v10 wr => ∃ (i j : Nat), v9 = .int .i64 i ∧ v10 = .int .i64 j ∧ i ≤ lo ∧ lo ≤ j ∧ j ≤ n ∧ j - i ≤ gh ∧ Keep (fun _ => False) w wr)
  case atStart => exact ⟨0, n, rfl, rfl, by omega, hlo, by omega, by omega, Keep.refl _ _⟩
  case round =>
    obtain ⟨i, j, rfl, rfl, hi, hj, hjn, hg, hkeep⟩ := hrel
    have HK := Lib.hid hkeep
    clear hkeep
    by_cases hij : i < j
    · obtain ⟨q, hq⟩ : ∃ q : Nat, (i + j) / 2 = q := ⟨_, rfl⟩
      have hq1 : i ≤ q := by omega
      have hq2 : q < j := by omega
      obtain ⟨x, hx⟩ : ∃ x, c[q]? = some x := ⟨_, List.getElem?_eq_getElem (by have := HL.out; omega)⟩
      obtain rfl := HA.out (by have := HL.out; omega)
      have c0 := HK.out.cell (HC.out q x hx).1 (fun h => h)
      have c1 := HK.out.cell (HC.out q x hx).2.1 (fun h => h)
      have c2 := HK.out.cell (HC.out q x hx).2.2 (fun h => h)
      have HB : Hid (x.point < p ↔ q < lo) := Lib.hid (by rw [← HLO.out]; exact lows_below HS.out p hx)
      clear hx
      have hijz : (i : Int) < (j : Int) := by omega
      have e1 : ((i : Int) + (j : Int)) / 2 = (q : Int) := by omega
      obtain ⟨x0, x1, x2⟩ := x
      simp only [] at c0 c1 c2 HB
      go_wp2_with fail
      clear c0 c1 c2
      with_reducible refine (cmpPoint_any ⟨x0, x1, x2⟩ p _).mono ?_
      rintro e W2 ⟨rfl, k2⟩
      have HK2 := Lib.hid (HK.out.trans k2)
      have HN := Lib.hid (cmpI_neg x0 p)
      clear k2
      simp only []
      generalize cmpI x0 p = z at *
      by_cases hz : z < 0
      · have hql := HB.out.1 (HN.out.1 hz)
        go_wp2_with fail
        go_roundg (j - (q + 1))
        case rel => exact ⟨q + 1, j, by go_num, rfl, by omega, by omega, by omega, by omega, HK2.out⟩
        case measure => omega
      · have hql : ¬ q < lo := fun h => hz (HN.out.2 (HB.out.2 h))
        go_wp2_with fail
        go_roundg (q - i)
        case rel => exact ⟨i, q, rfl, rfl, by omega, by omega, by omega, by omega, HK2.out⟩
        case measure => omega
    · obtain rfl : i = j := by omega
      obtain rfl : i = lo := by omega
      by_cases hin : i < n
      · obtain ⟨x, hx⟩ : ∃ x, c[i]? = some x := ⟨_, List.getElem?_eq_getElem (by have := HL.out; omega)⟩
        obtain rfl := HA.out (by have := HL.out; omega)
        have c0 := HK.out.cell (HC.out i x hx).1 (fun h => h)
        have c1 := HK.out.cell (HC.out i x hx).2.1 (fun h => h)
        have c2 := HK.out.cell (HC.out i x hx).2.2 (fun h => h)
        clear hx
        have hinz : (i : Int) < (n : Int) := by omega
        have hi0 : (0 : Int) ≤ (i : Int) := by omega
        obtain ⟨x0, x1, x2⟩ := x
        simp only [] at c0 c1 c2
        go_wp2_with fail
        with_reducible refine (cmpPoint_any ⟨x0, x1, x2⟩ p _).mono ?_
        rintro e W2 ⟨rfl, k2⟩
        have HK2 := Lib.hid (HK.out.trans k2)
        clear k2 c0 c1 c2
        simp only []
        generalize cmpI x0 p = z at *
        go_wp2_with fail
        refine bodyPost_ret (v := .tuple #[.int .i64 i, .bool (z == 0)]) (by simp [results, Tryz.results73, go_sem]) rfl ?_
        exact ⟨⟨_, by rw [HLO.out]⟩, HK2.out⟩
      · have hinz : ¬ (i : Int) < (n : Int) := by omega
        go_wp2_with fail
        refine bodyPost_ret (v := .tuple #[.int .i64 i, .bool false]) (by simp [results, Tryz.results73, go_sem]) rfl ?_
        exact ⟨.inl (by rw [HLO.out]), HK.out⟩
end Go.Proofs.YtiacdkggbnoigaaGreatDoor

/-
  The points of package reshard: their order, the circle.
-/
namespace Go.Proofs.YtiacdkggbnoigaaGreatDoor
open Go.RowKit Go.Shelf
open Go.Sort (grow)

/-- A point as a value. -/
abbrev ptV (x : Mk) : Value := .agg #[.int .i64 x.point, .int .i64 x.node]
def cmpPt (x y : Mk) : Int := orL [cmpI x.point y.point, cmpI x.node y.node]
set_option maxRecDepth 100000 in
set_option maxHeartbeats 2000000 in
theorem cmpPt_any (x y : Mk) (W : World) : Calls Tryz.prog 59 #[ptV x, ptV y] W fun e w' => e = .returned (.int .i64 (cmpPt x y)) ∧ ∃ q os', w' = grow (W.drewN q) os' := by
  obtain ⟨x0, x1, x2⟩ := x
  obtain ⟨y0, y1, y2⟩ := y
  have t1 := two_cell W (.int .i64 x0) (.int .i64 x1) 65
  have t2 := two_cell (W.alloc (.cells #[.int .i64 x0, .int .i64 x1] 65)) (.int .i64 y0) (.int .i64 y1) 65
  have k1 : Keep (fun _ => False) W (W.alloc (.cells #[.int .i64 x0, .int .i64 x1] 65)) := (Keep.refl _ W).alloc _
  have k2 : Keep (fun _ => False) (W.alloc (.cells #[.int .i64 x0, .int .i64 x1] 65)) ((W.alloc (.cells #[.int .i64 x0, .int .i64 x1] 65)).alloc (.cells #[.int .i64 y0, .int .i64 y1] 65)) := (Keep.refl _ _).alloc _
  have HX := Lib.hid (And.intro (k2.cell t1.1 (fun h => h)) (k2.cell t1.2.1 (fun h => h)))
  have HY := Lib.hid t2
  have HK := Lib.hid (k1.trans k2)
  have HD : Hid (W.drawn ≤ ((W.alloc (.cells #[.int .i64 x0, .int .i64 x1] 65)).alloc (.cells #[.int .i64 y0, .int .i64 y1] 65)).drawn) := Lib.hid (Nat.le_refl _)
  rw [World.size_alloc] at HY
  have HC : Hid (cmpPt ⟨x0, x1, x2⟩ ⟨y0, y1, y2⟩ = orL [cmpI x0 y0, cmpI x1 y1]) := Lib.hid rfl
  clear t1 t2 k1 k2
  go_enter Tryz.func59, Tryz.ntmps59
  go_wp2_with fail
  generalize (W.alloc (.cells #[.int .i64 x0, .int .i64 x1] 65)).alloc (.cells #[.int .i64 y0, .int .i64 y1] 65) = W1 at *
  generalize W.heap.size = z at *
  have a0 : ∀ p : KA (fun _ => False) W1, p.val.cell? ⟨z, 0, none⟩ = some (.int .i64 x0) := fun p => p.k.cell HX.out.1 (fun h => h)
  have a1 : ∀ p : KA (fun _ => False) W1, p.val.cell? ⟨z, 1, none⟩ = some (.int .i64 x1) := fun p => p.k.cell HX.out.2 (fun h => h)
  have b0 : ∀ p : KA (fun _ => False) W1, p.val.cell? ⟨z + 1, 0, none⟩ = some (.int .i64 y0) := fun p => p.k.cell HY.out.1 (fun h => h)
  have b1 : ∀ p : KA (fun _ => False) W1, p.val.cell? ⟨z + 1, 1, none⟩ = some (.int .i64 y1) := fun p => p.k.cell HY.out.2.1 (fun h => h)
  refine wp_region_walk [(true, 0), (true, 1), (true, 2), (true, 3), (true, 5), (true, 6), (true, 7), (true, 8), (false, 4), (false, 9), (false, 10), (false, 11), (false, 12)] (inKA (fun _ => False) W1) (by kernel_rfl) (by kernel_rfl) ?_
  iterate 8 (refine walkW_read rfl (fun K hK => ?_); go_simp; refine hK _ ?_; clear hK K)
  clear a0 a1 b0 b1
  have HK1 : Hid (Keep (fun _ => False) W1 W1.drew) := Lib.hid (Keep.refl _ W1).drew
  refine walkW_do rfl (inKA.of HK1.out) (fun K hK => ?_)
  go_simp
  refine (cmp_int x0 y0 _).mono ?_
  rintro e w' ⟨rfl, rfl⟩
  refine hK _ _ ?_; clear hK K
  refine walkW_do rfl (inKA.of HK1.out) (fun K hK => ?_)
  go_simp
  refine (cmp_int x1 y1 _).mono ?_
  rintro e w' ⟨rfl, rfl⟩
  refine hK _ _ ?_; clear hK K
  have q0 := cmpI_bd x0 y0
  have q1 := cmpI_bd x1 y1
  generalize cmpI x0 y0 = m0 at *
  generalize cmpI x1 y1 = m1 at *
  refine walkW_do rfl (inKA.of HK1.out) (fun K hK => ?_)
  go_simp
  refine hK _ _ ?_; clear hK K
  have HI : Hid (Its (W1.alloc (.cells #[.int .i64 m0, .int .i64 m1] 3)).drew (.slice (some ⟨W1.heap.size, 0, none⟩) 2 2) [m0, m1]) := Lib.hid ((its_new W1 [m0, m1] (by simp) (by
    intro x hx
    simp only [List.mem_cons, List.not_mem_nil, or_false] at hx
    rcases hx with rfl | rfl <;> assumption)).kept (Keep.refl _ _).drew)
  have HK2 : Hid (Keep (fun _ => False) W1 (W1.alloc (.cells #[.int .i64 m0, .int .i64 m1] 3)).drew) := Lib.hid ((Keep.refl _ W1).alloc _).drew
  have HD2 : Hid (W.drawn ≤ (W1.alloc (.cells #[.int .i64 m0, .int .i64 m1] 3)).drew.drawn) := Lib.hid (Nat.le_succ_of_le HD.out)
  generalize (W1.alloc (.cells #[.int .i64 m0, .int .i64 m1] 3)).drew = W2 at *
  refine walkW_do rfl (inKA.of HK2.out) (fun K hK => ?_)
  go_simp
  refine (cmp_or _ [m0, m1] _ HI.out).mono ?_
  rintro e w' ⟨rfl, rfl⟩
  refine hK _ _ ?_; clear hK K
  refine walkW_do rfl (inKA.of HK2.out) (fun K hK => ?_)
  go_simp
  refine hK _ _ ?_; clear hK K
  refine ⟨inKA.of HK2.out, ?_⟩
  go_wp2_with fail
  go_ret
  exact ⟨by rw [HC.out]; rfl, grow_of_keep (HK.out.trans HK2.out) HD2.out⟩
def ltPt (a b : Mk) : Prop := a.point < b.point ∨ (a.point = b.point ∧ a.node < b.node)
instance (a b : Mk) : Decidable (ltPt a b) := by unfold ltPt; infer_instance
theorem cmpPt_neg (x y : Mk) : cmpPt x y < 0 ↔ ltPt x y := by
  unfold cmpPt ltPt
  have c : ∀ a b : Int, (a < b ∧ cmpI a b = -1) ∨ (a = b ∧ cmpI a b = 0) ∨ (b < a ∧ cmpI a b = 1) := fun a b => by
    unfold cmpI
    rcases Int.lt_trichotomy a b with h | h | h
    · exact .inl ⟨h, by rw [if_pos h]⟩
    · exact .inr (.inl ⟨h, by rw [if_neg (by omega), if_neg (by omega)]⟩)
    · exact .inr (.inr ⟨h, by rw [if_neg (by omega), if_pos h]⟩)
  simp only [orL]
  rcases c x.point y.point with ⟨h1, e1⟩ | ⟨h1, e1⟩ | ⟨h1, e1⟩
  · rw [e1, if_neg (by omega)]; omega
  · rw [e1, if_pos rfl]
    rcases c x.node y.node with ⟨h2, e2⟩ | ⟨h2, e2⟩ | ⟨h2, e2⟩
    · rw [e2, if_neg (by omega)]; omega
    · rw [e2, if_pos rfl]; omega
    · rw [e2, if_neg (by omega)]; omega
  · rw [e1, if_neg (by omega)]; omega
theorem cmpPt_lt (x y : Mk) : Go.Proofs.ltOf cmpPt x y = decide (ltPt x y) := by
  unfold Go.Proofs.ltOf
  exact decide_eq_decide.2 (cmpPt_neg x y)
theorem swoPt : Go.Sort.SWO (Go.Proofs.ltOf cmpPt) where
  irrefl x := by rw [cmpPt_lt, decide_eq_false_iff_not]; unfold ltPt; omega
  trans x y z h1 h2 := by rw [cmpPt_lt, decide_eq_true_eq] at *; unfold ltPt at *; omega
  ntrans x y z h1 h2 := by rw [cmpPt_lt, decide_eq_false_iff_not] at *; unfold ltPt at *; omega
theorem cmpLaysPt (blk off size : Nat) (w : World) : Go.Proofs.CmpLays Tryz.prog 59 #[] encSp 2 cmpPt blk off size w := fun _ _ _ _ x y => cmpPt_any x y _
open Go.Sort in
theorem sortPts (blk off cap : Nat) (d : Array Mk) (w : World) (hH : Go.Sort.HoldsK encSp 2 w blk off d) (hblk : blk < w.heap.size) (hsz : d.size < 1000000) :
    Calls Tryz.prog 58 #[.slice (some ⟨blk, off, none⟩) d.size cap, .func (.func 59) #[] #[]] w fun e w' =>
      e = .returned (.tuple #[]) ∧ ∃ d' n os, PermIn 0 d.size d d' ∧ SortedIn (Go.Proofs.ltOf cmpPt) 0 d.size d' ∧ w' = Go.Proofs.sortWorldK encSp 2 w blk off n d' os := by
  have eg : ∀ args w, (callFunc 59 args).run Tryz.prog w = .ok (.enter 59 args) w := enters_of Tryz.func59 (by kernel_rfl) rfl
  have h := Go.Proofs.AnyQ.slices_SortFunc Tryz.sortPoint 2 Tryz.isAgg65 Tryz.sizeOf65 encSp (fun _ => rfl) (fun x v hv => by simp [encSp] at hv; rcases hv with rfl | rfl <;> rfl) cmpPt swoPt 59 #[] blk off cap d w eg (cmpLaysPt blk off d.size w) hH hblk (by omega)
  change Calls Tryz.prog 58 _ _ _ at h
  exact h

/-- Two lists of the same points, in order: alike but for the numbers of the points. -/
def keyPt (x : Mk) : Mk := ⟨x.point, x.node, 0⟩
theorem le_uniq : ∀ {a b : List Mk}, a.Pairwise (fun x y => ¬ ltMk y x) → b.Pairwise (fun x y => ¬ ltMk y x) → a.Perm b → a = b
  | [], b, _, _, h => h.nil_eq
  | x :: a, b, ha, hb, h => by
    cases b with
    | nil => exact absurd h.length_eq (by simp)
    | cons y b =>
      rw [List.pairwise_cons] at ha hb
      have hxy : x = y := by
        by_cases e : x = y
        · exact e
        · have h1 : y ∈ a := by
            rcases List.mem_cons.1 (h.mem_iff.2 (List.mem_cons_self)) with e' | h'
            · exact absurd e'.symm e
            · exact h'
          have h2 : x ∈ b := by
            rcases List.mem_cons.1 (h.mem_iff.1 (List.mem_cons_self)) with e' | h'
            · exact absurd e' e
            · exact h'
          rcases ltMk_total e with h3 | h3
          · exact absurd h3 (hb.1 x h2)
          · exact absurd h3 (ha.1 y h1)
      subst hxy
      rw [le_uniq ha.2 hb.2 (List.Perm.cons_inv h)]
theorem key_circ {l : List Mb} (hv : VL l) {d : List Mk} (hp : d.Perm (draws PN l)) (hs : d.Pairwise (fun x y => ¬ ltPt y x)) : d.map keyPt = (circ PN l).map keyPt := by
  refine le_uniq ?_ ?_ ((hp.trans (sortMk_perm _).symm).map keyPt)
  · rw [List.pairwise_map]
    refine hs.imp ?_
    intro a b h
    unfold keyPt ltMk
    unfold ltPt at h
    simp only []
    omega
  · rw [List.pairwise_map]
    refine (circ_sorted PN hv.asc).imp ?_
    intro a b h
    unfold keyPt ltMk
    unfold ltMk at h
    simp only []
    omega

/-- Points in a slice of their own. -/
def OwnP (w : World) (l : List Mk) (v : Value) (W : World) : Prop := Keep (fun _ => False) w W ∧ W.ownsRow w.heap.size 65 2 v l.length (flatS l)
theorem OwnP.nil {w W : World} (k : Keep (fun _ => False) w W) : OwnP w [] (.slice none 0 0) W := ⟨k, by simpa [flatS] using World.ownsRow_nil W w.heap.size 65 2⟩
theorem OwnP.keep {w W W' : World} {l : List Mk} {v : Value} (h : OwnP w l v W) (k : Keep (fun _ => False) W W') : OwnP w l v W' := ⟨h.1.trans k, ownsRow_keep h.2 k (fun _ _ h => h)⟩
theorem OwnP.form {w W : World} {l : List Mk} {v : Value} (h : OwnP w l v W) : v = .slice none 0 0 ∨ ∃ b n c, v = .slice (some ⟨b, 0, none⟩) n c := by
  rcases h.2.2 with ⟨rfl, _⟩ | ⟨g', cap, cur, rfl, _⟩
  · exact .inl rfl
  · exact .inr ⟨_, _, _, rfl⟩
theorem infoPt : (Tryz.prog.info? 65).map (fun i => (i.zero, i.size, i.bytes)) = some (some (.agg #[.int .i64 0, .int .i64 0]), 2, 16) := by kernel_rfl
theorem OwnP.snoc {w W : World} {l : List Mk} {v : Value} (h : OwnP w l v W) (x : Mk) (hl : l.length ≤ 100000) :
    ∃ v' w', (Builtin.append_ #[58, 58] 58 #[v, .slice (some ⟨W.heap.size, 0, none⟩) 1 1]).run Tryz.prog (W.alloc (.cells #[.int .i64 x.point, .int .i64 x.node] 65)) = .ok v' w' ∧ OwnP w (l ++ [x]) v' w' ∧ Keep (fun j => v.ownBlock = some j) W w' ∧ (v'.ownBlock = v.ownBlock ∨ v'.ownBlock = some (W.heap.size + 1)) := by
  obtain ⟨v', w', r1, r2, r3, r4, -⟩ := app_one 58 65 2 16 _ Tryz.underlying58 infoPt rfl (by decide) (by decide) W 58 w.heap.size v l.length (flatS l) (encSp x) h.2 rfl (by simp [encSp, Value.oneCell']) (by omega) h.1.size
  refine ⟨v', w', r1, ⟨h.1.trans' r3 (fun j e => .inr (h.2.lt j e).1), ?_⟩, r3, r4⟩
  rw [flatS_append, flatS_one, List.length_append]
  exact r2

set_option maxRecDepth 100000 in
set_option maxHeartbeats 4000000 in
theorem circleP_raw (v : Value) (l : List Mb) (w : World) (h : Mbs w v l) (hv : VL l) (hT : Tab w) (Q : Ending → World → Prop)
    (hQ : ∀ vo W, OwnP w (draws PN l) vo W → Calls Tryz.prog 58 #[vo, .func (.func 59) #[] #[]] W fun e w' => e = .returned (.tuple #[]) ∧ Q (.returned vo) w') :
    Calls Tryz.prog 33 #[v] w Q := by
  obtain ⟨hn, hbd, a, c, b, off, rfl, hc, ha, hcell⟩ := h
  have HC := Lib.hid hcell
  have HA := Lib.hid ha
  have HV := Lib.hid hv
  have HQ := Lib.hid hQ
  have HT := Lib.hid hT
  have HGN : Hid (0 < w.heap.size) := Lib.hid (World.block_lt_of_cell? _ _ (hT 0 (by decide)))
  clear hcell ha hbd hv hQ hT
  obtain ⟨n, hn'⟩ : ∃ n, l.length = n := ⟨_, rfl⟩
  have HL := Lib.hid hn'
  rw [hn'] at hn hc ⊢
  clear hn'
  go_enter Tryz.func33, Tryz.ntmps33
  go_wp2_with fail
  go_loopg [3, 9] n (fun gh v3 v wr => ∃ (k : Nat), gh + k = n ∧ v = .int .i64 k ∧ OwnP w (drawK l k 0) v3 wr)
  case atStart => exact ⟨0, by omega, rfl, by rw [drawK_zero]; exact OwnP.nil (Keep.refl _ _)⟩
  case round =>
    obtain ⟨k, hk, rfl, how⟩ := hrel
    have HOW := Lib.hid how
    clear how
    by_cases hlt : k < n
    · obtain ⟨m, hm⟩ : ∃ m, l[k]? = some m := ⟨_, List.getElem?_eq_getElem (by have := HL.out; omega)⟩
      obtain rfl := HA.out (by have := HL.out; omega)
      have c0 := HOW.out.1.cell (HC.out k m hm).1 (fun h => h)
      have c1 := HOW.out.1.cell (HC.out k m hm).2.1 (fun h => h)
      have c2 := HOW.out.1.cell (HC.out k m hm).2.2 (fun h => h)
      have HM := Lib.hid hm
      have hok := HV.out.ok m (List.mem_of_getElem? hm)
      unfold okMb at hok
      have hkz : (k : Int) < (n : Int) := by omega
      have hk0 : (0 : Int) ≤ (k : Int) := by omega
      clear hm
      obtain ⟨mn, mr, mw⟩ := m
      simp only [] at c0 c1 c2 hok
      have HK2 : Hid (OwnP w (drawK l k 0) u3 (wr.alloc (.cells #[.int .i64 mn, .int .i64 mr, .int .i64 mw] 44))) := Lib.hid (HOW.out.keep ((Keep.refl _ wr).alloc _))
      have HT3 := Lib.hid (three_cell wr (.int .i64 mn) (.int .i64 mr) (.int .i64 mw) 44)
      have HZ : Hid (w.heap.size ≤ wr.heap.size) := Lib.hid HOW.out.1.size
      go_wp2_with fail
      clear c0 c1 c2
      generalize wr.alloc (.cells #[.int .i64 mn, .int .i64 mr, .int .i64 mw] 44) = W2 at *
      have HOB : Hid (∀ j, u3.ownBlock = some j → j ≠ wr.heap.size) := Lib.hid (fun j e => by have := (HOW.out.2.lt j e).2; omega)
      generalize wr.heap.size = z at *
      obtain ⟨mq, rfl⟩ : ∃ mq : Nat, mn = mq := ⟨mn.toNat, by omega⟩
      obtain ⟨wq, rfl⟩ : ∃ wq : Nat, mw = wq := ⟨mw.toNat, by omega⟩
      go_loopg [3, 16] (4 * wq) (fun g2 v3 v wr2 => ∃ i : Nat, g2 + i = 4 * wq ∧ v = .int .i64 i ∧ OwnP w (drawK l k i) v3 wr2 ∧ wr2.cell? ⟨z, 0, none⟩ = some (.int .i64 mq) ∧ ∀ j, v3.ownBlock = some j → j ≠ z)
      case atStart => exact ⟨0, by omega, rfl, HK2.out, HT3.out.1, HOB.out⟩
      case round =>
        clear HK2 HT3 HOB HOW
        obtain ⟨i, hi, rfl, how, hcz, hob⟩ := hrel
        have HOW := Lib.hid how
        have HOB := Lib.hid hob
        have HCZ := Lib.hid hcz
        clear how hob hcz
        by_cases hil : i < 4 * wq
        · have hiz : (i : Int) < 4 * (wq : Int) := by omega
          have hi0 : (0 : Int) ≤ (i : Int) := by omega
          have hi100 : i < 100 := by omega
          have hm100 : mq < 100 := by omega
          have HF := Lib.hid HOW.out.form
          have HOT : Hid (∀ p : KA (fun j => u3.ownBlock = some j) wr, Tab p.val) := Lib.hid (fun p => (HT.out.kept HOW.out.1).keep p.k (fun e => by have := (HOW.out.2.lt _ e).1; have := HGN.out; omega))
          go_upto_region 8 with (fail)
          have cz : ∀ p : KA (fun j => u3.ownBlock = some j) wr, p.val.cell? ⟨z, 0, none⟩ = some (.int .i64 mq) := fun p => p.k.cell HCZ.out (fun e => HOB.out z e rfl)
          have hd1 : (dig mq).size ≤ 2 := dig_size hm100
          have hd2 : (dig i).size ≤ 2 := dig_size hi100
          have HD1 : Hid (∀ W, Calls Tryz.prog 35 #[.int .i64 (mq : Int)] W fun e w' => e = .returned (.string (dig mq)) ∧ w' = W) := Lib.hid (fun W => (itoa_small mq hm100 W).mono fun e w' h => ⟨h.1, h.2.symm⟩)
          have HD2 : Hid (∀ W, Calls Tryz.prog 35 #[.int .i64 (i : Int)] W fun e w' => e = .returned (.string (dig i)) ∧ w' = W) := Lib.hid (fun W => (itoa_small i hi100 W).mono fun e w' h => ⟨h.1, h.2.symm⟩)
          have HPT : Hid (∀ W, inKA (fun j => u3.ownBlock = some j) wr W → Calls Tryz.prog 34 #[.string (((⟨#[110, 111, 100, 101, 32]⟩ : ByteArray) ++ dig mq) ++ ⟨#[32]⟩ ++ dig i)] W fun e w' => e = .returned (.int .i64 (PN (mq : Int) i)) ∧ w' = W) := Lib.hid (fun W hW => by
            rw [nodeT_ref]
            obtain ⟨p, rfl⟩ := hW
            have ht := HOT.out p
            exact (point_any _ (nodeT_size (by rw [Int.toNat_natCast]; omega) (by omega)) p.val ht).mono fun e w' h => ⟨h.1, h.2.symm⟩)
          generalize dig mq = dm at *
          generalize dig i = di at *
          have hz1 : ¬ (9223372036854775807 < 5 + dm.size) := by omega
          have hz2 : ¬ (9223372036854775807 < 5 + dm.size + 1) := by omega
          have hz3 : ¬ (9223372036854775807 < 5 + dm.size + 1 + di.size) := by omega
          refine wp_region_walk [(true, 0), (true, 1), (true, 2), (true, 3), (true, 4), (true, 5), (true, 6), (true, 7), (true, 8), (true, 9), (true, 10), (true, 11), (true, 12), (false, 13), (false, 14), (false, 15)] (inKA (fun j => u3.ownBlock = some j) wr) (by kernel_rfl) (by kernel_rfl) ?_
          iterate 3 (refine walkW_read rfl (fun K hK => ?_); go_simp; refine hK _ ?_; clear hK K)
          refine walkW_read rfl (fun K hK => ?_)
          go_simp
          refine ⟨_, fun p => HD1.out p.val, hK _ ?_⟩; clear hK K
          iterate 3 (refine walkW_read rfl (fun K hK => ?_); go_simp; refine hK _ ?_; clear hK K)
          refine walkW_read rfl (fun K hK => ?_)
          go_simp
          refine ⟨_, fun p => HD2.out p.val, hK _ ?_⟩; clear hK K
          refine walkW_read rfl (fun K hK => ?_); go_simp; refine hK _ ?_; clear hK K
          refine walkW_read rfl (fun K hK => ?_)
          go_simp
          refine ⟨_, fun p => HPT.out p.val ⟨p, rfl⟩, hK _ ?_⟩; clear hK K
          iterate 3 (refine walkW_read rfl (fun K hK => ?_); go_simp; refine hK _ ?_; clear hK K)
          clear cz hz1 hz2 hz3
          have HK1' : Hid (Keep (fun j => u3.ownBlock = some j) wr wr.drew) := Lib.hid (Keep.refl _ wr).drew
          have HKD : Hid (Keep (fun _ => False) wr wr.drew) := Lib.hid (Keep.refl _ wr).drew
          have HSZD : Hid (z < wr.drew.heap.size) := Lib.hid (World.block_lt_of_cell? _ _ HCZ.out)
          generalize wr.drew = V1 at *
          obtain ⟨v', W3, hr, how3, hk3, hob3⟩ := (HOW.out.keep HKD.out).snoc ⟨PN (mq : Int) i, mq, i⟩ (drawK_len HV.out)
          simp only [] at hr
          have HN : Hid (OwnP w (drawK l k (i + 1)) v' W3) := Lib.hid (by
            rw [drawK_succ HM.out (by show i < 4 * (wq : Int).toNat; rw [Int.toNat_natCast]; omega)]
            exact how3)
          have HK3 : Hid (Keep (fun j => u3.ownBlock = some j) wr W3) := Lib.hid (HK1'.out.trans hk3)
          have HCZ3 : Hid (W3.cell? ⟨z, 0, none⟩ = some (.int .i64 mq)) := Lib.hid (HK3.out.cell HCZ.out (fun e => HOB.out z e rfl))
          have HOB3 : Hid (∀ j, v'.ownBlock = some j → j ≠ z) := Lib.hid (fun j e => by
            rcases hob3 with h | h
            · exact HOB.out j (h.symm.trans e)
            · rw [h] at e
              cases e
              have := HSZD.out
              omega)
          have HR := Lib.hid hr
          clear how3 hk3 hob3 hr
          generalize PN (mq : Int) i = pn at *
          refine walkW_do rfl (inKA.of HK1'.out) (fun K hK => ?_)
          go_simp
          refine hK _ _ ?_; clear hK K
          refine walkW_do rfl (inKA.of (HK1'.out.alloc _)) (fun K hK => ?_)
          rw [if_pos (by simp [Region.wanted])]
          refine wp_app (.tmp 19) (.tmp 32) 58 rfl rfl rfl HR.out (hK _ _ ?_); clear hK K
          refine walkW_do rfl (inKA.of HK3.out) (fun K hK => ?_)
          go_simp
          refine hK _ _ ?_; clear hK K
          refine ⟨inKA.of HK3.out, ?_⟩
          go_wp2_with fail
          go_roundg (gk - 1)
          case rel => exact ⟨i + 1, by omega, by go_num, HN.out, HCZ3.out, HOB3.out⟩
          case measure => omega
        · obtain rfl : i = 4 * wq := by omega
          have HN : Hid (OwnP w (drawK l (k + 1) 0) u3 wr) := Lib.hid (by
            have := HOW.out
            rwa [show 4 * wq = 4 * (wq : Int).toNat by rw [Int.toNat_natCast], drawK_next HM.out] at this)
          have hiz : ¬ ((4 * wq : Nat) : Int) < 4 * (wq : Int) := by omega
          go_wp2_with fail
          go_roundg (n - (k + 1))
          case rel => exact ⟨k + 1, by omega, by go_num, HN.out⟩
          case measure => omega
    · have HN : Hid (OwnP w (draws PN l) u3 wr) := Lib.hid (by
        have := HOW.out
        rwa [drawK_all (by have := HL.out; omega)] at this)
      go_wp2_with fail
      with_reducible refine (HQ.out _ _ HN.out).mono ?_
      rintro e W3 ⟨rfl, hq⟩
      go_wp2_with fail
      exact hq

/-- Points in a slice. -/
structure Pts (W : World) (v : Value) (l : List Mk) : Prop where
  n : l.length ≤ 100000
  at_ : ∃ a c b off, v = .slice a l.length c ∧ l.length ≤ c ∧ (0 < l.length → a = some ⟨b, off, none⟩) ∧ ∀ j x, l[j]? = some x → W.cell? ⟨b, off + j * 2, none⟩ = some (.int .i64 x.point) ∧ W.cell? ⟨b, off + j * 2 + 1, none⟩ = some (.int .i64 x.node)
theorem Pts.keep {W W' : World} {A : Nat → Prop} {v : Value} {l : List Mk} (h : Pts W v l) (k : Keep A W W') (hA : ∀ b, v.ownBlock = some b → ¬ A b) : Pts W' v l := by
  obtain ⟨a, c, b, off, rfl, hc, ha, h1⟩ := h.at_
  refine ⟨h.n, a, c, b, off, rfl, hc, ha, fun j x hj => ?_⟩
  have hp : 0 < l.length := by have := (List.getElem?_eq_some_iff.1 hj).1; omega
  have hb := hA b (by rw [ha hp]; rfl)
  exact ⟨k.cell (h1 j x hj).1 hb, k.cell (h1 j x hj).2 hb⟩
theorem Pts.kept {W W' : World} {v : Value} {l : List Mk} (h : Pts W v l) (k : Keep (fun _ => False) W W') : Pts W' v l := h.keep k (fun _ _ h => h)
theorem holds_pts {W : World} {g : Nat} {d : Array Mk} (h : Go.Sort.HoldsK encSp 2 W g 0 d) (j : Nat) (x : Mk) (hj : d.toList[j]? = some x) : W.cell? ⟨g, 0 + j * 2, none⟩ = some (.int .i64 x.point) ∧ W.cell? ⟨g, 0 + j * 2 + 1, none⟩ = some (.int .i64 x.node) := by
  have hlt : j < d.size := by have := (List.getElem?_eq_some_iff.1 hj).1; simpa using this
  have hx : d[j]! = x := by
    rw [Array.getElem?_toList, Array.getElem?_eq_getElem hlt] at hj
    simp only [Option.some.injEq] at hj
    rw [getElem!_pos d j hlt]; exact hj
  have key : ∀ r, r < 2 → W.cell? ⟨g, 0 + (j * 2 + r), none⟩ = some ((encSp x)[r]!) := fun r hr => by
    have h1 := (h (j * 2 + r) (by rw [Go.Sort.size_flatK]; omega)).1
    rw [Go.Sort.get_flatK _ _ _ _ (by omega), show (j * 2 + r) / 2 = j by omega, show (j * 2 + r) % 2 = r by omega, hx] at h1
    exact h1
  exact ⟨key 0 (by decide), by have := key 1 (by decide); rwa [← Nat.add_assoc] at this⟩
theorem owns_holdsP {W : World} {lo g n cap : Nat} {l : List Mk} (h : W.ownsRow lo 65 2 (.slice (some ⟨g, 0, none⟩) n cap) l.length (flatS l)) : Go.Sort.HoldsK encSp 2 W g 0 l.toArray := by
  intro j hj
  rw [Go.Sort.size_flatK] at hj
  simp only [List.size_toArray] at hj
  have hq : j / 2 < l.length := by omega
  have hx : l[j / 2]? = some l[j / 2] := List.getElem?_eq_getElem hq
  have h1 : (flatS l)[j / 2 * 2 + j % 2]? = _ := flat_get encSp_len l (j / 2) _ (j % 2) hx (by omega)
  rw [show j / 2 * 2 + j % 2 = j by omega] at h1
  have h2 : (encSp l[j / 2])[j % 2]? = some ((encSp l[j / 2])[j % 2]!) := by
    have : j % 2 < (encSp l[j / 2]).length := by show j % 2 < 2; omega
    rw [List.getElem?_eq_getElem this, getElem!_pos (encSp l[j / 2]) (j % 2) this]
  rw [h2] at h1
  have h3 := h.cells (g := g) rfl _ _ h1
  rw [Addr.add_lit] at h3
  refine ⟨?_, ?_⟩
  · rw [Go.Sort.get_flatK _ _ _ _ (by simpa using hj)]
    have e : (l.toArray)[j / 2]! = l[j / 2] := by rw [getElem!_pos l.toArray (j / 2) (by simpa using hq)]; simp
    rw [e]; exact h3
  · rcases h.2 with ⟨h4, _⟩ | ⟨g', cap', cur, h4, _, hh, _⟩
    · cases h4
    · cases h4
      unfold World.frozen?
      rw [hh]
      rfl
theorem keep_sortP (w : World) (blk off m : Nat) (d : Array Mk) (os : Array Obj) : Keep (fun j => j = blk) w (Go.Proofs.sortWorldK encSp 2 w blk off m d os) := by
  unfold Go.Proofs.sortWorldK
  refine ⟨rfl, rfl, rfl, ?_, fun k hk hn => ?_⟩
  · rw [Go.Sort.size_grow, Go.Sort.size_putRowK]
    exact Nat.le_add_right _ _
  · unfold grow
    show ((Go.Sort.putRowK encSp 2 (Go.Sort.ahead w m) blk off d).heap ++ os)[k]? = _
    rw [Array.getElem?_append_left (by rw [Go.Sort.size_putRowK]; exact hk)]
    unfold Go.Sort.putRowK Go.Sort.putRow Go.Sort.mapBlock
    show ((Go.Sort.ahead w m).heap.modify blk _)[k]? = _
    rw [Array.getElem?_modify, if_neg (fun e => hn e.symm)]
    rfl
def CirPost (l : List Mb) (w : World) (e : Ending) (w' : World) : Prop := ∃ v, e = .returned v ∧ Pts w' v (circ PN l) ∧ Keep (fun _ => False) w w' ∧ ∀ b, v.ownBlock = some b → w.heap.size ≤ b
theorem circleP_any (v : Value) (l : List Mb) (w : World) (h : Mbs w v l) (hv : VL l) (hT : Tab w) : Calls Tryz.prog 33 #[v] w (CirPost l w) := by
  refine circleP_raw v l w h hv hT _ fun vo W how => ?_
  have hlen := draws_len PN l hv.ok
  have hws := hv.wsum
  rcases how.2.2 with ⟨rfl, h0⟩ | ⟨g, cap, cur, rfl, hg, hh, hcap, r⟩
  · omega
  · have hH := owns_holdsP how.2
    have hblk : g < W.heap.size := (Array.getElem?_eq_some_iff.1 hh).1
    have hs := sortPts g 0 cap (draws PN l).toArray W hH hblk (by simp; omega)
    simp only [List.size_toArray] at hs
    refine hs.mono ?_
    rintro e w' ⟨rfl, d', n, os, hperm, hsort, rfl⟩
    refine ⟨rfl, _, rfl, ?_, ?_, fun b hb => by cases hb; exact hg⟩
    · have hp : d'.toList.Perm (draws PN l) := by
        have h1 := hperm.2.2
        have h2 := hperm.1
        simp only [List.size_toArray] at h2
        have e1 : d'.extract 0 (draws PN l).length = d' := by rw [← h2]; exact Array.extract_size
        have e2 : ((draws PN l).toArray.extract 0 (draws PN l).length) = (draws PN l).toArray := by
          simp
        rw [e1, e2] at h1
        simpa using h1
      have hsz : d'.size = (draws PN l).length := by have := hperm.1; simpa using this
      have hso : d'.toList.Pairwise (fun x y => ¬ ltPt y x) := by
        rw [List.pairwise_iff_getElem]
        intro i j hi hj hij
        have hi' : i < d'.size := by simpa using hi
        have hj' : j < d'.size := by simpa using hj
        have h1 := hsort i j (Nat.zero_le _) hij (by omega)
        rw [cmpPt_lt, decide_eq_false_iff_not, getElem!_pos d' j hj', getElem!_pos d' i hi'] at h1
        rwa [Array.getElem_toList, Array.getElem_toList]
      have hk := key_circ hv hp hso
      have hcl : (circ PN l).length = (draws PN l).length := (sortMk_perm _).length_eq
      have hHd := Go.Proofs.holdsK_sortWorldK_c encSp 2 W g 0 (draws PN l).toArray d' n os hH hblk (by simpa using hsz)
      refine ⟨by rw [hcl]; omega, some ⟨g, 0, none⟩, cap, g, 0, by rw [hcl], by rw [hcl]; exact hcap, fun _ => rfl, fun j x hj => ?_⟩
      have e1 : ((circ PN l).map keyPt)[j]? = some (keyPt x) := by rw [List.getElem?_map, hj]; rfl
      rw [← hk, List.getElem?_map] at e1
      cases hy : d'.toList[j]? with
      | none => rw [hy] at e1; simp at e1
      | some y =>
        rw [hy] at e1
        simp only [Option.map_some, Option.some.injEq] at e1
        have h2 := holds_pts hHd j y hy
        have p1 : y.point = x.point := by have := congrArg Mk.point e1; exact this
        have p2 : y.node = x.node := by have := congrArg Mk.node e1; exact this
        rwa [p1, p2] at h2
    · exact how.1.trans' (keep_sortP W g 0 n d' os) (fun i e => .inr (by omega))
end Go.Proofs.YtiacdkggbnoigaaGreatDoor

/-
  BinarySearchFunc on the points of package reshard.
-/
namespace Go.Proofs.YtiacdkggbnoigaaGreatDoor
open Go.RowKit Go.Shelf

set_option maxRecDepth 100000 in
set_option maxHeartbeats 1000000 in
theorem cmpAt_any (x : Mk) (p : Int) (W : World) : Calls Tryz.prog 37 #[ptV x, .int .i64 p] W fun e w' => e = .returned (.int .i64 (cmpI x.point p)) ∧ Keep (fun _ => False) W w' := by
  obtain ⟨x0, x1, x2⟩ := x
  have HK : Hid (Keep (fun _ => False) W (W.alloc (.cells #[.int .i64 x0, .int .i64 x1] 65))) := Lib.hid ((Keep.refl _ W).alloc _)
  go_enter Tryz.func37, Tryz.ntmps37
  go_wp2_with fail
  with_reducible refine (cmp_int x0 p _).mono ?_
  rintro e w' ⟨rfl, rfl⟩
  go_wp2_with fail
  go_ret
  exact ⟨rfl, HK.out⟩

set_option maxRecDepth 100000 in
set_option maxHeartbeats 4000000 in
theorem bsearchP_any (v : Value) (c : List Mk) (p : Int) (w : World) (h : Pts w v c) (hs : c.Pairwise ltMk) :
    Calls Tryz.prog 36 #[v, .int .i64 p, .func (.func 37) #[] #[]] w fun e w' => (∃ b, e = .returned (.tuple #[.int .i64 (lows c p : Nat), .bool b])) ∧ Keep (fun _ => False) w w' := by
  obtain ⟨hn, a, cc, b, off, rfl, hc, ha, hcell⟩ := h
  have HC := Lib.hid hcell
  have HA := Lib.hid ha
  have HS := Lib.hid hs
  have hlo := lows_le c p
  clear hcell ha hs
  obtain ⟨n, hn'⟩ : ∃ n, c.length = n := ⟨_, rfl⟩
  have HL := Lib.hid hn'
  rw [hn'] at hn hc hlo ⊢
  clear hn'
  obtain ⟨lo, hlo'⟩ : ∃ lo, lows c p = lo := ⟨_, rfl⟩
  have HLO := Lib.hid hlo'
  rw [hlo'] at hlo
  clear hlo'
  go_enter Tryz.func36, Tryz.ntmps36
  go_wp2_with fail
  go_loopg [9, 10] n (fun gh v9 v10 wr => ∃ (i j : Nat), v9 = .int .i64 i ∧ v10 = .int .i64 j ∧ i ≤ lo ∧ lo ≤ j ∧ j ≤ n ∧ j - i ≤ gh ∧ Keep (fun _ => False) w wr)
  case atStart => exact ⟨0, n, rfl, rfl, by omega, hlo, by omega, by omega, Keep.refl _ _⟩
  case round =>
    obtain ⟨i, j, rfl, rfl, hi, hj, hjn, hg, hkeep⟩ := hrel
    have HK := Lib.hid hkeep
    clear hkeep
    by_cases hij : i < j
    · obtain ⟨q, hq⟩ : ∃ q : Nat, (i + j) / 2 = q := ⟨_, rfl⟩
      have hq1 : i ≤ q := by omega
      have hq2 : q < j := by omega
      obtain ⟨x, hx⟩ : ∃ x, c[q]? = some x := ⟨_, List.getElem?_eq_getElem (by have := HL.out; omega)⟩
      obtain rfl := HA.out (by have := HL.out; omega)
      have c0 := HK.out.cell (HC.out q x hx).1 (fun h => h)
      have c1 := HK.out.cell (HC.out q x hx).2 (fun h => h)
      have HB : Hid (x.point < p ↔ q < lo) := Lib.hid (by rw [← HLO.out]; exact lows_below HS.out p hx)
      clear hx
      have hijz : (i : Int) < (j : Int) := by omega
      have e1 : ((i : Int) + (j : Int)) / 2 = (q : Int) := by omega
      obtain ⟨x0, x1, x2⟩ := x
      simp only [] at c0 c1 HB
      go_wp2_with fail
      clear c0 c1
      with_reducible refine (cmpAt_any ⟨x0, x1, x2⟩ p _).mono ?_
      rintro e W2 ⟨rfl, k2⟩
      have HK2 := Lib.hid (HK.out.trans k2)
      have HN := Lib.hid (cmpI_neg x0 p)
      clear k2
      simp only []
      generalize cmpI x0 p = z at *
      by_cases hz : z < 0
      · have hql := HB.out.1 (HN.out.1 hz)
        go_wp2_with fail
        go_roundg (j - (q + 1))
        case rel => exact ⟨q + 1, j, by go_num, rfl, by omega, by omega, by omega, by omega, HK2.out⟩
        case measure => omega
      · have hql : ¬ q < lo := fun h => hz (HN.out.2 (HB.out.2 h))
        go_wp2_with fail
        go_roundg (q - i)
        case rel => exact ⟨i, q, rfl, rfl, by omega, by omega, by omega, by omega, HK2.out⟩
        case measure => omega
    · obtain rfl : i = j := by omega
      obtain rfl : i = lo := by omega
      by_cases hin : i < n
      · obtain ⟨x, hx⟩ : ∃ x, c[i]? = some x := ⟨_, List.getElem?_eq_getElem (by have := HL.out; omega)⟩
        obtain rfl := HA.out (by have := HL.out; omega)
        have c0 := HK.out.cell (HC.out i x hx).1 (fun h => h)
        have c1 := HK.out.cell (HC.out i x hx).2 (fun h => h)
        clear hx
        have hinz : (i : Int) < (n : Int) := by omega
        have hi0 : (0 : Int) ≤ (i : Int) := by omega
        obtain ⟨x0, x1, x2⟩ := x
        simp only [] at c0 c1
        go_wp2_with fail
        with_reducible refine (cmpAt_any ⟨x0, x1, x2⟩ p _).mono ?_
        rintro e W2 ⟨rfl, k2⟩
        have HK2 := Lib.hid (HK.out.trans k2)
        clear k2 c0 c1
        simp only []
        generalize cmpI x0 p = z at *
        go_wp2_with fail
        refine bodyPost_ret (v := .tuple #[.int .i64 i, .bool (z == 0)]) (by simp [results, Tryz.results36, go_sem]) rfl ?_
        exact ⟨⟨_, by rw [HLO.out]⟩, HK2.out⟩
      · have hinz : ¬ (i : Int) < (n : Int) := by omega
        go_wp2_with fail
        refine bodyPost_ret (v := .tuple #[.int .i64 i, .bool false]) (by simp [results, Tryz.results36, go_sem]) rfl ?_
        exact ⟨.inl (by rw [HLO.out]), HK.out⟩
end Go.Proofs.YtiacdkggbnoigaaGreatDoor

/-
  A range over a function whose iterator yields a list that is known ahead: one law for the caller, by index.
-/
namespace Go.Proofs.YtiacdkggbnoigaaGreatDoor
open Go Go.RowKit

/-- What an iterator with N known values does, in the wide fence: it reads under A, it leaves the heap alone by itself. -/
def IterL (P : Program) (gf : Nat) (lb : Array Value) (N : Nat) (encs : Nat → Array Value) (A : World → Prop) : Prop :=
  ∀ (l : Nat) (J Jx : Nat → World → Prop) (W : World),
    (∀ i V, J i V → A V) → (∀ i V V', J i V → V.grownBy V' none → J i V') →
    (∀ i V, i < N → J i V → YieldAt Fence.wide 0 P l (encs i) V fun e V' => (e = .returned (.bool true) ∧ J (i + 1) V') ∨ (e = .returned (.bool false) ∧ Jx i V')) →
    J 0 W →
    CallsIn Fence.wide 0 P gf (#[.func (.yield l) #[] #[]] ++ lb) W fun e W' => (∃ v, e = .returned v) ∧ (J N W' ∨ ∃ i, i < N ∧ Jx i W')

/-- How a round's body may be left. -/
def roundL (B : Nat) (I : Nat → World → Prop) (Ix : Code → Nat → World → Prop) (i : Nat) (V : World) : Exit → Act → World → Prop
  | .normal, _, V' => KeepsFrom B V V' ∧ I (i + 1) V'
  | .ret, _, V' => KeepsFrom B V V' ∧ Ix .ret i V'
  | .exit id, _, V' => KeepsFrom B V V' ∧ Ix (.exit id) i V'
  | .goto t, _, V' => KeepsFrom B V V' ∧ Ix (.goto t) i V'
  | .panic _, _, _ => False
  | .outgrown, _, _ => False

theorem grownBy_drew (W : World) : W.grownBy W.drew none := ⟨rfl, rfl, rfl, Nat.le_refl _, fun _ _ _ => rfl⟩

theorem range_list {P : Program} {g : Operand} {ps : Array Tmp} {assign body : Code} {Q : Exit → Act → World → Prop} {a : Act} {w : World}
    {gf : Nat} {lb : Array Value} (hg : a.eval g = .func (.func gf) #[] lb) (eg : ∀ args w, (callFunc gf args).run P w = .ok (.enter gf args) w)
    {N : Nat} {encs : Nat → Array Value} {A : World → Prop} (hseq : IterL P gf lb N encs A) (hps : ∀ i, i < N → (encs i).size = ps.size)
    (I : Nat → World → Prop) (Ix : Code → Nat → World → Prop) (hI : OwnFrom w.heap.size I) (hIx : ∀ c, OwnFrom w.heap.size (Ix c))
    (hA : ∀ i V, I i V → A V) (h0 : I 0 w) (a₁ : Nat → Act)
    (hassign : ∀ (l i : Nat) (V : World) (K : Act → World → Prop), i < N → K (a₁ i) V →
      assign.wpIn (Fence.wide.inRound l) 0 P (Exit.then K (fun _ _ _ => False)) { tmps := (ps.zip (encs i)).foldl (fun t (p, v) => t.setIfInBounds p v) a.tmps, defers := [] } V)
    (hbody : ∀ (l i : Nat) (V : World), i < N → I i V → w.heap.size ≤ V.heap.size → body.wpIn (Fence.wide.inRound l) 0 P (roundL w.heap.size I Ix i V) (a₁ i) V)
    (hdone : ∀ (D : Nat) (V : World), w.heap.size ≤ D → I N V → V.heap[D]? = some (.deferred (some [])) → Q .normal { a with defers := { target := .collected D, args := #[] } :: a.defers } V)
    (hstop : ∀ (D : Nat) (c : Code) (i : Nat) (V : World), w.heap.size ≤ D → i < N → Ix c i V → V.heap[D]? = some (.deferred (some [])) → c.wpIn Fence.wide 0 P Q { a with defers := { target := .collected D, args := #[] } :: a.defers } V) :
    (Code.rangeFunc g ps assign body).wpIn Fence.wide 0 P Q a w := by
  refine wpIn_rangeFunc fun fn hfn => ?_
  let rec_ : LoopState → Option Code → Loop := fun st pe => { state := st, pending := pe, fn, tmps := a.tmps, params := ps, assign, body, defers := w.heap.size }
  obtain ⟨W1, hW1⟩ : ∃ W1, (w.alloc (.deferred (some []))).alloc (.loop (rec_ .ready none)) = W1 := ⟨_, rfl⟩
  have hl1 : W1.heap[w.heap.size + 1]? = some (.loop (rec_ .ready none)) := by
    have := World.alloc_heap_new (w.alloc (.deferred (some []))) (.loop (rec_ .ready none))
    rw [World.size_alloc, hW1] at this; exact this
  have hk1 : W1.heap[w.heap.size]? = some (.deferred (some [])) := by
    rw [← hW1]; exact (Below.heap_alloc _ _ _ (by simp)).trans (World.alloc_heap_new w _)
  have hI1 : I 0 W1 := by rw [← hW1]; exact hI.alloc _ (hI.alloc _ h0)
  refine ⟨w.heap.size + 1, [{ target := .collected w.heap.size, args := #[] }], W1, { target := .fn (.func gf) lb, args := #[.func (.yield (w.heap.size + 1)) #[] #[]] }, W1, gf,
    #[.func (.yield (w.heap.size + 1)) #[] #[]] ++ lb, W1, ?_, ?_, fun _ _ => trivial, ?_, fun h => by simp [Fence.wide] at h, ?_⟩
  · rw [← hW1]; exact run_enterLoop_outer _ _ _ _ _
  · simp only [resolve, hg]
    simp [go_sem]
  · simp [invoke, go_sem, eg]
  · refine (hseq (w.heap.size + 1)
      (fun i V => I i V ∧ V.heap[w.heap.size + 1]? = some (.loop (rec_ .ready none)) ∧ V.heap[w.heap.size]? = some (.deferred (some [])))
      (fun i V => ∃ c, Ix c i V ∧ V.heap[w.heap.size + 1]? = some (.loop (rec_ .done (some c))) ∧ V.heap[w.heap.size]? = some (.deferred (some [])))
      W1 (fun i V h => hA i V h.1) (fun i V V' h hg => ⟨hI i V V' none h.1 hg (fun r e => by cases e), (hg.block _ (Array.getElem?_eq_some_iff.1 h.2.1).1 (fun e => by cases e)).trans h.2.1, (hg.block _ (Array.getElem?_eq_some_iff.1 h.2.2).1 (fun e => by cases e)).trans h.2.2⟩) ?_ ⟨hI1, hl1, hk1⟩).mono ?_
    · rintro i V hi ⟨hiv, hl, hk⟩
      have hlt : w.heap.size + 1 < V.heap.size := (Array.getElem?_eq_some_iff.1 hl).1
      have hy := run_yield (P := P) (args := encs i) hl (hps i hi)
      refine ⟨fn, _, assign, body, hy, roundIn_of_wpIn hfn (hassign _ i V _ hi ⟨_, run_beginRound hl rfl, ?_⟩)⟩
      obtain ⟨V2, hV2⟩ : ∃ V2, V.putObj (w.heap.size + 1) (.loop { rec_ .ready none with state := .busy }) = V2 := ⟨_, rfl⟩
      have hl2 : V2.heap[w.heap.size + 1]? = some (.loop (rec_ .busy none)) := by rw [← hV2]; exact World.putObj_heap_same hlt
      have hk2 : V2.heap[w.heap.size]? = some (.deferred (some [])) := by rw [← hV2]; exact (World.putObj_heap_other (by omega)).trans hk
      have hi2 : I i V2 := by rw [← hV2]; exact hI.putObj _ hiv (by omega) hl rfl
      have hs2 : w.heap.size ≤ V2.heap.size := by rw [← hV2, World.putObj_size]; omega
      have key : ∀ (jump : Option Code) (V3 : World), KeepsFrom w.heap.size V2 V3 →
          (Instr.endRound (w.heap.size + 1) jump).run P V3 = .ok (.bool jump.isNone) (V3.putObj (w.heap.size + 1) (.loop (rec_ (if jump.isNone then .ready else .done) jump))) ∧
          V3.heap[w.heap.size + 1]? = some (.loop (rec_ .busy none)) ∧
          (V3.putObj (w.heap.size + 1) (.loop (rec_ (if jump.isNone then .ready else .done) jump))).heap[w.heap.size + 1]? = some (.loop (rec_ (if jump.isNone then .ready else .done) jump)) ∧
          (V3.putObj (w.heap.size + 1) (.loop (rec_ (if jump.isNone then .ready else .done) jump))).heap[w.heap.size]? = some (.deferred (some [])) := by
        intro jump V3 hk3
        have hl3 := hk3.same _ _ (by omega) hl2 rfl
        exact ⟨run_endRound (P := P) jump hl3, hl3, World.putObj_heap_same (Array.getElem?_eq_some_iff.1 hl3).1, (World.putObj_heap_other (by omega)).trans (hk3.same _ _ (Nat.le_refl _) hk2 rfl)⟩
      have hV2' : V.putObj (w.heap.size + 1) (.loop { rec_ .ready none with state := .busy }) = V2 := hV2
      rw [show V.putObj (w.heap.size + 1) _ = V2 from hV2']
      refine wpIn_mono (hbody _ i V2 hi hi2 hs2) ?_
      rintro e a3 V3 hp
      cases e with
      | normal =>
        obtain ⟨hk3, hi3⟩ := hp
        obtain ⟨hr, hl3, hl4, hk4⟩ := key none V3 hk3
        exact ⟨_, _, hr, .inl ⟨rfl, hI.putObj _ hi3 (by omega) hl3 rfl, hl4, hk4⟩⟩
      | ret =>
        obtain ⟨hk3, hi3⟩ := hp
        obtain ⟨hr, hl3, hl4, hk4⟩ := key (some .ret) V3 hk3
        exact ⟨_, _, hr, .inr ⟨rfl, .ret, (hIx _).putObj _ hi3 (by omega) hl3 rfl, hl4, hk4⟩⟩
      | exit id =>
        obtain ⟨hk3, hi3⟩ := hp
        obtain ⟨hr, hl3, hl4, hk4⟩ := key (some (.exit id)) V3 hk3
        exact ⟨_, _, hr, .inr ⟨rfl, .exit id, (hIx _).putObj _ hi3 (by omega) hl3 rfl, hl4, hk4⟩⟩
      | goto t =>
        obtain ⟨hk3, hi3⟩ := hp
        obtain ⟨hr, hl3, hl4, hk4⟩ := key (some (.goto t)) V3 hk3
        exact ⟨_, _, hr, .inr ⟨rfl, .goto t, (hIx _).putObj _ hi3 (by omega) hl3 rfl, hl4, hk4⟩⟩
      | panic ch => exact hp.elim
      | outgrown => exact hp.elim
    · rintro e V2 ⟨⟨v, rfl⟩, (⟨hi, hl, hk⟩ | ⟨i, hiN, c, hi, hl, hk⟩)⟩
      · exact ⟨none, _, run_endLoop (P := P) hl (by simp [rec_]), hdone _ _ (Nat.le_refl _) (hI.putObj _ hi (by omega) hl rfl) ((World.putObj_heap_other (by omega)).trans hk)⟩
      · exact ⟨some c, _, run_endLoop (P := P) hl (by simp [rec_]), hstop _ c i _ (Nat.le_refl _) hiN ((hIx c).putObj _ hi (by omega) hl rfl) ((World.putObj_heap_other (by omega)).trans hk)⟩

end Go.Proofs.YtiacdkggbnoigaaGreatDoor

/-
  The iterator of a circle.
-/
namespace Go.Proofs.YtiacdkggbnoigaaGreatDoor
open Go.RowKit Go.Shelf
attribute [local go_sem] Oper.semAt_some

/-- The i-th node clockwise. -/
def cwN (c : List Mk) (p : Int) (i : Nat) : Int := match (rot c p)[i]? with | some x => x.node | none => 0
theorem cwN_at {c : List Mk} (h : c.Pairwise ltMk) (p : Int) {i : Nat} (hi : i < c.length) : ∃ x, c[(lows c p + i) % c.length]? = some x ∧ cwN c p i = x.node := by
  have h1 := rot_at h p hi
  have hlt : (lows c p + i) % c.length < c.length := Nat.mod_lt _ (by omega)
  refine ⟨c[(lows c p + i) % c.length], List.getElem?_eq_getElem hlt, ?_⟩
  unfold cwN
  rw [h1, List.getElem?_eq_getElem hlt]
/-- What the iterator reads. -/
def FromReads (bc bp : Nat) (vc : Value) (c : List Mk) (p : Int) (V : World) : Prop := V.cell? ⟨bc, 0, none⟩ = some vc ∧ V.cell? ⟨bp, 0, none⟩ = some (.int .i64 p) ∧ Mks V vc c

theorem keep_grown {V V' : World} (k : Keep (fun _ => False) V V') : V.grownBy V' none := ⟨k.os, k.tape, k.output, k.size, fun i hi _ => k.block i hi (fun h => h)⟩

set_option maxRecDepth 100000 in
set_option maxHeartbeats 4000000 in
theorem from_iter (bc bp : Nat) (vc : Value) (c : List Mk) (p : Int) (hs : c.Pairwise ltMk) (hne : 0 < c.length) : IterL Tryz.prog 72 #[ptr bc, ptr bp] c.length (fun i => #[.int .i64 (cwN c p i)]) (FromReads bc bp vc c p) := by
  intro l J Jx W hA hD hY h0
  have hA0 := hA 0 W h0
  obtain ⟨r0, r1, hm⟩ := hA0
  obtain ⟨hn, a, cc, b, off, hvc, hc, ha, -⟩ := id hm
  have HBS := Lib.hid (bsearch_any vc c p W hm hs)
  have HA := Lib.hid hA; clear hA
  have HD := Lib.hid hD; clear hD
  have HY := Lib.hid hY; clear hY
  have HJ := Lib.hid h0; clear h0 hm
  have HS := Lib.hid hs; clear hs
  obtain rfl := ha hne
  clear ha
  subst hvc
  obtain ⟨n, hn'⟩ : ∃ n, c.length = n := ⟨_, rfl⟩
  have HL := Lib.hid hn'
  rw [hn'] at hn hc hne r0 HBS
  have hlo := lows_le c p
  rw [hn'] at hlo
  clear hn'
  have HCW : Hid (∀ i, i < n → ∃ x, c[(lows c p + i) % n]? = some x ∧ cwN c p i = x.node) := Lib.hid (fun i hi => by have := cwN_at HS.out p (i := i) (by rw [HL.out]; exact hi); rwa [HL.out] at this)
  generalize lows c p = lo at *
  refine callsIn_of_wp Tryz.func72 rfl trivial ?_ rfl
  simp only [Tryz.ntmps72, List.size_toArray, List.length_cons, List.length_nil, Nat.reduceAdd, Nat.reduceSub, Array.replicate_succ, Array.replicate_zero, List.push_toArray, List.append_toArray, List.nil_append, List.cons_append]
  gi_wp2_with fail
  refine ⟨trivial, rfl, (callsIn_wide.2 HBS.out).mono ?_⟩
  rintro e V1 ⟨⟨bb, rfl⟩, k1⟩
  have HJ1 := Lib.hid (HD.out 0 W V1 HJ.out (keep_grown k1))
  have q0 := k1.cell r0 (fun h => h)
  have q1 := k1.cell r1 (fun h => h)
  clear k1 HJ HBS r0 r1
  gi_wp2_with fail
  gi_loopg [15] n (fun g2 v15 wr => ∃ i : Nat, g2 + i = n ∧ v15 = .int .i64 i ∧ J i wr)
  case atStart => exact ⟨0, by omega, rfl, HJ1.out⟩
  case round =>
    clear q0 q1 HJ1
    obtain ⟨i, hi, rfl, hj⟩ := hrel
    have ha := HA.out _ _ hj
    by_cases hin : i < n
    · obtain ⟨fn, tmps, assign, body, hy, hR⟩ := HY.out i wr.drew (by rw [HL.out]; exact hin) (HD.out i _ _ hj (grownBy_drew wr))
      obtain ⟨x, hx, hcw⟩ := HCW.out i hin
      obtain ⟨q0, q1, hm⟩ := ha
      obtain ⟨-, a', c', b', off', hvc, -, ha', hcell⟩ := hm
      rw [HL.out] at q0 hvc
      have hcx := hcell _ x hx
      obtain ⟨r1, r2⟩ : a' = some ⟨b, off, none⟩ ∧ b' = b ∧ off' = off := by
        cases hvc
        have := ha' (by rw [HL.out]; omega)
        cases this
        exact ⟨rfl, rfl, rfl⟩
      obtain ⟨rfl, rfl⟩ := r2
      have c1 := hcx.2.1
      obtain ⟨ix, hix⟩ : ∃ ix, (lo + i) % n = ix := ⟨_, rfl⟩
      rw [hix] at c1
      have e1 : ((lo : Int) + (i : Int)) % (n : Int) = (ix : Int) := by rw [← hix]; first | rw [Int.natCast_emod, Int.natCast_add] | rw [Int.natCast_mod, Int.natCast_add] | simp
      have hixn : ix < n := by rw [← hix]; exact Nat.mod_lt _ (by omega)
      rw [hcw] at hy
      have HR := Lib.hid hR
      clear hR hj hvc ha' hcell hcx hx hcw hix r1
      obtain ⟨x0, x1, x2⟩ := x
      simp only [] at c1 hy
      have hinz : (i : Int) < (n : Int) := by omega
      gi_wp2_with fail
      have HRB := Lib.hid (HR.out.mono (R' := fun e V' => ∃ y : Bool, e = .returned (.bool y) ∧ ((y = true ∧ J (i + 1) V') ∨ (y = false ∧ Jx i V'))) (by
        rintro e V' (⟨rfl, h⟩ | ⟨rfl, h⟩)
        · exact ⟨true, rfl, .inl ⟨rfl, h⟩⟩
        · exact ⟨false, rfl, .inr ⟨rfl, h⟩⟩))
      gi_region_with (refine ⟨rfl, HRB.out.mono ?_⟩; rintro e W3 ⟨y, rfl, hy3⟩)
      all_goals
        have HY3 := Lib.hid hy3
        clear hy3 c1 hy q0 q1
        cases y with
        | true =>
          have HJ3 : Hid (J (i + 1) W3) := Lib.hid (by rcases HY3.out with ⟨_, h⟩ | ⟨h, _⟩; exact h; cases h)
          gi_wp2_with fail
          go_roundg (gk - 1)
          case rel => exact ⟨i + 1, by omega, by go_num, HJ3.out⟩
          case measure => omega
        | false =>
          have HX3 : Hid (Jx i W3) := Lib.hid (by rcases HY3.out with ⟨h, _⟩ | ⟨_, h⟩; cases h; exact h)
          gi_wp2_with fail
          refine bodyPost_ret (results_none rfl _ _ _) rfl ?_
          exact ⟨⟨_, rfl⟩, .inr ⟨i, by rw [HL.out]; exact hin, HX3.out⟩⟩
    · obtain rfl : i = n := by omega
      have HJ3 := Lib.hid hj
      clear hj ha
      have hinz : ¬ (i : Int) < (i : Int) := by omega
      gi_wp2_with fail
      go_end0
      exact ⟨⟨_, rfl⟩, .inl (by rw [HL.out]; exact HJ3.out)⟩
end Go.Proofs.YtiacdkggbnoigaaGreatDoor

/-
  Assign: what holds between two slots.
-/
namespace Go.Proofs.YtiacdkggbnoigaaGreatDoor
open Go.RowKit Go.Shelf

theorem arr40 (t : Array Value) (h : t.size = 40) : ∃ x0 x1 x2 x3 x4 x5 x6 x7 x8 x9 x10 x11 x12 x13 x14 x15 x16 x17 x18 x19 x20 x21 x22 x23 x24 x25 x26 x27 x28 x29 x30 x31 x32 x33 x34 x35 x36 x37 x38 x39, t = #[x0, x1, x2, x3, x4, x5, x6, x7, x8, x9, x10, x11, x12, x13, x14, x15, x16, x17, x18, x19, x20, x21, x22, x23, x24, x25, x26, x27, x28, x29, x30, x31, x32, x33, x34, x35, x36, x37, x38, x39] := by
  obtain ⟨l⟩ := t
  simp only [List.size_toArray] at h
  match l, h with
  | x0 :: x1 :: x2 :: x3 :: x4 :: x5 :: x6 :: x7 :: x8 :: x9 :: x10 :: x11 :: x12 :: x13 :: x14 :: x15 :: x16 :: x17 :: x18 :: x19 :: x20 :: x21 :: x22 :: x23 :: x24 :: x25 :: x26 :: x27 :: x28 :: x29 :: x30 :: x31 :: x32 :: x33 :: x34 :: x35 :: x36 :: x37 :: x38 :: x39 :: [], _ => exact ⟨x0, x1, x2, x3, x4, x5, x6, x7, x8, x9, x10, x11, x12, x13, x14, x15, x16, x17, x18, x19, x20, x21, x22, x23, x24, x25, x26, x27, x28, x29, x30, x31, x32, x33, x34, x35, x36, x37, x38, x39, rfl⟩

abbrev markD (D : Nat) : Deferred := { target := .collected D, args := #[] }
/-- A frame leaves with its marks. -/
theorem leaves_marks {fn : Func} {tmps : Array Value} {R : Ending → World → Prop} : ∀ (Ds : List Nat) (W : World), Ds.Nodup → (∀ D ∈ Ds, W.heap[D]? = some (.deferred (some []))) →
    (∀ W', Keep (fun j => j ∈ Ds) W W' → LeavesInM Fence.wide 0 Tryz.prog fn tmps R [] .returning W') → LeavesInM Fence.wide 0 Tryz.prog fn tmps R (Ds.map markD) .returning W
  | [], W, _, _, h => h W (Keep.refl _ _)
  | D :: Ds, W, hn, hd, h => by
    rw [List.nodup_cons] at hn
    refine ⟨by simp, .inl ⟨D, _, rfl, run_takeDeferred (hd D (by simp)), ?_⟩⟩
    refine leaves_marks Ds _ hn.2 (fun E hE => ?_) (fun W' k => h W' ?_)
    · rw [World.putObj_heap_other (fun e => hn.1 (by rw [← e]; exact hE))]
      exact hd E (by simp [hE])
    · exact ((Keep.refl (fun j => j ∈ D :: Ds) W).putObj _ (.inl (by simp))).trans (k.mono (fun j hj => by simp [hj]))

/-- Behind some slots. -/
structure AI (Wc : World) (bm bO : Nat) (Ds : List Nat) (st : (Int → Int) × List Int) (vo : Value) (W : World) : Prop where
  k : Keep (fun j => j = bm ∨ j = bO) Wc W
  mf : MapF W bm st.1
  co : W.cell? ⟨bO, 0, none⟩ = some vo
  fo : W.frozen? ⟨bO, 0, none⟩ = false
  ow : W.ownsRow Wc.heap.size 3 1 vo st.2.length (st.2.map (fun x => Value.int .i64 x))
  ds : ∀ D ∈ Ds, Wc.heap.size ≤ D ∧ W.heap[D]? = some (.deferred (some []))
  nd : Ds.Nodup

theorem grown_cell {V V' : World} {row : Option Nat} {B b o : Nat} {v : Value} (h : V.cell? ⟨b, o, none⟩ = some v) (hg : V.grownBy V' row) (hr : ∀ r, row = some r → B ≤ r ∧ ∃ o : Obj, V.heap[r]? = some o ∧ o.isCells = false) : V'.cell? ⟨b, o, none⟩ = some v := by
  refine (Keep.of_grown hg).cell h (fun e => ?_)
  obtain ⟨_, ob, h1, h2⟩ := hr b e
  unfold World.cell? at h
  rw [h1] at h
  cases ob <;> simp_all [Obj.isCells]
theorem grown_mks {V V' : World} {row : Option Nat} {B : Nat} {v : Value} {l : List Mk} (h : Mks V v l) (hg : V.grownBy V' row) (hr : ∀ r, row = some r → B ≤ r ∧ ∃ o : Obj, V.heap[r]? = some o ∧ o.isCells = false) : Mks V' v l := by
  obtain ⟨a, c, b, off, rfl, hc, ha, h1⟩ := h.at_
  exact ⟨h.n, a, c, b, off, rfl, hc, ha, fun j x hj => ⟨grown_cell (h1 j x hj).1 hg hr, grown_cell (h1 j x hj).2.1 hg hr, grown_cell (h1 j x hj).2.2 hg hr⟩⟩
theorem grown_row {V V' : World} {row : Option Nat} {B lo e z n : Nat} {v : Value} {xs : List Value} (h : V.ownsRow lo e z v n xs) (hg : V.grownBy V' row) (hr : ∀ r, row = some r → B ≤ r ∧ ∃ o : Obj, V.heap[r]? = some o ∧ o.isCells = false) : V'.ownsRow lo e z v n xs := by
  refine ownsRow_keep h (Keep.of_grown hg) (fun b hb e => ?_)
  obtain ⟨_, o, ho, hc⟩ := hr b e
  rcases h.2 with ⟨rfl, _⟩ | ⟨g', cap, cur, rfl, hb', hh, _⟩
  · cases hb
  · cases hb; rw [hh] at ho; cases ho; cases hc

theorem AI.grown {Wc V V' : World} {bm bO : Nat} {Ds : List Nat} {st : (Int → Int) × List Int} {vo : Value} {row : Option Nat} {B : Nat} (h : AI Wc bm bO Ds st vo V) (hbm : bm < Wc.heap.size) (hbO : bO < Wc.heap.size) (hB : Wc.heap.size ≤ B) (hD : ∀ D ∈ Ds, D < B)
    (hg : V.grownBy V' row) (hr : ∀ r, row = some r → B ≤ r ∧ ∃ o : Obj, V.heap[r]? = some o ∧ o.isCells = false) : AI Wc bm bO Ds st vo V' := by
  have k := Keep.of_grown hg
  have hk : ∀ j, row = some j → B ≤ j := fun j e => (hr j e).1
  refine ⟨h.k.trans' k (fun i e => .inr (by have := hk i e; omega)), h.mf.keep k (fun e => by have := hk _ e; omega), grown_cell h.co hg hr, ?_, grown_row h.ow hg hr, fun D hDD => ⟨(h.ds D hDD).1, k.heap (h.ds D hDD).2 (fun e => by have := hk _ e; have := hD D hDD; omega)⟩, h.nd⟩
  exact (k.frozen (b := bO) (World.block_lt_of_cell? _ _ h.co) (fun (e : row = some bO) => by have := hk bO e; omega) 0).trans h.fo
theorem AI.keep {Wc V V' : World} {bm bO : Nat} {Ds : List Nat} {st : (Int → Int) × List Int} {vo : Value} (h : AI Wc bm bO Ds st vo V) (k : Keep (fun _ => False) V V') : AI Wc bm bO Ds st vo V' :=
  ⟨h.k.trans' k (fun _ e => e.elim), h.mf.kept k, k.cell h.co (fun h => h), (k.frozen (World.block_lt_of_cell? _ _ h.co) (fun h => h) 0).trans h.fo, ownsRow_keep h.ow k (fun _ _ h => h), fun D hD => ⟨(h.ds D hD).1, k.heap (h.ds D hD).2 (fun h => h)⟩, h.nd⟩
theorem AI.mark {Wc V : World} {bm bO D : Nat} {Ds : List Nat} {st : (Int → Int) × List Int} {vo : Value} {B : Nat} (h : AI Wc bm bO Ds st vo V) (hB : ∀ E ∈ Ds, E < B) (hc : Wc.heap.size ≤ B) (hD : B ≤ D) (hh : V.heap[D]? = some (.deferred (some []))) : AI Wc bm bO (D :: Ds) st vo V :=
  ⟨h.k, h.mf, h.co, h.fo, h.ow, fun E hE => by
    rcases List.mem_cons.1 hE with rfl | hE
    · exact ⟨by omega, hh⟩
    · exact h.ds E hE, List.nodup_cons.2 ⟨fun hm => by have := hB D hm; omega, h.nd⟩⟩
theorem AI.lt {Wc V : World} {bm bO : Nat} {Ds : List Nat} {st : (Int → Int) × List Int} {vo : Value} (h : AI Wc bm bO Ds st vo V) {D : Nat} (hD : D ∈ Ds) : D < V.heap.size := (Array.getElem?_eq_some_iff.1 (h.ds D hD).2).1

/-- A node takes a slot. -/
theorem AI.take {Wc V : World} {bm bO : Nat} {Ds : List Nat} {st : (Int → Int) × List Int} {vo : Value} (h : AI Wc bm bO Ds st vo V) (hbm : bm < Wc.heap.size) (hbO : bO < Wc.heap.size) (hne : bm ≠ bO) {n : Int} (hn : I64 n) (hl : st.2.length ≤ 1000) {B : Nat} (hB : Wc.heap.size ≤ B) :
    ∃ es ck v' V2, (Instr.mapUpdate 81 (.map (some bm)) (.int .i64 n) (.int .i64 (st.1 n - 1))).run Tryz.prog V = .ok () (V.putObj bm (.map es ck)) ∧
      (Builtin.append_ #[23, 23] 23 #[vo, .slice (some ⟨(V.putObj bm (.map es ck)).heap.size, 0, none⟩) 1 1]).run Tryz.prog ((V.putObj bm (.map es ck)).alloc (.cells #[.int .i64 n] 3)) = .ok v' V2 ∧
      (V.putObj bm (.map es ck)).cell? ⟨bO, 0, none⟩ = some vo ∧ V2.cell? ⟨bO, 0, none⟩ = some vo ∧ V2.frozen? ⟨bO, 0, none⟩ = false ∧
      AI Wc bm bO Ds (upd st.1 n (st.1 n - 1), st.2 ++ [n]) v' (V2.setCell ⟨bO, 0, none⟩ v') ∧ KeepsFrom B V (V2.setCell ⟨bO, 0, none⟩ v') ∧ ∃ g c, v' = .slice (some ⟨g, 0, none⟩) (st.2.length + 1) c := by
  obtain ⟨es, ck, hup, hmf⟩ := h.mf.update hn (st.1 n - 1)
  have k1 : Keep (fun j => j = bm) V (V.putObj bm (.map es ck)) := (Keep.refl (fun j => j = bm) V).putObj _ (.inl rfl)
  have hvo : ∀ j, vo.ownBlock = some j → Wc.heap.size ≤ j := fun j e => (h.ow.lt j e).1
  have co1 := k1.cell h.co (fun e => hne e.symm)
  have fo1 : (V.putObj bm (.map es ck)).frozen? ⟨bO, 0, none⟩ = false := (k1.frozen (World.block_lt_of_cell? _ _ h.co) (fun e => hne e.symm) 0).trans h.fo
  have ow1 := ownsRow_keep h.ow k1 (fun b hb e => by have := hvo b hb; omega)
  obtain ⟨v', V2, r1, r2, r3, r4, r5⟩ := app_one 23 3 1 8 _ Tryz.underlying23 infoInt rfl (by decide) (by decide) _ 23 Wc.heap.size vo st.2.length _ [.int .i64 n] ow1 rfl (by simp [Value.oneCell']) (by omega) (Nat.le_trans h.k.size k1.size)
  have hO : ¬ vo.ownBlock = some bO := fun e => by have := hvo _ e; omega
  have hM : ¬ vo.ownBlock = some bm := fun e => by have := hvo _ e; omega
  have co2 := r3.cell co1 hO
  have fo2 : V2.frozen? ⟨bO, 0, none⟩ = false := (r3.frozen (World.block_lt_of_cell? _ _ co1) hO 0).trans fo1
  have k3 : Keep (fun j => j = bO) V2 (V2.setCell ⟨bO, 0, none⟩ v') := (Keep.refl (fun j => j = bO) V2).setCell (p := ⟨bO, 0, none⟩) _ (.inl rfl)
  have hv' : ∀ j, v'.ownBlock = some j → Wc.heap.size ≤ j := fun j e => (r2.lt j e).1
  have hDm : ∀ D ∈ Ds, D ≠ bm ∧ D ≠ bO ∧ vo.ownBlock ≠ some D := fun D hD => by
    have h1 := (h.ds D hD).1
    refine ⟨by omega, by omega, fun e => ?_⟩
    rcases h.ow.2 with ⟨rfl, _⟩ | ⟨g', cap, cur, rfl, hb', hh, _⟩
    · cases e
    · cases e
      rw [(h.ds _ hD).2] at hh
      cases hh
  refine ⟨es, ck, v', V2, hup, r1, co1, co2, fo2, ⟨?_, ?_, cell_set_same co2, by rw [World.frozen?_setCell]; exact fo2, ?_, fun D hD => ⟨(h.ds D hD).1, ?_⟩, h.nd⟩, ⟨?_, fun j o hj ho hcl => ?_⟩, r5⟩
  · exact ((h.k.trans' k1 (fun i e => .inl (.inl e))).trans' r3 (fun i e => .inr (hvo i e))).trans' k3 (fun i e => .inl (.inr e))
  · exact (hmf.keep r3 hM).keep k3 hne
  · rw [List.length_append, List.map_append]
    exact ownsRow_keep r2 k3 (fun b hb e => by have := hv' b hb; omega)
  · have hx := hDm D hD
    exact k3.heap (r3.heap (k1.heap (h.ds D hD).2 hx.1) hx.2.2) hx.2.1
  · exact Nat.le_trans k1.size (Nat.le_trans r3.size k3.size)
  · refine k3.heap (r3.heap (k1.heap ho (by omega)) (fun e => ?_)) (by omega)
    rcases h.ow.2 with ⟨rfl, _⟩ | ⟨g', cap, cur, rfl, hb', hh, _⟩
    · cases e
    · cases e
      rw [hh] at ho
      cases ho
      cases hcl

theorem find_first {q : Int → Bool} : ∀ {o : List Int} {i : Nat} {x : Int}, o[i]? = some x → q x = true → (∀ k y, k < i → o[k]? = some y → q y = false) → o.find? q = some x
  | [], i, x, h, _, _ => by simp at h
  | y :: o, 0, x, h, hq, _ => by
    simp only [List.getElem?_cons_zero, Option.some.injEq] at h
    subst h
    rw [List.find?_cons, hq]
  | y :: o, i + 1, x, h, hq, hk => by
    simp only [List.getElem?_cons_succ] at h
    rw [List.find?_cons, hk 0 y (by omega) rfl]
    exact find_first h hq (fun k z hkl hz => hk (k + 1) z (by omega) (by simpa using hz))
theorem ords_at (l : List Mb) (p : Int) {i : Nat} (hi : i < (circ PN l).length) : (ords PN l p)[i]? = some (cwN (circ PN l) p i) := by
  unfold ords cwN
  rw [List.getElem?_map]
  have h : i < (rot (circ PN l) p).length := by rw [rot_len]; exact hi
  rw [List.getElem?_eq_getElem h]
  rfl
theorem step_found {l : List Mb} {p : Int} {st : (Int → Int) × List Int} {i : Nat} (hi : i < (circ PN l).length) (h0 : 0 < st.1 (cwN (circ PN l) p i)) (hb : ∀ k, k < i → st.1 (cwN (circ PN l) p k) ≤ 0) :
    stepA (ords PN l p) st = (upd st.1 (cwN (circ PN l) p i) (st.1 (cwN (circ PN l) p i) - 1), st.2 ++ [cwN (circ PN l) p i]) := by
  have : firstN st.1 (ords PN l p) = some (cwN (circ PN l) p i) := find_first (ords_at l p hi) (by simpa using h0) (fun k y hk hy => by
    rw [ords_at l p (by omega)] at hy
    cases hy
    have := hb k hk
    simp; omega)
  unfold stepA
  rw [this]
theorem step_none {l : List Mb} {p : Int} {st : (Int → Int) × List Int} (hb : ∀ k, k < (circ PN l).length → st.1 (cwN (circ PN l) p k) ≤ 0) : stepA (ords PN l p) st = st := by
  have : firstN st.1 (ords PN l p) = none := by
    unfold firstN
    rw [List.find?_eq_none]
    intro y hy
    obtain ⟨i, hi⟩ := List.mem_iff_getElem?.1 hy
    have hl : i < (circ PN l).length := by
      have := (List.getElem?_eq_some_iff.1 hi).1
      unfold ords at this
      rwa [List.length_map, rot_len] at this
    rw [ords_at l p hl] at hi
    cases hi
    have := hb i hl
    simp; omega
  unfold stepA
  rw [this]
/-- Between two nodes. -/
def RI (Wc : World) (bm bO : Nat) (Ds : List Nat) (l : List Mb) (bc bp : Nat) (vc : Value) (p : Int) (st : (Int → Int) × List Int) (vo : Value) (i : Nat) (V : World) : Prop :=
  AI Wc bm bO Ds st vo V ∧ FromReads bc bp vc (circ PN l) p V ∧ ∀ k, k < i → st.1 (cwN (circ PN l) p k) ≤ 0
def RX (Wc : World) (bm bO : Nat) (Ds : List Nat) (l : List Mb) (p : Int) (st : (Int → Int) × List Int) (c : Code) (_ : Nat) (V : World) : Prop :=
  c = .exit 1 ∧ ∃ v', AI Wc bm bO Ds (stepA (ords PN l p) st) v' V
theorem RI_own {Wc : World} {bm bO : Nat} {Ds : List Nat} {l : List Mb} {bc bp : Nat} {vc : Value} {p : Int} {st : (Int → Int) × List Int} {vo : Value} {B : Nat} (hbm : bm < Wc.heap.size) (hbO : bO < Wc.heap.size) (hB : Wc.heap.size ≤ B) (hD : ∀ D ∈ Ds, D < B) : OwnFrom B (RI Wc bm bO Ds l bc bp vc p st vo) := by
  rintro i V V' row ⟨h1, ⟨h2, h3, h4⟩, h5⟩ hg hr
  exact ⟨h1.grown hbm hbO hB hD hg hr, ⟨grown_cell h2 hg hr, grown_cell h3 hg hr, grown_mks h4 hg hr⟩, h5⟩
theorem RX_own {Wc : World} {bm bO : Nat} {Ds : List Nat} {l : List Mb} {p : Int} {st : (Int → Int) × List Int} {B : Nat} (hbm : bm < Wc.heap.size) (hbO : bO < Wc.heap.size) (hB : Wc.heap.size ≤ B) (hD : ∀ D ∈ Ds, D < B) (c : Code) : OwnFrom B (RX Wc bm bO Ds l p st c) := by
  rintro i V V' row ⟨h1, v', h2⟩ hg hr
  exact ⟨h1, v', h2.grown hbm hbO hB hD hg hr⟩
theorem wpListIn_app {F : Fence} {n : Nat} {P : Program} {ops : Array Oper} {rest : List Oper} {o : Oper} {a : Act} {w w' : World} {Q : Exit → Act → World → Prop} {v v2 v' : Value}
    (hg : o.guard = none) (s x : Operand) (t : TypeId) (hop : o.op = Op.call { callee := Callee.builtin Builtin.append, args := #[s, x], argTypes := #[t, t] })
    (hs : a.eval s = v) (hx : a.eval x = v2) (hrun : (Builtin.append_ #[t, t] o.type #[v, v2]).run P w = .ok v' w') (hK : wpListIn F n P ops Q rest (a.put o.dst v') w') : wpListIn F n P ops Q (o :: rest) a w := by
  refine wpListIn_plain hg fun K hK' => ?_
  unfold Oper.wpIn
  refine ⟨?_, ?_⟩
  · simp [Oper.about, hop, resolve, Target.leads, Sem.run_pure]
  · rw [Oper.semAt_plain F _ _ (by rw [hop]; intro c hc'; cases hc')]
    simp [execOp, hop, resolve, invoke, builtin, hs, hx, hrun, Result.andThen]
    exact hK' _ _ hK
end Go.Proofs.YtiacdkggbnoigaaGreatDoor

/-
  Assign: the walk.
-/
namespace Go.Proofs.YtiacdkggbnoigaaGreatDoor
open Go.RowKit Go.Shelf
attribute [local go_sem] Oper.semAt_some

def AsgPost (l : List Mb) (w : World) (e : Ending) (w' : World) : Prop := ∃ v, e = .returned (.tuple #[v, .int .i64 0]) ∧ w'.ownsRow w.heap.size 3 1 v (ownersL PN QS l).length ((ownersL PN QS l).map (fun x => Value.int .i64 x)) ∧ Keep (fun _ => False) w w'

set_option maxRecDepth 100000 in
set_option maxHeartbeats 400000 in
theorem from_any (ca : Option Addr) (cn cc : Nat) (p : Int) (W : World) : Calls Tryz.prog 56 #[.slice ca cn cc, .int .i64 p] W fun e w' => e = .returned (.func (.func 72) #[] #[ptr W.heap.size, ptr (W.heap.size + 1)]) ∧ (W.alloc (.cells #[.slice ca cn cc] 79)).alloc (.cells #[.int .i64 p] 3) = w' := by
  go_enter Tryz.func56, Tryz.ntmps56
  go_wp2_with fail
  go_ret
  exact ⟨rfl, rfl⟩

set_option maxRecDepth 100000 in
set_option maxHeartbeats 8000000 in
theorem assign_ok (v : Value) (l : List Mb) (w : World) (h : Mbs w v l) (hv : VL l) (hT : Tab w) : Calls Tryz.prog 24 #[v] w (AsgPost l w) := by
  have HVA : Hid (Calls Tryz.prog 30 #[v] w fun e w' => e = .returned (.bool true) ∧ Keep (fun _ => False) w w') := Lib.hid (by
    have := valid_any v l w h
    rwa [(validL_iff l).2 hv] at this)
  have HDR : Hid (∀ W, Keep (fun _ => False) w W → Calls Tryz.prog 54 #[v] W (DrawPost l W)) := Lib.hid (fun W k => drawn_any v l W (h.kept k) hv (hT.kept k))
  have HLI : Hid (∀ W, Keep (fun _ => False) w W → Calls Tryz.prog 55 #[v] W (LimPost l W)) := Lib.hid (fun W k => limits_any v l W (h.kept k))
  have HV := Lib.hid hv
  have HT := Lib.hid hT
  clear h hv hT
  refine (callsIn_wide (n := 0)).1 ?_
  refine callsIn_of_wp_marks Tryz.func24 rfl trivial ?_ rfl
  simp only [Tryz.ntmps24, List.size_toArray, List.length_cons, List.length_nil, Nat.reduceAdd, Nat.reduceSub, Array.replicate_succ, Array.replicate_zero, List.push_toArray, List.append_toArray, List.nil_append, List.cons_append]
  refine wpIn_wide.2 ?_
  go_wp2_with fail
  go_step3
  go_wp2_with fail
  with_reducible refine HVA.out.mono ?_
  rintro e W1 ⟨rfl, k1⟩
  have HK1 := Lib.hid k1
  clear k1 HVA
  go_wp2_with fail
  with_reducible refine (HDR.out _ HK1.out).mono ?_
  rintro e W2 ⟨vc, rfl, hmk, k2⟩
  obtain ⟨ca, cn, cc, rfl⟩ : ∃ ca cn cc, vc = .slice ca cn cc := by obtain ⟨a, c, b, off, h, _⟩ := hmk.at_; exact ⟨_, _, _, h⟩
  have HK2 := Lib.hid (HK1.out.trans k2)
  have HMK := Lib.hid hmk
  clear hmk k2 HK1 HDR
  go_wp2_with fail
  with_reducible refine (HLI.out _ HK2.out).mono ?_
  rintro e W3 ⟨bm, rfl, hbm, hmf, k3⟩
  have HK3 := Lib.hid (HK2.out.trans k3)
  have HMK3 := Lib.hid (HMK.out.kept k3)
  have HMF := Lib.hid hmf
  have HBM := Lib.hid (And.intro hbm hmf.lt)
  have HG : Hid (∀ j, (Value.slice ca cn cc).ownBlock = some j → j < W3.heap.size ∧ j ≠ bm) := Lib.hid (fun j e => by
    obtain ⟨a, c, b, off, hvc, _, ha, hcell⟩ := HMK.out.at_
    cases hvc
    have hne : 0 < (circ PN l).length := by
      have h1 := draws_len PN l HV.out.ok
      have h2 := HV.out.wsum
      have h3 : (circ PN l).length = (draws PN l).length := (sortMk_perm _).length_eq
      omega
    have := ha hne
    subst this
    cases e
    have h1 := World.block_lt_of_cell? _ _ (hcell 0 _ (List.getElem?_eq_getElem hne)).1
    have h2 := k3.size
    simp only [] at h1
    show b < W3.heap.size ∧ b ≠ bm
    exact ⟨by omega, by omega⟩)
  have HNE : Hid (0 < (circ PN l).length) := Lib.hid (by
    have h1 := draws_len PN l HV.out.ok
    have h2 := HV.out.wsum
    have h3 : (circ PN l).length = (draws PN l).length := (sortMk_perm _).length_eq
    omega)
  have HCS := Lib.hid (circ_sorted PN HV.out.asc)
  clear k3 hbm hmf HLI
  go_wp2_with fail
  have HAI : Hid (AI ((W3.alloc (.cells #[.map (some bm)] 81)).alloc (.cells #[.slice none 0 0] 23)) bm (W3.heap.size + 1) [] (asg PN QS l 0) (.slice none 0 0) ((W3.alloc (.cells #[.map (some bm)] 81)).alloc (.cells #[.slice none 0 0] 23))) := Lib.hid (by
    have k : Keep (fun _ => False) W3 ((W3.alloc (.cells #[.map (some bm)] 81)).alloc (.cells #[.slice none 0 0] 23)) := ((Keep.refl _ W3).alloc _).alloc _
    have b1 := cells_new (W3.alloc (.cells #[.map (some bm)] 81)) [.slice none 0 0] 23 0 _ rfl
    rw [World.size_alloc] at b1
    refine ⟨Keep.refl _ _, HMF.out.kept k, b1, ?_, ?_, by simp, by simp⟩
    · unfold World.frozen?
      have := World.alloc_heap_new (W3.alloc (.cells #[.map (some bm)] 81)) (.cells #[.slice none 0 0] 23)
      rw [World.size_alloc] at this
      rw [this]
      rfl
    · simpa [asg, assignK] using World.ownsRow_nil _ _ 3 1)
  have HCR : Hid (((W3.alloc (.cells #[.map (some bm)] 81)).alloc (.cells #[.slice none 0 0] 23)).cell? ⟨W3.heap.size, 0, none⟩ = some (.map (some bm))) := Lib.hid (((Keep.refl (fun _ => False) _).alloc _).cell (cells_new W3 [.map (some bm)] 81 0 _ rfl) (fun h => h))
  have HKC : Hid (Keep (fun _ => False) W3 ((W3.alloc (.cells #[.map (some bm)] 81)).alloc (.cells #[.slice none 0 0] 23))) := Lib.hid (((Keep.refl _ W3).alloc _).alloc _)
  have HSZ : Hid (((W3.alloc (.cells #[.map (some bm)] 81)).alloc (.cells #[.slice none 0 0] 23)).heap.size = W3.heap.size + 2) := Lib.hid (by rw [World.size_alloc, World.size_alloc])
  generalize (W3.alloc (.cells #[.map (some bm)] 81)).alloc (.cells #[.slice none 0 0] 23) = Wc at *
  generalize W3.heap.size = z3 at *
  go_step3
  go_wp2_with fail
  refine wp_loop_ghost (fun g a W => ∃ (s : Nat) (Ds : List Nat) (vo : Value), g + s = 64 ∧ a.defers = Ds.map markD ∧ a.tmps.size = 40 ∧ a.tmps[4]? = some (.slice ca cn cc) ∧ a.tmps[5]? = some (ptr z3) ∧ a.tmps[6]? = some (ptr (z3 + 1)) ∧ a.tmps[16]? = some (.int .i64 s) ∧ AI Wc bm (z3 + 1) Ds (asg PN QS l s) vo W) 64 ⟨0, [], _, rfl, rfl, rfl, rfl, rfl, rfl, rfl, HAI.out⟩ ?_
  clear HAI
  rintro g ⟨t, ds⟩ W ⟨s, Ds, vo, hg, hds, hsz, h4, h5, h6, h16, hai⟩
  simp only [] at hds hsz h4 h5 h6 h16
  subst hds
  obtain ⟨x0, x1, x2, x3, x4, x5, x6, x7, x8, x9, x10, x11, x12, x13, x14, x15, x16, x17, x18, x19, x20, x21, x22, x23, x24, x25, x26, x27, x28, x29, x30, x31, x32, x33, x34, x35, x36, x37, x38, x39, rfl⟩ := arr40 t hsz
  have e4 : Value.slice ca cn cc = x4 := by simpa using h4.symm
  have e5 : ptr z3 = x5 := by simpa using h5.symm
  have e6 : ptr (z3 + 1) = x6 := by simpa using h6.symm
  have e16 : Value.int .i64 s = x16 := by simpa using h16.symm
  subst e4 e5 e6 e16
  have HA := Lib.hid hai
  clear hai hsz h4 h5 h6 h16
  by_cases hs : s < 64
  · have hsz : (s : Int) < 64 := by omega
    have hs0 : (0 : Int) ≤ (s : Int) := by omega
    go_wp2_with fail
    have HI : Hid (Its (W.alloc (.cells #[.int .i64 s] 3)) (.slice (some ⟨W.heap.size, 0, none⟩) 1 1) ([s].map (fun q : Nat => (q : Int)))) := Lib.hid (its_new W [(s : Int)] (by simp) (by
      intro x hx
      simp only [List.mem_cons, List.not_mem_nil, or_false] at hx
      unfold I64
      omega))
    have HAI1 := Lib.hid (HA.out.keep ((Keep.refl _ W).alloc (.cells #[.int .i64 s] 3)))
    clear HA
    generalize W.alloc (.cells #[.int .i64 s] 3) = V1 at *
    generalize W.heap.size = zw at *
    with_reducible refine (text_any _ _ [s] V1 (by decide) (by simp) (by
      intro q hq
      simp only [List.mem_cons, List.not_mem_nil, or_false] at hq
      omega) HI.out).mono ?_
    rintro e w' ⟨rfl, rfl⟩
    have HPT : Hid (Calls Tryz.prog 34 #[.string (txt ⟨#[115, 108, 111, 116]⟩ [s])] V1 fun e w' => e = .returned (.int .i64 (QS s)) ∧ V1 = w') := Lib.hid (point_any (slotT s) (slotT_size (by omega)) V1 ((HT.out.kept (HK3.out.trans HKC.out)).keep HAI1.out.k (by
      have h1 := HT.out 0 (by decide)
      have h2 := World.block_lt_of_cell? _ _ h1
      have h3 := HBM.out
      have h4 := HK2.out.size
      have h5 := HK3.out.size
      simp only [] at h2
      rintro (e | e) <;> omega)))
    generalize txt ⟨#[115, 108, 111, 116]⟩ [s] = tx at *
    go_wp2_with fail
    with_reducible refine HPT.out.mono ?_
    rintro e w' ⟨rfl, rfl⟩
    clear HPT HI
    generalize hqs : QS s = p at *
    have HQS := Lib.hid hqs
    clear hqs
    go_wp2_with fail
    with_reducible refine (from_any ca cn cc p _).mono ?_
    rintro e V2 ⟨rfl, hV2⟩
    have k2 : Keep (fun _ => False) V1 V2 := by rw [← hV2]; exact ((Keep.refl _ V1).alloc _).alloc _
    have HAI2 := Lib.hid (HAI1.out.keep k2)
    have HB1 : Hid (V2.cell? ⟨V1.heap.size, 0, none⟩ = some (.slice ca cn cc)) := Lib.hid (by rw [← hV2]; exact ((Keep.refl (fun _ => False) _).alloc _).cell (cells_new V1 [.slice ca cn cc] 79 0 _ rfl) (fun h => h))
    have HB2 : Hid (V2.cell? ⟨V1.heap.size + 1, 0, none⟩ = some (.int .i64 p)) := Lib.hid (by
      have := cells_new (V1.alloc (.cells #[.slice ca cn cc] 79)) [.int .i64 p] 3 0 _ rfl
      rw [World.size_alloc] at this
      rw [← hV2]; exact this)
    clear hV2 k2 HAI1
    generalize V1.heap.size = bc at *
    have HMV : Hid (Mks V2 (.slice ca cn cc) (circ PN l)) := Lib.hid ((HMK3.out.kept HKC.out).keep HAI2.out.k (fun j e => by
      have h1 : j < z3 ∧ j ≠ bm := HG.out j e
      rintro (h | h) <;> omega))
    have HBB : Hid (Wc.heap.size ≤ V2.heap.size) := Lib.hid HAI2.out.k.size
    go_wp2_with fail
    refine (wpIn_wide (n := 0)).1 ?_
    have hbm : bm < Wc.heap.size := by have := HBM.out; have := HSZ.out; omega
    have hbO : z3 + 1 < Wc.heap.size := by have := HSZ.out; omega
    refine range_list (gf := 72) (lb := #[ptr bc, ptr (bc + 1)]) rfl (enters_of Tryz.func72 (by kernel_rfl) rfl) (from_iter bc (bc + 1) (.slice ca cn cc) (circ PN l) p HCS.out HNE.out) (fun _ _ => rfl)
      (RI Wc bm (z3 + 1) Ds l bc (bc + 1) (.slice ca cn cc) p (asg PN QS l s) vo) (RX Wc bm (z3 + 1) Ds l p (asg PN QS l s))
      (RI_own hbm hbO HBB.out (fun D hD => HAI2.out.lt hD)) (RX_own hbm hbO HBB.out (fun D hD => HAI2.out.lt hD))
      (fun i V h => h.2.1) ⟨HAI2.out, ⟨HB1.out, HB2.out, HMV.out⟩, fun k hk => absurd hk (Nat.not_lt_zero _)⟩ ?a1 ?assign ?body ?done ?stop
    case assign =>
      intro l i V K hi hK
      gi_wp2
      exact hK
    case body =>
      rintro lp i V hi ⟨hai, ⟨hb1, hb2, hmv⟩, hbe⟩ hsV
      have HAV := Lib.hid hai
      have HBE := Lib.hid hbe
      have HFR := Lib.hid (show FromReads bc (bc + 1) (.slice ca cn cc) (circ PN l) p V from ⟨hb1, hb2, hmv⟩)
      have hbR : V.cell? ⟨z3, 0, none⟩ = some (.map (some bm)) := hai.k.cell HCR.out (by have := HBM.out; rintro (e | e) <;> omega)
      obtain ⟨x, hx, hcw⟩ := cwN_at HCS.out p hi
      have hxb : I64 (cwN (circ PN l) p i) := by
        rw [hcw]
        obtain ⟨m, hm, hd⟩ := (mem_circ PN).1 (List.mem_of_getElem? hx)
        have h1 := ((mem_drawM PN).1 hd).1
        have h2 := HV.out.ok m hm
        unfold okMb at h2
        unfold I64
        omega
      have HLEN : Hid ((asg PN QS l s).2.length ≤ 1000) := Lib.hid (by
        have := (assign_at PN QS HV.out (show s ≤ 80 by omega)).len
        show (assignK (fun s => ords PN l (QS s)) (limitL l) s).2.length ≤ 1000
        omega)
      have hroom := (assign_at PN QS HV.out (show s ≤ 80 by omega)).room (cwN (circ PN l) p i)
      have hlim := limitL_nn l (cwN (circ PN l) p i)
      have hcn := cnt_nn (asg PN QS l s).2 (cwN (circ PN l) p i)
      obtain ⟨es, ck, v', Vb, hup, happ, co1, co2, fo2, hai', hkf, g', c', rfl⟩ := hai.take hbm hbO (by have := HBM.out; omega) hxb HLEN.out HBB.out
      have lk := hai.mf.look hxb
      have HSF : Hid (0 < (asg PN QS l s).1 (cwN (circ PN l) p i) → stepA (ords PN l p) (asg PN QS l s) = (upd (asg PN QS l s).1 (cwN (circ PN l) p i) ((asg PN QS l s).1 (cwN (circ PN l) p i) - 1), (asg PN QS l s).2 ++ [cwN (circ PN l) p i])) := Lib.hid (fun h => step_found hi h HBE.out)
      obtain ⟨nn, hnn⟩ : ∃ nn, cwN (circ PN l) p i = nn := ⟨_, rfl⟩
      have HNN := Lib.hid hnn
      obtain ⟨rr, hrr⟩ : ∃ rr, (asg PN QS l s).1 nn = rr := ⟨_, rfl⟩
      have hroom2 : rr = limitL l nn - cnt (asg PN QS l s).2 nn := by rw [← hrr, ← hnn]; exact hroom
      have HRR := Lib.hid hrr
      simp only [hnn] at lk hup happ hai' HSF hlim hcn ⊢
      rw [hrr] at lk hup hai' HSF
      clear hnn hrr hroom hx hcw hai hbe hb1 hb2 hmv
      have hrb : -100 ≤ rr + 1000000 ∧ rr ≤ 1280 := by
        have := HLEN.out
        have h3 : cnt (asg PN QS l s).2 nn ≤ (asg PN QS l s).2.length := by
          unfold cnt
          have := List.count_le_length (a := nn) (l := (asg PN QS l s).2)
          omega
        omega
      clear hroom2 hlim hcn
      by_cases hpos : 0 < rr
      · have HAI' : Hid (AI Wc bm (z3 + 1) Ds (stepA (ords PN l p) (asg PN QS l s)) (.slice (some ⟨g', 0, none⟩) ((asg PN QS l s).2.length + 1) c') (Vb.setCell ⟨z3 + 1, 0, none⟩ (.slice (some ⟨g', 0, none⟩) ((asg PN QS l s).2.length + 1) c'))) := Lib.hid (by rw [HSF.out hpos]; exact hai')
        have HKF := Lib.hid hkf
        clear hai' hkf HSF
        generalize (asg PN QS l s).2.length + 1 = ln at *
        have HAPP := Lib.hid happ
        clear happ
        generalize V.putObj bm (.map es ck) = Va at *
        gi_wp2_with (gi_at_builtin; refine wpListIn_app rfl (.tmp 34) (.tmp 36) 23 rfl rfl rfl HAPP.out ?_)
        exact ⟨HKF.out, rfl, _, HAI'.out⟩
      · clear hai' hkf HSF happ hup co1 co2 fo2
        gi_wp2_with fail
        refine ⟨KeepsFrom.refl _ _, HAV.out, HFR.out, fun k hk => ?_⟩
        by_cases e : k = i
        · subst e
          rw [HNN.out, HRR.out]
          omega
        · exact HBE.out k (by omega)
    case done =>
      rintro D V hD ⟨hai, hfr, hbe⟩ hK
      have HN : Hid (AI Wc bm (z3 + 1) (D :: Ds) (asg PN QS l (s + 1)) vo V) := Lib.hid (by
        have e : asg PN QS l (s + 1) = asg PN QS l s := by
          show stepA (ords PN l (QS s)) (asg PN QS l s) = _
          rw [HQS.out]
          exact step_none hbe
        rw [e]
        exact hai.mark (fun E hE => HAI2.out.lt hE) HBB.out hD hK)
      clear hai hfr hbe hK hD
      go_wp2_with fail
      exact ⟨g - 1, by omega, s + 1, D :: Ds, vo, by omega, rfl, rfl, rfl, rfl, rfl, by simp, HN.out⟩
    case stop =>
      rintro D c i V hD hi ⟨rfl, v', hai⟩ hK
      have HN : Hid (AI Wc bm (z3 + 1) (D :: Ds) (asg PN QS l (s + 1)) v' V) := Lib.hid (by
        have e : asg PN QS l (s + 1) = stepA (ords PN l p) (asg PN QS l s) := by
          rw [← HQS.out]
          rfl
        rw [e]
        exact hai.mark (fun E hE => HAI2.out.lt hE) HBB.out hD hK)
      clear hai hK hD
      gi_wp2_with fail
      go_wp2_with fail
      exact ⟨g - 1, by omega, s + 1, D :: Ds, v', by omega, rfl, rfl, rfl, rfl, rfl, by simp, HN.out⟩
  · obtain rfl : s = 64 := by omega
    have c6 := HA.out.co
    have hns : ¬ (((64 : Nat) : Int) < 64) := by omega
    go_wp2_with fail
    refine leaves_marks Ds W HA.out.nd (fun D hD => (HA.out.ds D hD).2) (fun W' k => ?_)
    have hsz := HSZ.out
    have hbm := HBM.out
    have hk2 := HK2.out.size
    have hk3 := HK3.out.size
    have hkc := HKC.out.size
    refine ⟨.tuple #[vo, .int .i64 0], by simp [results, Tryz.f24, go_sem], vo, rfl, ?_, ?_⟩
    · refine ownsRow_lo (ownsRow_keep HA.out.ow k (fun b hb hD => ?_)) (by omega)
      rcases HA.out.ow.2 with ⟨e, _⟩ | ⟨g', cap, cur, e, hb', hh, _⟩
      · rw [e] at hb; cases hb
      · rw [e] at hb
        cases hb
        rw [(HA.out.ds _ hD).2] at hh
        cases hh
    · exact ((HK3.out.trans HKC.out).trans' HA.out.k (fun i e => .inr (by omega))).trans' k (fun i e => .inr (by have := (HA.out.ds i e).1; omega))
end Go.Proofs.YtiacdkggbnoigaaGreatDoor

/-
  Assign refused; Clone of members; New.
-/
namespace Go.Proofs.YtiacdkggbnoigaaGreatDoor
open Go.RowKit Go.Shelf
attribute [local go_sem] Oper.semAt_some

set_option maxRecDepth 100000 in
set_option maxHeartbeats 2000000 in
theorem assign_bad (v : Value) (l : List Mb) (w : World) (h : Mbs w v l) (hv : ¬ VL l) : Calls Tryz.prog 24 #[v] w fun e w' => e = .returned (.tuple #[.slice none 0 0, .int .i64 120]) ∧ Keep (fun _ => False) w w' := by
  have HVA : Hid (Calls Tryz.prog 30 #[v] w fun e w' => e = .returned (.bool false) ∧ Keep (fun _ => False) w w') := Lib.hid (by
    have := valid_any v l w h
    rwa [show validL l = false from by
      cases e : validL l with
      | false => rfl
      | true => exact absurd ((validL_iff l).1 e) hv] at this)
  clear h hv
  refine (callsIn_wide (n := 0)).1 ?_
  refine callsIn_of_wp_marks Tryz.func24 rfl trivial ?_ rfl
  simp only [Tryz.ntmps24, List.size_toArray, List.length_cons, List.length_nil, Nat.reduceAdd, Nat.reduceSub, Array.replicate_succ, Array.replicate_zero, List.push_toArray, List.append_toArray, List.nil_append, List.cons_append]
  refine wpIn_wide.2 ?_
  go_wp2_with fail
  go_step3
  go_wp2_with fail
  with_reducible refine HVA.out.mono ?_
  rintro e W1 ⟨rfl, k1⟩
  have HK1 := Lib.hid k1
  clear k1 HVA
  go_wp2_with fail
  rw [Exit.noGoto_ret]
  exact ⟨.tuple #[.slice none 0 0, .int .i64 120], by simp [results, Tryz.f24, go_sem], rfl, HK1.out⟩

def encMb (m : Mb) : List Value := [.int .i64 m.node, .int .i64 m.region, .int .i64 m.weight]
def flatB (l : List Mb) : List Value := l.flatMap encMb
theorem flatB_append (a b : List Mb) : flatB (a ++ b) = flatB a ++ flatB b := by unfold flatB; rw [List.flatMap_append]
theorem flatB_one (x : Mb) : flatB [x] = encMb x := by simp [flatB]
theorem flatB_len (l : List Mb) : (flatB l).length = l.length * 3 := by
  induction l with
  | nil => rfl
  | cons x l ih => unfold flatB at ih ⊢; rw [List.flatMap_cons, List.length_append, ih]; simp [encMb]; omega
theorem flatB_get : ∀ (l : List Mb) (q : Nat) (x : Mb) (r : Nat), l[q]? = some x → r < 3 → (flatB l)[q * 3 + r]? = (encMb x)[r]?
  | [], q, x, r, h, _ => by simp at h
  | y :: l, 0, x, r, h, hr => by
    simp only [List.getElem?_cons_zero, Option.some.injEq] at h
    subst h
    unfold flatB
    rw [List.flatMap_cons, Nat.zero_mul, Nat.zero_add, List.getElem?_append_left (by simp [encMb]; omega)]
  | y :: l, q + 1, x, r, h, hr => by
    simp only [List.getElem?_cons_succ] at h
    have ih := flatB_get l q x r h hr
    unfold flatB at ih ⊢
    rw [List.flatMap_cons, List.getElem?_append_right (by simp [encMb]; omega)]
    have e : (q + 1) * 3 + r - (encMb y).length = q * 3 + r := by simp [encMb]; omega
    rw [e]; exact ih
theorem flatB_cells {W : World} {b off : Nat} {l : List Mb} (h : ∀ j m, l[j]? = some m → W.cell? ⟨b, off + j * 3, none⟩ = some (.int .i64 m.node) ∧ W.cell? ⟨b, off + j * 3 + 1, none⟩ = some (.int .i64 m.region) ∧ W.cell? ⟨b, off + j * 3 + 2, none⟩ = some (.int .i64 m.weight)) (j : Nat) (u : Value) (hj : (flatB l)[j]? = some u) : W.cell? ⟨b, off + j, none⟩ = some u := by
  have hlt := (List.getElem?_eq_some_iff.1 hj).1
  rw [flatB_len] at hlt
  have hq : j / 3 < l.length := by omega
  have hx : l[j / 3]? = some l[j / 3] := List.getElem?_eq_getElem hq
  have h1 := flatB_get l (j / 3) _ (j % 3) hx (by omega)
  rw [show j / 3 * 3 + j % 3 = j by omega, hj] at h1
  have h2 := h _ _ hx
  have hr : j % 3 = 0 ∨ j % 3 = 1 ∨ j % 3 = 2 := by omega
  rcases hr with e | e | e
  · rw [e] at h1
    simp only [encMb, List.getElem?_cons_zero, Option.some.injEq] at h1
    rw [h1, ← h2.1]; congr 2; omega
  · rw [e] at h1
    simp only [encMb, List.getElem?_cons_succ, List.getElem?_cons_zero, Option.some.injEq] at h1
    rw [h1, ← h2.2.1]; congr 2; omega
  · rw [e] at h1
    simp only [encMb, List.getElem?_cons_succ, List.getElem?_cons_zero, Option.some.injEq] at h1
    rw [h1, ← h2.2.2]; congr 2; omega
theorem mbs_owns {W : World} {lo : Nat} {v : Value} {l : List Mb} (h : W.ownsRow lo 44 3 v l.length (flatB l)) (hl : l.length ≤ 1000000) (hb : ∀ m ∈ l, I64 m.node ∧ I64 m.region ∧ I64 m.weight) : Mbs W v l := by
  rcases h.2 with ⟨rfl, hx⟩ | ⟨g, cap, cur, rfl, _, _, hc, r⟩
  · have : l = [] := List.eq_nil_of_length_eq_zero hx
    subst this
    exact ⟨by simp, by simp, none, 0, 0, 0, rfl, by simp, fun h => by simp at h, fun j x hj => by simp at hj⟩
  · refine ⟨by omega, hb, some ⟨g, 0, none⟩, cap, g, 0, rfl, hc, fun _ => rfl, fun j x hj => ?_⟩
    have key : ∀ r, r < 3 → ∀ u, (encMb x)[r]? = some u → W.cell? ⟨g, 0 + (j * 3 + r), none⟩ = some u := fun r hr u hu => by
      have h1 := flatB_get l j x r hj hr
      rw [hu] at h1
      have h3 := h.cells (g := g) rfl _ _ h1
      rwa [Addr.add_lit] at h3
    exact ⟨key 0 (by decide) _ rfl, by have := key 1 (by decide) _ rfl; rwa [← Nat.add_assoc] at this, by have := key 2 (by decide) _ rfl; rwa [← Nat.add_assoc] at this⟩
theorem its_owns {W : World} {lo : Nat} {v : Value} {xs : List Int} (h : W.ownsRow lo 3 1 v xs.length (xs.map (fun x => Value.int .i64 x))) (hl : xs.length ≤ 1000000) (hb : ∀ x ∈ xs, I64 x) : Its W v xs := by
  rcases h.2 with ⟨rfl, hx⟩ | ⟨g, cap, cur, rfl, _, _, hc, r⟩
  · have : xs = [] := List.eq_nil_of_length_eq_zero hx
    subst this
    exact Its.nil W
  · refine ⟨by omega, hb, some ⟨g, 0, none⟩, cap, g, 0, rfl, hc, fun _ => rfl, fun j x hj => ?_⟩
    have h3 := h.cells (g := g) rfl j (.int .i64 x) (by rw [List.getElem?_map, hj]; rfl)
    rwa [Addr.add_lit] at h3

/-- More members. -/
theorem app_mbs (W : World) (ty lo : Nat) (v src : Value) (l ys : List Mb) (hown : W.ownsRow lo 44 3 v l.length (flatB l)) (hs : Mbs W src ys) (hne : 0 < ys.length) (hn : l.length + ys.length ≤ 100000) (hlo : lo ≤ W.heap.size) :
    ∃ v' w', (Builtin.append_ #[22, 22] ty #[v, src]).run Tryz.prog W = .ok v' w' ∧ w'.ownsRow lo 44 3 v' (l ++ ys).length (flatB (l ++ ys)) ∧
      Keep (fun k => v.ownBlock = some k) W w' ∧ (v'.ownBlock = v.ownBlock ∨ v'.ownBlock = some W.heap.size) := by
  obtain ⟨hn2, hb, a, c, b, off, rfl, hc, ha, hcell⟩ := hs
  obtain rfl := ha hne
  obtain ⟨i0, hi, hz0, hz1, hz2⟩ := info_parts infoMb
  obtain ⟨v', w', r1, r2, r3, r4, r5⟩ := run_append_own_at (P := Tryz.prog) W lo 22 ty 44 i0 _ 3 24 Tryz.underlying22 hi hz0 hz1 hz2 rfl (by decide) v l.length (flatB l) hown ⟨b, off, none⟩ ys.length c (flatB ys) (flatB_len ys)
    (by
      intro j u hj
      rw [Addr.add_lit]
      exact flatB_cells hcell j u hj)
    (by
      intro u hu
      unfold flatB at hu
      obtain ⟨m, _, hu⟩ := List.mem_flatMap.1 hu
      simp only [encMb, List.mem_cons, List.not_mem_nil, or_false] at hu
      rcases hu with rfl | rfl | rfl <;> rfl) (by unfold maxLen; omega) (by omega) hlo
  refine ⟨v', w', r1, ?_, Keep.of_grown r3, r5⟩
  rw [flatB_append, List.length_append]
  exact r2

def ClonePost (l : List Mb) (w : World) (e : Ending) (w' : World) : Prop := ∃ v, e = .returned v ∧ w'.ownsRow w.heap.size 44 3 v l.length (flatB l) ∧ Keep (fun _ => False) w w'
set_option maxRecDepth 100000 in
set_option maxHeartbeats 1000000 in
theorem cloneMb_any (v : Value) (l : List Mb) (w : World) (h : Mbs w v l) (hne : 0 < l.length) (hl : l.length ≤ 1000) : Calls Tryz.prog 26 #[v] w (ClonePost l w) := by
  have k1 : Keep (fun _ => False) w (w.alloc (.cells #[] 44)) := (Keep.refl _ w).alloc _
  obtain ⟨v', W2, hr, hown, hkp, hob⟩ := app_mbs (w.alloc (.cells #[] 44)) 22 w.heap.size (.slice (some ⟨w.heap.size, 0, none⟩) 0 0) v [] l (World.ownsRow_lit w #[] 0 (Nat.le_refl _) (by decide) rfl) (h.kept k1) hne (by simp; omega) (by simp)
  rw [List.nil_append] at hown
  have HP : Hid (ClonePost l w (.returned v') W2) := Lib.hid ⟨v', rfl, hown, k1.trans' hkp (fun j e => by cases e; exact .inr (Nat.le_refl _))⟩
  obtain ⟨-, -, a, c, b, off, rfl, -, ha, -⟩ := h
  obtain rfl := ha hne
  have HR := Lib.hid hr
  clear hr hown hkp hob k1 ha
  have heq : (binOp BinOp.eql 22 (.slice (some ⟨b, off, none⟩) l.length c) (.slice none 0 0)).run Tryz.prog w = .ok (.bool false) w := by
    simp only [binOp]
    simp [Op.equal, Op.maxDepth, Lib.run_equalIn_slice_nil w 9999 22 44 (some ⟨b, off, none⟩) l.length c 0 0 Tryz.underlying22]
  go_enter Tryz.func26, Tryz.ntmps26
  go_wp2_with (at_builtin; refine wpList_app rfl (.tmp 5) (.tmp 6) 22 rfl rfl rfl HR.out ?_)
  go_ret
  exact HP.out

/-- A ring of its own. -/
def NewPost (ep : Int) (l : List Mb) (w : World) (e : Ending) (w' : World) : Prop := ∃ vm vo, e = .returned (.tuple #[ringV ep vm vo, .int .i64 0]) ∧ w'.ownsRow w.heap.size 44 3 vm l.length (flatB l) ∧ w'.ownsRow w.heap.size 3 1 vo (ownersL PN QS l).length ((ownersL PN QS l).map (fun x => Value.int .i64 x)) ∧ (∀ b, vo.ownBlock = some b → vm.ownBlock ≠ some b) ∧ Keep (fun _ => False) w w'
theorem VL.bd {l : List Mb} (h : VL l) : ∀ m ∈ l, I64 m.node ∧ I64 m.region ∧ I64 m.weight := fun m hm => by
  have := h.ok m hm
  unfold okMb at this
  unfold I64
  omega
theorem VL.obd {l : List Mb} (h : VL l) : ∀ x ∈ ownersL PN QS l, I64 x := fun x hx => by
  obtain ⟨m, hm, rfl⟩ := (owners_ok PN QS h).2.2 x hx
  exact (h.bd m hm).1

set_option maxRecDepth 100000 in
set_option maxHeartbeats 2000000 in
theorem new_ok (ep : Int) (v : Value) (l : List Mb) (w : World) (h : Mbs w v l) (hv : VL l) (hT : Tab w) (he : 1 ≤ ep ∧ ep ≤ 1000000) : Calls Tryz.prog 6 #[.int .i64 ep, v] w (NewPost ep l w) := by
  have HAS : Hid (∀ W, Keep (fun _ => False) w W → Calls Tryz.prog 24 #[v] W (AsgPost l W)) := Lib.hid (fun W k => assign_ok v l W (h.kept k) hv (hT.kept k))
  have HCL : Hid (∀ W, Keep (fun _ => False) w W → Calls Tryz.prog 26 #[v] W (ClonePost l W)) := Lib.hid (fun W k => cloneMb_any v l W (h.kept k) (List.length_pos_iff.2 hv.ne) (by have := hv.len; omega))
  have HEP := Lib.hid (decide_eq_true he)
  clear h hv hT he
  have HK0 : Hid (Keep (fun _ => False) w (w.alloc (.cells #[.int .i64 0, .slice none 0 0, .slice none 0 0] 25))) := Lib.hid ((Keep.refl _ w).alloc _)
  have HT3 := Lib.hid (three_cell w (.int .i64 0) (.slice none 0 0) (.slice none 0 0) 25)
  go_enter Tryz.func6, Tryz.ntmps6
  go_wp2_with fail
  generalize w.alloc (.cells #[.int .i64 0, .slice none 0 0, .slice none 0 0] 25) = W0 at *
  generalize hz : w.heap.size = z at HT3
  have HZ := Lib.hid hz
  clear hz
  with_reducible refine (HAS.out _ HK0.out).mono ?_
  rintro e W1 ⟨vo, rfl, how, k1⟩
  have HK1 := Lib.hid (HK0.out.trans k1)
  have HSZ1 := Lib.hid k1.size
  have HOW := Lib.hid how
  have HT1 := Lib.hid (And.intro (k1.cell HT3.out.1 (fun h => h)) (And.intro (k1.cell HT3.out.2.1 (fun h => h)) (And.intro (k1.cell HT3.out.2.2.1 (fun h => h)) (fun o => (k1.frozen (World.block_lt_of_cell? _ _ HT3.out.1) (fun h => h) o).trans (HT3.out.2.2.2 o)))))
  clear k1 how
  go_wp2_with fail
  with_reducible refine (within_b ep 1 1000000 true HEP.out _).mono ?_
  rintro e w' ⟨rfl, rfl⟩
  go_wp2_with fail
  with_reducible refine (HCL.out _ HK1.out).mono ?_
  rintro e W2 ⟨vm, rfl, hmb, k2⟩
  have hform : (∃ a n c, vo = .slice a n c) ∧ ∃ a n c, vm = .slice a n c := by
    constructor
    · rcases HOW.out.2 with ⟨rfl, _⟩ | ⟨g, cap, cur, rfl, _⟩ <;> exact ⟨_, _, _, rfl⟩
    · rcases hmb.2 with ⟨rfl, _⟩ | ⟨g, cap, cur, rfl, _⟩ <;> exact ⟨_, _, _, rfl⟩
  obtain ⟨⟨oa, on, oc, rfl⟩, ma, mn, mc, rfl⟩ := hform
  have f0 := k2.cell HT1.out.1 (fun h => h)
  have f1 := k2.cell HT1.out.2.1 (fun h => h)
  have f2 := k2.cell HT1.out.2.2.1 (fun h => h)
  have ff : ∀ o, W2.frozen? ⟨z, o, none⟩ = false := fun o => (k2.frozen (World.block_lt_of_cell? _ _ HT1.out.1) (fun h => h) o).trans (HT1.out.2.2.2 o)
  have HK2 := Lib.hid (HK1.out.trans k2)
  have HOW2 := Lib.hid (ownsRow_keep HOW.out k2 (fun _ _ h => h))
  have HMB := Lib.hid hmb
  have HLT := Lib.hid (fun b (e : (Value.slice oa on oc).ownBlock = some b) => (HOW.out.lt b e))
  clear k2 hmb HOW
  go_wp2_with fail
  have g0 : (((W2.setCell ⟨z, 0, none⟩ (.int .i64 ep)).setCell ⟨z, 1, none⟩ (.slice ma mn mc)).setCell ⟨z, 2, none⟩ (.slice oa on oc)).cell? ⟨z, 0, none⟩ = some (.int .i64 ep) := (cell_set_off (by decide)).trans ((cell_set_off (by decide)).trans (cell_set_same f0))
  have g1 : (((W2.setCell ⟨z, 0, none⟩ (.int .i64 ep)).setCell ⟨z, 1, none⟩ (.slice ma mn mc)).setCell ⟨z, 2, none⟩ (.slice oa on oc)).cell? ⟨z, 1, none⟩ = some (.slice ma mn mc) := (cell_set_off (by decide)).trans (cell_set_same ((cell_set_off (by decide)).trans f1))
  have g2 : (((W2.setCell ⟨z, 0, none⟩ (.int .i64 ep)).setCell ⟨z, 1, none⟩ (.slice ma mn mc)).setCell ⟨z, 2, none⟩ (.slice oa on oc)).cell? ⟨z, 2, none⟩ = some (.slice oa on oc) := cell_set_same ((cell_set_off (by decide)).trans ((cell_set_off (by decide)).trans f2))
  have HKS : Hid (Keep (fun j => j = z) W2 (((W2.setCell ⟨z, 0, none⟩ (.int .i64 ep)).setCell ⟨z, 1, none⟩ (.slice ma mn mc)).setCell ⟨z, 2, none⟩ (.slice oa on oc))) := Lib.hid ((((Keep.refl (fun j => j = z) W2).setCell (p := ⟨z, 0, none⟩) _ (.inl rfl)).setCell (p := ⟨z, 1, none⟩) _ (.inl rfl)).setCell (p := ⟨z, 2, none⟩) _ (.inl rfl))
  generalize ((W2.setCell ⟨z, 0, none⟩ (.int .i64 ep)).setCell ⟨z, 1, none⟩ (.slice ma mn mc)).setCell ⟨z, 2, none⟩ (.slice oa on oc) = W3 at *
  refine bodyPost_ret (v := .tuple #[ringV ep (.slice ma mn mc) (.slice oa on oc), .int .i64 0]) (by simp [results, Tryz.results6, go_sem, g0, g1, g2]) rfl ?_
  have hz0 : w.heap.size = z := HZ.out
  have hW0 := World.block_lt_of_cell? _ _ HT3.out.1
  simp only [] at hW0
  have hW1 := HK1.out.size
  refine ⟨_, _, rfl, ownsRow_lo (ownsRow_keep HMB.out HKS.out (fun b hb e => ?_)) hW1, ownsRow_lo (ownsRow_keep HOW2.out HKS.out (fun b hb e => ?_)) HK0.out.size, fun b hb hm => ?_, HK2.out.trans' HKS.out (fun i e => .inr (by omega))⟩
  · have := (HMB.out.lt b hb).1
    have h3 : W0.heap.size ≤ W1.heap.size := HSZ1.out
    omega
  · have := (HOW2.out.lt b hb).1; omega
  · have h1 := (HMB.out.lt b hm).1
    have h2 := (HLT.out b hb).2
    omega
end Go.Proofs.YtiacdkggbnoigaaGreatDoor

/-
  Boxes of three cells; slices that are cut; append to an empty literal.
-/
namespace Go.Proofs.YtiacdkggbnoigaaGreatDoor
open Go.RowKit Go.Shelf

/-- A box of three cells. -/
def Box3 (W : World) (z : Nat) (x y u : Value) : Prop := W.cell? ⟨z, 0, none⟩ = some x ∧ W.cell? ⟨z, 1, none⟩ = some y ∧ W.cell? ⟨z, 2, none⟩ = some u ∧ ∀ o, W.frozen? ⟨z, o, none⟩ = false
theorem Box3.lt {W : World} {z : Nat} {x y u : Value} (h : Box3 W z x y u) : z < W.heap.size := World.block_lt_of_cell? _ _ h.1
theorem Box3.keep {W W' : World} {z : Nat} {x y u : Value} {A : Nat → Prop} (h : Box3 W z x y u) (k : Keep A W W') (hz : ¬ A z) : Box3 W' z x y u :=
  ⟨k.cell h.1 hz, k.cell h.2.1 hz, k.cell h.2.2.1 hz, fun o => (k.frozen h.lt hz o).trans (h.2.2.2 o)⟩
theorem Box3.kept {W W' : World} {z : Nat} {x y u : Value} (h : Box3 W z x y u) (k : Keep (fun _ => False) W W') : Box3 W' z x y u := h.keep k (fun h => h)
theorem Box3.set0 {W : World} {z : Nat} {x y u : Value} (h : Box3 W z x y u) (v : Value) : Box3 (W.setCell ⟨z, 0, none⟩ v) z v y u :=
  ⟨cell_set_same h.1, (cell_set_off (by decide)).trans h.2.1, (cell_set_off (by decide)).trans h.2.2.1, fun o => (World.frozen?_setCell _ _ _ _).trans (h.2.2.2 o)⟩
theorem Box3.set1 {W : World} {z : Nat} {x y u : Value} (h : Box3 W z x y u) (v : Value) : Box3 (W.setCell ⟨z, 1, none⟩ v) z x v u :=
  ⟨(cell_set_off (by decide)).trans h.1, cell_set_same h.2.1, (cell_set_off (by decide)).trans h.2.2.1, fun o => (World.frozen?_setCell _ _ _ _).trans (h.2.2.2 o)⟩
theorem Box3.set2 {W : World} {z : Nat} {x y u : Value} (h : Box3 W z x y u) (v : Value) : Box3 (W.setCell ⟨z, 2, none⟩ v) z x y v :=
  ⟨(cell_set_off (by decide)).trans h.1, (cell_set_off (by decide)).trans h.2.1, cell_set_same h.2.2.1, fun o => (World.frozen?_setCell _ _ _ _).trans (h.2.2.2 o)⟩
theorem Box3.other {W : World} {z b o : Nat} {x y u : Value} (h : Box3 W z x y u) (hb : b ≠ z) (v : Value) : Box3 (W.setCell ⟨b, o, none⟩ v) z x y u :=
  ⟨(cell_set_blk hb).trans h.1, (cell_set_blk hb).trans h.2.1, (cell_set_blk hb).trans h.2.2.1, fun o => (World.frozen?_setCell _ _ _ _).trans (h.2.2.2 o)⟩
theorem Box3.new (W : World) (x y u : Value) (t : TypeId) : Box3 (W.alloc (.cells #[x, y, u] t)) W.heap.size x y u := three_cell W x y u t

theorem Mbs.cut {W : World} {a : Option Addr} {n c : Nat} {l : List Mb} (h : Mbs W (.slice a n c) l) {q : Nat} (hq : q ≤ n) : Mbs W (.slice a q c) (l.take q) ∧ (l.take q).length = q ∧ n ≤ c := by
  obtain ⟨h1, h2, a', c', b, off, e, hc, ha, hcell⟩ := h
  obtain ⟨rfl, rfl, rfl⟩ := Value.slice.inj e
  have hl : (l.take q).length = q := by rw [List.length_take]; omega
  refine ⟨⟨by omega, fun m hm => h2 m (List.mem_of_mem_take hm), a, c, b, off, by rw [hl], by omega, fun h => ha (by omega), fun j x hj => hcell j x ?_⟩, hl, hc⟩
  have := (List.getElem?_eq_some_iff.1 hj).1
  rwa [List.getElem?_take_of_lt (by omega)] at hj
theorem Its.cut {W : World} {a : Option Addr} {n c : Nat} {l : List Int} (h : Its W (.slice a n c) l) {q : Nat} (hq : q ≤ n) : Its W (.slice a q c) (l.take q) ∧ (l.take q).length = q ∧ n ≤ c := by
  obtain ⟨h1, h2, a', c', b, off, e, hc, ha, hcell⟩ := h
  obtain ⟨rfl, rfl, rfl⟩ := Value.slice.inj e
  have hl : (l.take q).length = q := by rw [List.length_take]; omega
  refine ⟨⟨by omega, fun m hm => h2 m (List.mem_of_mem_take hm), a, c, b, off, by rw [hl], by omega, fun h => ha (by omega), fun j x hj => hcell j x ?_⟩, hl, hc⟩
  have := (List.getElem?_eq_some_iff.1 hj).1
  rwa [List.getElem?_take_of_lt (by omega)] at hj

theorem own_form {W : World} {lo : Nat} {e : TypeId} {z n : Nat} {v : Value} {xs : List Value} (h : W.ownsRow lo e z v n xs) : ∃ a c, v = .slice a n c := by
  rcases h.2 with ⟨rfl, h2⟩ | ⟨g, c, cur, rfl, _⟩
  · exact ⟨none, 0, by rw [h2]⟩
  · exact ⟨_, _, rfl⟩
theorem run_append_owned_cap {P : Program} (w : World) (base : Nat) (t ty e : TypeId) (i : TypeInfo) (size : Nat) (ht : P.underlying t = some (.slice e)) (hi : P.info? e = some i)
    (v : Value) (n : Nat) (xs : List Value) (hown : w.ownsRow base e size v n xs) (c : Nat) :
    (Builtin.append_ #[t, t] ty #[v, .slice none 0 c]).run P w = .ok v w := by
  rcases hown.2 with ⟨rfl, rfl⟩ | ⟨g, cap, cur, rfl, _, _, hnc, _⟩
  · simp [Builtin.append_, run_underlying ht, sizeOf, typeInfo, hi, Builtin.lenOf, Builtin.firstCells]
  · simp [Builtin.append_, run_underlying ht, sizeOf, typeInfo, hi, Builtin.lenOf, Builtin.firstCells, hnc, storeCells]
/-- More members behind an own row, none too. -/
theorem app_mbs0 (W : World) (ty lo : Nat) (v src : Value) (l ys : List Mb) (hown : W.ownsRow lo 44 3 v l.length (flatB l)) (hs : Mbs W src ys) (hn : l.length + ys.length ≤ 100000) (hlo : lo ≤ W.heap.size) :
    ∃ v' w', (Builtin.append_ #[22, 22] ty #[v, src]).run Tryz.prog W = .ok v' w' ∧ w'.ownsRow lo 44 3 v' (l ++ ys).length (flatB (l ++ ys)) ∧
      Keep (fun k => v.ownBlock = some k) W w' := by
  by_cases hne : 0 < ys.length
  · obtain ⟨v', w', h1, h2, h3, _⟩ := app_mbs W ty lo v src l ys hown hs hne hn hlo
    exact ⟨v', w', h1, h2, h3⟩
  · obtain ⟨hn2, hb, a, c, b, off, rfl, hc, ha, hcell⟩ := hs
    have : ys = [] := List.eq_nil_of_length_eq_zero (by omega)
    subst this
    obtain ⟨i0, hi, hz0, hz1, hz2⟩ := info_parts infoMb
    cases a with
    | none => exact ⟨v, W, run_append_owned_cap W lo 22 ty 44 i0 3 Tryz.underlying22 hi v l.length _ hown c, by rw [List.append_nil]; exact hown, Keep.refl _ W⟩
    | some ad =>
      obtain ⟨v', w', r1, r2, r3, r4, r5⟩ := run_append_own_at (P := Tryz.prog) W lo 22 ty 44 i0 _ 3 24 Tryz.underlying22 hi hz0 hz1 hz2 rfl (by decide) v l.length (flatB l) hown ad 0 c [] (by simp)
        (by intro j u hj; simp at hj) (by simp) (by unfold maxLen; omega) (by omega) hlo
      refine ⟨v', w', r1, ?_, Keep.of_grown r3⟩
      rw [List.append_nil] at r2 ⊢
      exact r2
theorem app_its0 (W : World) (ty lo : Nat) (v src : Value) (l ys : List Int) (hown : W.ownsRow lo 3 1 v l.length (l.map (fun x => Value.int .i64 x))) (hs : Its W src ys) (hn : l.length + ys.length ≤ 100000) (hlo : lo ≤ W.heap.size) :
    ∃ v' w', (Builtin.append_ #[23, 23] ty #[v, src]).run Tryz.prog W = .ok v' w' ∧ w'.ownsRow lo 3 1 v' (l ++ ys).length ((l ++ ys).map (fun x => Value.int .i64 x)) ∧
      Keep (fun k => v.ownBlock = some k) W w' := by
  obtain ⟨hn2, hb, a, c, b, off, rfl, hc, ha, hcell⟩ := hs
  obtain ⟨i0, hi, hz0, hz1, hz2⟩ := info_parts infoInt
  cases a with
  | none =>
    have : ys = [] := by
      apply List.eq_nil_of_length_eq_zero
      rcases Nat.eq_zero_or_pos ys.length with h | h
      · exact h
      · exact absurd (ha h) (by simp)
    subst this
    exact ⟨v, W, run_append_owned_cap W lo 23 ty 3 i0 1 Tryz.underlying23 hi v l.length _ hown c, by rw [List.append_nil]; exact hown, Keep.refl _ W⟩
  | some ad =>
    obtain ⟨v', w', r1, r2, r3, r4, r5⟩ := run_append_own_at (P := Tryz.prog) W lo 23 ty 3 i0 _ 1 8 Tryz.underlying23 hi hz0 hz1 hz2 rfl (by decide) v l.length _ hown ad ys.length c (ys.map (fun x => Value.int .i64 x)) (by simp)
      (by
        intro j u hj
        rw [List.getElem?_map] at hj
        cases hx : ys[j]? with
        | none => rw [hx] at hj; cases hj
        | some x =>
          rw [hx] at hj
          cases hj
          have := (List.getElem?_eq_some_iff.1 hx).1
          have e := ha (by omega)
          cases e
          rw [Addr.add_lit]
          exact hcell j x hx)
      (by
        intro u hu
        obtain ⟨x, _, rfl⟩ := List.mem_map.1 hu
        rfl) (by unfold maxLen; omega) (by omega) hlo
    refine ⟨v', w', r1, ?_, Keep.of_grown r3⟩
    rw [List.map_append, List.length_append]
    exact r2
/-- A copy of its own: append to an empty literal. -/
theorem lit_mbs (W : World) (v : Value) (l : List Mb) (h : Mbs W v l) (hl : l.length ≤ 1000) :
    ∃ a c W', (Builtin.append_ #[22, 22] 22 #[.slice (some ⟨W.heap.size, 0, none⟩) 0 0, v]).run Tryz.prog (W.alloc (.cells #[] 44)) = .ok (.slice a l.length c) W' ∧ Keep (fun _ => False) W W' ∧ W'.ownsRow W.heap.size 44 3 (.slice a l.length c) l.length (flatB l) := by
  have k1 : Keep (fun _ => False) W (W.alloc (.cells #[] 44)) := (Keep.refl _ W).alloc _
  obtain ⟨v', W2, hr, hown, hkp⟩ := app_mbs0 (W.alloc (.cells #[] 44)) 22 W.heap.size (.slice (some ⟨W.heap.size, 0, none⟩) 0 0) v [] l (World.ownsRow_lit W #[] 0 (Nat.le_refl _) (by decide) rfl) (h.kept k1) (by simp; omega) (by simp)
  rw [List.nil_append] at hown
  obtain ⟨a, c, rfl⟩ := own_form hown
  exact ⟨a, c, W2, hr, k1.trans' hkp (fun j e => by cases e; exact .inr (Nat.le_refl _)), hown⟩
theorem lit_its (W : World) (v : Value) (l : List Int) (h : Its W v l) (hl : l.length ≤ 1000) :
    ∃ a c W', (Builtin.append_ #[23, 23] 23 #[.slice (some ⟨W.heap.size, 0, none⟩) 0 0, v]).run Tryz.prog (W.alloc (.cells #[] 3)) = .ok (.slice a l.length c) W' ∧ Keep (fun _ => False) W W' ∧ W'.ownsRow W.heap.size 3 1 (.slice a l.length c) l.length (l.map (fun x => Value.int .i64 x)) := by
  have k1 : Keep (fun _ => False) W (W.alloc (.cells #[] 3)) := (Keep.refl _ W).alloc _
  obtain ⟨v', W2, hr, hown, hkp⟩ := app_its0 (W.alloc (.cells #[] 3)) 23 W.heap.size (.slice (some ⟨W.heap.size, 0, none⟩) 0 0) v [] l (World.ownsRow_lit W #[] 0 (Nat.le_refl _) (by decide) rfl) (h.kept k1) (by simp; omega) (by simp)
  rw [List.nil_append] at hown
  obtain ⟨a, c, rfl⟩ := own_form hown
  exact ⟨a, c, W2, hr, k1.trans' hkp (fun j e => by cases e; exact .inr (Nat.le_refl _)), hown⟩
end Go.Proofs.YtiacdkggbnoigaaGreatDoor

/-
  Clone of integers, of members, none too.
-/
namespace Go.Proofs.YtiacdkggbnoigaaGreatDoor
open Go.RowKit Go.Shelf

def CloneI (xs : List Int) (w : World) (e : Ending) (w' : World) : Prop := ∃ a c, e = .returned (.slice a xs.length c) ∧ w'.ownsRow w.heap.size 3 1 (.slice a xs.length c) xs.length (xs.map (fun x => Value.int .i64 x)) ∧ Keep (fun _ => False) w w'
set_option maxRecDepth 100000 in
set_option maxHeartbeats 1000000 in
theorem cloneI_any (v : Value) (xs : List Int) (w : World) (h : Its w v xs) (hl : xs.length ≤ 1000) : Calls Tryz.prog 32 #[v] w (CloneI xs w) := by
  obtain ⟨a', c', W2, hr, k, hown⟩ := lit_its w v xs h hl
  obtain ⟨-, -, a, c, b, off, rfl, -, ha, -⟩ := h
  cases a with
  | none =>
    have hx : xs = [] := by
      apply List.eq_nil_of_length_eq_zero
      rcases Nat.eq_zero_or_pos xs.length with h | h
      · exact h
      · exact absurd (ha h) (by simp)
    subst hx
    have heq : (binOp BinOp.eql 23 (.slice none 0 c) (.slice none 0 0)).run Tryz.prog w = .ok (.bool true) w := by
      simp only [binOp]
      simp [Op.equal, Op.maxDepth, Lib.run_equalIn_slice_nil w 9999 23 3 none 0 c 0 0 Tryz.underlying23]
    clear hr k hown ha
    go_enter Tryz.func32, Tryz.ntmps32
    go_wp2_with fail
    go_ret
    exact ⟨none, 0, rfl, World.ownsRow_nil w w.heap.size 3 1, Keep.refl _ w⟩
  | some ad =>
    have heq : (binOp BinOp.eql 23 (.slice (some ad) xs.length c) (.slice none 0 0)).run Tryz.prog w = .ok (.bool false) w := by
      simp only [binOp]
      simp [Op.equal, Op.maxDepth, Lib.run_equalIn_slice_nil w 9999 23 3 (some ad) xs.length c 0 0 Tryz.underlying23]
    have HP : Hid (CloneI xs w (.returned (.slice a' xs.length c')) W2) := Lib.hid ⟨a', c', rfl, hown, k⟩
    have HR := Lib.hid hr
    clear hr k hown ha
    go_enter Tryz.func32, Tryz.ntmps32
    go_wp2_with (at_builtin; refine wpList_app rfl (.tmp 5) (.tmp 6) 23 rfl rfl rfl HR.out ?_)
    go_ret
    exact HP.out

def CloneM (l : List Mb) (w : World) (e : Ending) (w' : World) : Prop := ∃ a c, e = .returned (.slice a l.length c) ∧ w'.ownsRow w.heap.size 44 3 (.slice a l.length c) l.length (flatB l) ∧ Keep (fun _ => False) w w'
set_option maxRecDepth 100000 in
set_option maxHeartbeats 1000000 in
theorem cloneM_any (v : Value) (l : List Mb) (w : World) (h : Mbs w v l) (hl : l.length ≤ 1000) : Calls Tryz.prog 26 #[v] w (CloneM l w) := by
  obtain ⟨a', c', W2, hr, k, hown⟩ := lit_mbs w v l h hl
  obtain ⟨-, -, a, c, b, off, rfl, -, ha, -⟩ := h
  cases a with
  | none =>
    have hx : l = [] := by
      apply List.eq_nil_of_length_eq_zero
      rcases Nat.eq_zero_or_pos l.length with h | h
      · exact h
      · exact absurd (ha h) (by simp)
    subst hx
    have heq : (binOp BinOp.eql 22 (.slice none 0 c) (.slice none 0 0)).run Tryz.prog w = .ok (.bool true) w := by
      simp only [binOp]
      simp [Op.equal, Op.maxDepth, Lib.run_equalIn_slice_nil w 9999 22 44 none 0 c 0 0 Tryz.underlying22]
    clear hr k hown ha
    go_enter Tryz.func26, Tryz.ntmps26
    go_wp2_with fail
    go_ret
    exact ⟨none, 0, rfl, World.ownsRow_nil w w.heap.size 44 3, Keep.refl _ w⟩
  | some ad =>
    have heq : (binOp BinOp.eql 22 (.slice (some ad) l.length c) (.slice none 0 0)).run Tryz.prog w = .ok (.bool false) w := by
      simp only [binOp]
      simp [Op.equal, Op.maxDepth, Lib.run_equalIn_slice_nil w 9999 22 44 (some ad) l.length c 0 0 Tryz.underlying22]
    have HP : Hid (CloneM l w (.returned (.slice a' l.length c')) W2) := Lib.hid ⟨a', c', rfl, hown, k⟩
    have HR := Lib.hid hr
    clear hr k hown ha
    go_enter Tryz.func26, Tryz.ntmps26
    go_wp2_with (at_builtin; refine wpList_app rfl (.tmp 5) (.tmp 6) 22 rfl rfl rfl HR.out ?_)
    go_ret
    exact HP.out
end Go.Proofs.YtiacdkggbnoigaaGreatDoor

/-
  A region that draws its order and holds several operations that lay blocks, in whatever order: what each answers is told by a property that lasts.
-/
namespace Go.Proofs.YtiacdkggbnoigaaGreatDoor
open Go Go.RowKit

/-- A free operation: its number, the slot of what it answers, the slots of free operations that it reads. -/
structure FO where
  idx : Nat
  slot : Nat
  deps : List Nat

def putL (ds : List Nat) (vs : Nat → Value) (a : Act) : Act := ds.foldl (fun a d => a.put (some d) (vs d)) a
theorem putL_size (vs : Nat → Value) : ∀ (ds : List Nat) (a : Act), (putL ds vs a).tmps.size = a.tmps.size ∧ (putL ds vs a).defers = a.defers
  | [], _ => ⟨rfl, rfl⟩
  | d :: ds, a => by
    obtain ⟨h1, h2⟩ := putL_size vs ds (a.put (some d) (vs d))
    exact ⟨h1.trans (by simp [Act.put]), h2.trans rfl⟩
theorem putL_get (vs : Nat → Value) (t : Nat) : ∀ (ds : List Nat) (a : Act), t < a.tmps.size → (putL ds vs a).tmps[t]? = if t ∈ ds then some (vs t) else a.tmps[t]?
  | [], a, _ => by simp [putL]
  | d :: ds, a, ht => by
    have h := putL_get vs t ds (a.put (some d) (vs d)) (by simpa [Act.put] using ht)
    show (putL ds vs (a.put (some d) (vs d))).tmps[t]? = _
    rw [h]
    by_cases e : t ∈ ds
    · rw [if_pos e, if_pos (List.mem_cons_of_mem _ e)]
    · rw [if_neg e]
      by_cases e2 : t = d
      · subst e2
        rw [if_pos List.mem_cons_self]
        simp [Act.put, ht]
      · rw [if_neg (by simp [e, e2])]
        simp only [Act.put]
        exact Array.getElem?_setIfInBounds_ne (fun e => e2 e.symm)

section
variable {P : Program} {md : Region.Mode} {ops : Array Oper} {C : World → Prop} {S : Nat → Value → World → Prop} {R : World → World → Prop}

def tmpsOf (o : Oper) : List Nat := o.op.operands.toList.filterMap fun | .tmp t => some t | _ => none
def specOk (md : Region.Mode) (ops : Array Oper) (hs : List FO) : Bool := hs.all fun h =>
  (match ops[h.idx]? with
   | some o => o.guard.isNone && (o.dst == some h.slot) && (hs.all fun k => !(tmpsOf o).contains k.slot || h.deps.contains k.slot)
   | none => false) &&
  (h.deps.all fun d => hs.any fun k => (k.slot == d) && Region.waitsFor md ops h.idx k.idx) &&
  (hs.all fun k => (h.idx == k.idx) == (h.slot == k.slot))
def freeOk (md : Region.Mode) (ops : Array Oper) (hs : List FO) (ts : List (Bool × Nat)) : Nat → Array Bool → Bool
  | 0, listed => (hs.all fun h => listed.getD h.idx false) && walkB md ops ts listed
  | f + 1, listed => !(Region.ready md ops listed).isEmpty && (Region.ready md ops listed).all fun i => (hs.any fun h => h.idx == i) && freeOk md ops hs ts f (listed.setIfInBounds i true)

/-- What is to be shown of each free operation. -/
def freeW (P : Program) (ops : Array Oper) (C : World → Prop) (S : Nat → Value → World → Prop) (R : World → World → Prop) (a1 : Act) : List FO → Prop
  | [] => True
  | h :: rest => (∀ o, ops[h.idx]? = some o → ∀ vs w, C w → (∀ d ∈ h.deps, S d (vs d) w) → ∀ K : Value → World → Prop, (∀ v w', S h.slot v w' → R w w' → K v w') → o.wp P (putL h.deps vs a1) w (fun a' w' => a'.defers = a1.defers ∧ K (a'.tmps.getD h.slot undef) w') noQ) ∧ freeW P ops C S R a1 rest
theorem freeW_step {a1 : Act} {h : FO} {rest : List FO} {o : Oper} (ho : ops[h.idx]? = some o)
    (h1 : ∀ vs w, C w → (∀ d ∈ h.deps, S d (vs d) w) → ∀ K : Value → World → Prop, (∀ v w', S h.slot v w' → R w w' → K v w') → o.wp P (putL h.deps vs a1) w (fun a' w' => a'.defers = a1.defers ∧ K (a'.tmps.getD h.slot undef) w') noQ)
    (h2 : freeW P ops C S R a1 rest) : freeW P ops C S R a1 (h :: rest) :=
  ⟨fun o' ho' => by cases ho.symm.trans ho'; exact h1, h2⟩
theorem freeW_mem {a1 : Act} : ∀ {hs : List FO}, freeW P ops C S R a1 hs → ∀ h ∈ hs, ∀ o, ops[h.idx]? = some o → ∀ vs w, C w → (∀ d ∈ h.deps, S d (vs d) w) → ∀ K : Value → World → Prop, (∀ v w', S h.slot v w' → R w w' → K v w') → o.wp P (putL h.deps vs a1) w (fun a' w' => a'.defers = a1.defers ∧ K (a'.tmps.getD h.slot undef) w') noQ
  | [], _, h, hm => by cases hm
  | k :: rest, hw, h, hm => by
    rcases List.mem_cons.1 hm with rfl | hm
    · exact hw.1
    · exact freeW_mem hw.2 h hm

structure FreeInv (hs : List FO) (C : World → Prop) (S : Nat → Value → World → Prop) (a1 : Act) (listed : Array Bool) (a : Act) (w : World) : Prop where
  defers : a.defers = a1.defers
  size : a.tmps.size = a1.tmps.size
  other : ∀ t, (∀ h ∈ hs, h.slot = t → listed.getD h.idx false = false) → a.tmps[t]? = a1.tmps[t]?
  spec : ∀ h ∈ hs, listed.getD h.idx false = true → S h.slot (a.tmps.getD h.slot undef) w
  cls : C w

theorem getD_of_get? {α : Type} {a b : Array α} {t : Nat} {d : α} (h : a[t]? = b[t]?) : a.getD t d = b.getD t d := by
  rw [Array.getD_eq_getD_getElem?, Array.getD_eq_getD_getElem?, h]

theorem wpC_free {Q : Act → World → Prop} {hs : List FO} {ts : List (Bool × Nat)} {a1 : Act} (hsel : Region.noSelect ops = true) (hsp : specOk md ops hs = true) (hsz : ∀ h ∈ hs, h.slot < a1.tmps.size)
    (hS : ∀ t v w w', S t v w → R w w' → S t v w') (hR : ∀ w w', C w → R w w' → C w') (hst : freeW P ops C S R a1 hs)
    (hfin : ∀ vs w, C w → (∀ h ∈ hs, S h.slot (vs h.slot) w) → walkW P ops Q ts C (putL (hs.map FO.slot) vs a1) w) :
    ∀ (f : Nat) (listed : Array Bool) (a : Act) (w : World), freeOk md ops hs ts f listed = true → FreeInv hs C S a1 listed a w → wpC P md ops C Q (f + ts.length) listed a w
  | 0, listed, a, w, hB, inv => by
    rw [Nat.zero_add]
    simp only [freeOk, Bool.and_eq_true, List.all_eq_true] at hB
    have ha : a = putL (hs.map FO.slot) (fun t => a.tmps.getD t undef) a1 := by
      obtain ⟨p1, p2⟩ := putL_size (fun t => a.tmps.getD t undef) (hs.map FO.slot) a1
      have ht : a.tmps = (putL (hs.map FO.slot) (fun t => a.tmps.getD t undef) a1).tmps := by
        apply Array.ext_getElem?
        intro t
        by_cases htl : t < a1.tmps.size
        · rw [putL_get _ t _ _ htl]
          by_cases hm : t ∈ hs.map FO.slot
          · rw [if_pos hm, Array.getElem?_eq_getElem (by rw [inv.size]; exact htl)]
            congr 1
            simp [inv.size, htl]
          · rw [if_neg hm]
            exact inv.other t (fun h hh e => absurd (List.mem_map.2 ⟨h, hh, e⟩) hm)
        · rw [Array.getElem?_eq_none (by rw [inv.size]; omega), Array.getElem?_eq_none (by rw [p1]; omega)]
      have hd : a.defers = (putL (hs.map FO.slot) (fun t => a.tmps.getD t undef) a1).defers := inv.defers.trans p2.symm
      generalize putL (hs.map FO.slot) (fun t => a.tmps.getD t undef) a1 = b at ht hd
      cases a
      cases b
      simp only at ht hd
      rw [ht, hd]
    refine wpC_walk hsel ts C listed a w hB.2 ?_
    have h := hfin (fun t => a.tmps.getD t undef) w inv.cls (fun h hh => inv.spec h hh (hB.1 h hh))
    rwa [← ha] at h
  | f + 1, listed, a, w, hB, inv => by
    simp only [freeOk, Bool.and_eq_true, List.all_eq_true, List.any_eq_true, Bool.not_eq_true', beq_iff_eq] at hB
    obtain ⟨hne, hall⟩ := hB
    rw [show f + 1 + ts.length = (f + ts.length) + 1 by omega]
    refine ⟨inv.cls, fun h0 => (by rw [h0] at hne; simp at hne), fun i hi => ?_⟩
    obtain ⟨⟨h, hh, rfl⟩, hB2⟩ := hall i hi
    have hspec := hsp
    simp only [specOk, List.all_eq_true, Bool.and_eq_true] at hspec
    obtain ⟨⟨q1, q2⟩, q3⟩ := hspec h hh
    cases ho : ops[h.idx]? with
    | none => rw [ho] at q1; cases q1
    | some o =>
      rw [ho] at q1
      simp only [Bool.and_eq_true, List.all_eq_true, Bool.or_eq_true, Bool.not_eq_true', beq_iff_eq, Option.isNone_iff_eq_none] at q1
      obtain ⟨⟨g1, g2⟩, g3⟩ := q1
      obtain ⟨hun, oj, hoj, hwait⟩ := mem_ready.1 hi
      obtain rfl : oj = o := Option.some.inj (hoj.symm.trans ho)
      -- what it reads is listed
      have hdeps : ∀ d ∈ h.deps, ∃ k ∈ hs, k.slot = d ∧ listed.getD k.idx false = true := fun d hd => by
        obtain ⟨k, hk, e⟩ := List.any_eq_true.1 (q2 d hd)
        simp only [Bool.and_eq_true, beq_iff_eq] at e
        obtain ⟨oj', hoj', e', he', hb', hon'⟩ := Region.waitsFor_spec e.2
        obtain rfl : oj' = oj := Option.some.inj (hoj'.symm.trans ho)
        have := hwait e' he' hb'
        rw [hon'] at this
        exact ⟨k, hk, e.1, this⟩
      have hev : execOp a.eval oj = execOp (putL h.deps (fun t => a.tmps.getD t undef) a1).eval oj := by
        refine execOp_congr oj (fun cs b => Region.noSelect_spec hsel h.idx oj cs b ho) (fun x hx => ?_)
        cases x with
        | tmp t =>
          show a.tmps.getD t undef = (putL h.deps (fun t => a.tmps.getD t undef) a1).tmps.getD t undef
          by_cases htl : t < a1.tmps.size
          · have e2 : (putL h.deps (fun t => a.tmps.getD t undef) a1).tmps.getD t undef = if t ∈ h.deps then a.tmps.getD t undef else a1.tmps.getD t undef := by
              rw [Array.getD_eq_getD_getElem?, putL_get _ t _ _ htl]
              by_cases hnd : t ∈ h.deps
              · rw [if_pos hnd, if_pos hnd]; rfl
              · rw [if_neg hnd, if_neg hnd, Array.getD_eq_getD_getElem?]
            rw [e2]
            by_cases hnd : t ∈ h.deps
            · rw [if_pos hnd]
            · rw [if_neg hnd]
              refine getD_of_get? (inv.other t (fun k hk e => ?_))
              rcases g3 k hk with h3 | h3
              · exfalso
                have hmem : t ∈ tmpsOf oj := List.mem_filterMap.2 ⟨.tmp t, by simpa using hx, rfl⟩
                rw [e] at h3
                have : (tmpsOf oj).contains t = true := by simpa using hmem
                rw [this] at h3
                cases h3
              · rw [e] at h3
                exact absurd (by simpa using h3) hnd
          · rw [Array.getD_eq_getD_getElem?, Array.getD_eq_getD_getElem?, Array.getElem?_eq_none (by rw [inv.size]; exact Nat.le_of_not_lt htl), Array.getElem?_eq_none (by rw [(putL_size _ _ _).1]; exact Nat.le_of_not_lt htl)]
        | _ => rfl
      have hwp := freeW_mem hst h hh oj ho (fun t => a.tmps.getD t undef) w inv.cls (fun d hd => by
        obtain ⟨k, hk, e, hl⟩ := hdeps d hd
        have := inv.spec k hk hl
        rwa [e] at this) (fun v w' => S h.slot v w' ∧ R w w') (fun v w' h1 h2 => ⟨h1, h2⟩)
      -- the next state
      have hnext : ∀ u w', (S h.slot (((putL h.deps (fun t => a.tmps.getD t undef) a1).put oj.dst u).tmps.getD h.slot undef) w' ∧ R w w') → wpC P md ops C Q (f + ts.length) (listed.setIfInBounds h.idx true) (a.put oj.dst u) w' := fun u w' ⟨e2, e3⟩ => by
        rw [g2] at e2 ⊢
        have hsl := hsz h hh
        have huv : ((putL h.deps (fun t => a.tmps.getD t undef) a1).put (some h.slot) u).tmps.getD h.slot undef = u := by
          have hb : h.slot < (putL h.deps (fun t => a.tmps.getD t undef) a1).tmps.size := by rw [(putL_size _ _ _).1]; exact hsl
          generalize putL h.deps (fun t => a.tmps.getD t undef) a1 = b at hb
          simp [Act.put, hb]
        rw [huv] at e2
        have hlt : h.idx < listed.size := by
          rcases Nat.lt_or_ge h.idx listed.size with h' | h'
          · exact h'
          · simp [Array.getElem?_eq_none h'] at hun
        have hset : ∀ j, (listed.setIfInBounds h.idx true).getD j false = if j = h.idx then true else listed.getD j false := fun j => by
          by_cases e : j = h.idx
          · subst e; simp [hlt]
          · rw [if_neg e, getD_set_ne false (fun e' => e e'.symm)]
        refine wpC_free hsel hsp hsz hS hR hst hfin f _ _ _ hB2 ⟨inv.defers, by simp [Act.put, inv.size], fun t ht => ?_, fun k hk hl => ?_, hR _ _ inv.cls e3⟩
        · have hne : h.slot ≠ t := fun e => by
            have := ht h hh e
            rw [hset, if_pos rfl] at this
            cases this
          have h1 : (a.put (some h.slot) u).tmps[t]? = a.tmps[t]? := by
            simp only [Act.put]
            exact Array.getElem?_setIfInBounds_ne hne
          rw [h1]
          refine inv.other t (fun k hk e => ?_)
          have := ht k hk e
          rw [hset] at this
          split at this
          · cases this
          · exact this
        · by_cases e : k.idx = h.idx
          · have e' : k.slot = h.slot := by
              have h1 := q3 k hk
              rw [beq_iff_eq] at h1
              have h2 : (h.idx == k.idx) = true := by simp [e]
              rw [h2] at h1
              have := h1.symm
              simp only [beq_iff_eq] at this
              exact this.symm
            rw [e']
            have : (a.put (some h.slot) u).tmps.getD h.slot undef = u := by
              simp [Act.put, inv.size, hsl]
            rw [this]
            exact e2
          · have e' : k.slot ≠ h.slot := fun e' => by
              have h1 := q3 k hk
              rw [beq_iff_eq] at h1
              have h2 : (h.slot == k.slot) = true := by simp [e']
              rw [h2] at h1
              simp only [beq_iff_eq] at h1
              exact e h1.symm
            rw [hset, if_neg e] at hl
            have h1 : (a.put (some h.slot) u).tmps.getD k.slot undef = a.tmps.getD k.slot undef := getD_of_get? (by
              simp only [Act.put]
              exact Array.getElem?_setIfInBounds_ne (fun e => e' e.symm))
            rw [h1]
            exact hS _ _ _ _ (inv.spec k hk hl) e3
      unfold wpOp
      simp only [ho]
      have hw : Region.wanted oj (yielded ops a.tmps) = true := by unfold Region.wanted; rw [g1]
      simp only [hw, if_true]
      refine .inl ?_
      unfold Oper.wp at hwp ⊢
      rw [hev]
      generalize (execOp (putL h.deps (fun t => a.tmps.getD t undef) a1).eval oj).run P w = r at *
      cases r with
      | ok n w' =>
        cases n <;> simp only [Oper.upon] at hwp ⊢
        case value u => exact hnext u w' hwp.2
        case skip => exact hnext _ w' hwp.2
        case defer d =>
          obtain ⟨e1, -⟩ := hwp
          exfalso
          have e2 := (putL_size (fun t => a.tmps.getD t undef) h.deps a1).2
          generalize putL h.deps (fun t => a.tmps.getD t undef) a1 = b at e1 e2
          have := congrArg List.length e1
          rw [g2] at this
          simp [Act.put, e2] at this
        case enter f' args =>
          refine Calls.mono hwp fun e w'' he => ?_
          cases e with
          | returned u => exact hnext u w'' he.2
          | panicked c => exact he
          | outgrown => exact he
        case row row args => exact Rows.mono hwp fun u w'' he => hnext u w'' he.2
      | halt x w' => cases x <;> simp only [Oper.upon] at hwp <;> exact hwp.elim

/-- The reads, the free operations, the rest. -/
def regionFreeOk (ops : Array Oper) (hs : List FO) (ts : List (Bool × Nat)) : List Nat → Array Bool → Bool
  | [], listed => (hs.all fun h => !listed.getD h.idx false) && freeOk .any ops hs ts hs.length listed
  | k :: rest, listed => (Region.ready .any ops listed).contains k && Region.free .any ops listed k && regionFreeOk ops hs ts rest (listed.setIfInBounds k true)
theorem wpC_reads {Q : Act → World → Prop} {hs : List FO} {ts : List (Bool × Nat)} (hsel : Region.noSelect ops = true) (hsp : specOk .any ops hs = true)
    (hS : ∀ t v w w', S t v w → R w w' → S t v w') (hR : ∀ w w', C w → R w w' → C w') (w : World) (hC : C w) : ∀ (rs : List Nat) (listed : Array Bool) (a : Act), regionFreeOk ops hs ts rs listed = true →
    headW P ops C (fun a1 => (∀ h ∈ hs, h.slot < a1.tmps.size) ∧ freeW P ops C S R a1 hs ∧ ∀ vs w, C w → (∀ h ∈ hs, S h.slot (vs h.slot) w) → walkW P ops Q ts C (putL (hs.map FO.slot) vs a1) w) rs a → wpC P .any ops C Q (rs.length + (hs.length + ts.length)) listed a w
  | [], listed, a, hB, h => by
    simp only [regionFreeOk, Bool.and_eq_true, List.all_eq_true, Bool.not_eq_true'] at hB
    obtain ⟨h1, h2, h3⟩ := h
    rw [List.length_nil, Nat.zero_add]
    exact wpC_free hsel hsp h1 hS hR h2 h3 _ _ _ _ hB.2 ⟨rfl, rfl, fun _ _ => rfl, fun k hk hl => (by rw [hB.1 k hk] at hl; cases hl), hC⟩
  | k :: rest, listed, a, hB, h => by
    simp only [regionFreeOk, Bool.and_eq_true] at hB
    obtain ⟨⟨hr, hf⟩, hB'⟩ := hB
    obtain ⟨o, v, ho, hy, h⟩ := h
    rw [List.length_cons, show rest.length + 1 + (hs.length + ts.length) = (rest.length + (hs.length + ts.length)) + 1 by omega]
    exact wpC_first ho (Region.noSelect_spec hsel) _ listed a w (Region.free_spec ho hf) (by simpa using hr) hy (wpC_reads hsel hsp hS hR w hC rest _ _ hB' h)
def regFreeOk (ops : Array Oper) (rs : List Nat) (hs : List FO) (ts : List (Bool × Nat)) : Bool := Region.noSelect ops && decide (rs.length + (hs.length + ts.length) = ops.size) && specOk .any ops hs && regionFreeOk ops hs ts rs (Array.replicate ops.size false)
theorem wp_region_free {id : Nat} {Q : Exit → Act → World → Prop} {a : Act} {w : World} {l : List Oper} (rs : List Nat) (hs : List FO) (ts : List (Bool × Nat)) (C : World → Prop) (S : Nat → Value → World → Prop) (R : World → World → Prop) (hm : P.follows .mixedOrders = true) (hB : regFreeOk l.toArray rs hs ts = true) (hC : C w.drew)
    (hS : ∀ t v w w', S t v w → R w w' → S t v w') (hR : ∀ w w', C w → R w w' → C w')
    (h : headW P l.toArray C (fun a1 => (∀ h ∈ hs, h.slot < a1.tmps.size) ∧ freeW P l.toArray C S R a1 hs ∧ ∀ vs w, C w → (∀ h ∈ hs, S h.slot (vs h.slot) w) → walkW P l.toArray (fun a w => Q .normal a w) ts C (putL (hs.map FO.slot) vs a1) w) rs a) : (Code.region id l.toArray true).wp P Q a w := by
  simp only [regFreeOk, Bool.and_eq_true, decide_eq_true_eq] at hB
  obtain ⟨⟨⟨hsel, hlen⟩, hsp⟩, hB⟩ := hB
  refine wp_region_any hm (wpAny_of_wpC (C := C) (Q := fun a w => Q .normal a w) (fun _ _ h => h) _ _ _ _ ?_)
  rw [← hlen]
  exact wpC_reads hsel hsp hS hR w.drew hC rs _ a (by rw [hlen]; exact hB) h
end
end Go.Proofs.YtiacdkggbnoigaaGreatDoor

/-
  The reference's order of nodes, clockwise from a point.
-/
namespace Go.Proofs.YtiacdkggbnoigaaGreatDoor
open Go.RowKit Go.Shelf

/-- Numbers in a slice of their own. -/
def OwnI (w : World) (l : List Int) (v : Value) (W : World) : Prop := Keep (fun _ => False) w W ∧ W.ownsRow w.heap.size 3 1 v l.length (l.map (fun x => Value.int .i64 x))
theorem OwnI.nil {w W : World} (k : Keep (fun _ => False) w W) : OwnI w [] (.slice none 0 0) W := ⟨k, by simpa using World.ownsRow_nil W w.heap.size 3 1⟩
theorem OwnI.keep {w W W' : World} {l : List Int} {v : Value} (h : OwnI w l v W) (k : Keep (fun _ => False) W W') : OwnI w l v W' := ⟨h.1.trans k, ownsRow_keep h.2 k (fun _ _ h => h)⟩
theorem OwnI.snoc {w W : World} {l : List Int} {v : Value} (h : OwnI w l v W) (x : Int) (hl : l.length ≤ 100000) :
    ∃ v' w', (Builtin.append_ #[23, 23] 23 #[v, .slice (some ⟨W.heap.size, 0, none⟩) 1 1]).run Tryz.prog (W.alloc (.cells #[.int .i64 x] 3)) = .ok v' w' ∧ OwnI w (l ++ [x]) v' w' ∧ Keep (fun j => v.ownBlock = some j) W w' ∧ (v'.ownBlock = v.ownBlock ∨ v'.ownBlock = some (W.heap.size + 1)) := by
  obtain ⟨v', w', r1, r2, r3, r4, g, c, r5⟩ := app_one 23 3 1 8 _ Tryz.underlying23 infoInt rfl (by decide) (by decide) W 23 w.heap.size v l.length (l.map (fun x => Value.int .i64 x)) [.int .i64 x] h.2 rfl (by simp [Value.oneCell']) (by omega) h.1.size
  refine ⟨v', w', r1, ⟨h.1.trans' r3 (fun j e => .inr (h.2.lt j e).1), ?_⟩, r3, r4⟩
  rw [List.map_append, List.length_append]
  exact r2
/-- More numbers, out of another slice of its own. -/
theorem OwnI.more {w W : World} {l l' : List Int} {v v2 : Value} (h : OwnI w l v W) (h2 : OwnI w l' v2 W) (hl : l.length + l'.length ≤ 100000) :
    ∃ v' w', (Builtin.append_ #[23, 23] 23 #[v, v2]).run Tryz.prog W = .ok v' w' ∧ OwnI w (l ++ l') v' w' ∧ Keep (fun j => v.ownBlock = some j) W w' := by
  obtain ⟨i0, hi, hz0, hz1, hz2⟩ := info_parts infoInt
  have h2' := h2
  rcases h2.2.2 with ⟨rfl, e0⟩ | ⟨g, c, cur, rfl, _⟩
  · have : l' = [] := List.eq_nil_of_length_eq_zero e0
    subst this
    exact ⟨v, W, run_append_owned_none W w.heap.size 23 23 3 i0 1 Tryz.underlying23 hi v l.length _ h.2, by rw [List.append_nil]; exact h, Keep.refl _ W⟩
  · obtain ⟨v', w', r1, r2, r3, r4, r5⟩ := run_append_own_at (P := Tryz.prog) W w.heap.size 23 23 3 i0 _ 1 8 Tryz.underlying23 hi hz0 hz1 hz2 rfl (by decide) v l.length _ h.2 ⟨g, 0, none⟩ l'.length c (l'.map (fun x => Value.int .i64 x)) (by simp)
      (fun j u hj => h2'.2.cells rfl j u hj)
      (by
        intro u hu
        obtain ⟨x, _, rfl⟩ := List.mem_map.1 hu
        rfl) (by unfold maxLen; omega) (by omega) h.1.size
    refine ⟨v', w', r1, ⟨h.1.trans' (Keep.of_grown r3) (fun j e => .inr (h.2.lt j e).1), ?_⟩, Keep.of_grown r3⟩
    rw [List.map_append, List.length_append]
    exact r2
theorem OwnI.slice {w W : World} {l : List Int} {v : Value} (h : OwnI w l v W) : ∃ a n c, v = .slice a n c ∧ n = l.length := by
  rcases h.2.2 with ⟨h1, h2⟩ | ⟨g, c, cur, h1, _⟩
  · exact ⟨_, _, _, h1, h2.symm⟩
  · exact ⟨_, _, _, h1, rfl⟩

/-- The first i points: those from p on, and those below. -/
def hiN (c : List Mk) (p : Int) (i : Nat) : List Int := ((c.take i).filter (fun x => decide (p ≤ x.point))).map Mk.node
def loN (c : List Mk) (p : Int) (i : Nat) : List Int := ((c.take i).filter (fun x => decide (x.point < p))).map Mk.node
theorem hiN_zero (c : List Mk) (p : Int) : hiN c p 0 = [] := by simp [hiN]
theorem loN_zero (c : List Mk) (p : Int) : loN c p 0 = [] := by simp [loN]
theorem hiN_succ {c : List Mk} {p : Int} {i : Nat} {x : Mk} (h : c[i]? = some x) : hiN c p (i + 1) = hiN c p i ++ (if p ≤ x.point then [x.node] else []) := by
  unfold hiN
  rw [List.take_add_one, h, List.filter_append, List.map_append]
  by_cases e : p ≤ x.point <;> simp [e]
theorem loN_succ {c : List Mk} {p : Int} {i : Nat} {x : Mk} (h : c[i]? = some x) : loN c p (i + 1) = loN c p i ++ (if x.point < p then [x.node] else []) := by
  unfold loN
  rw [List.take_add_one, h, List.filter_append, List.map_append]
  by_cases e : x.point < p <;> simp [e]
theorem hiN_len (c : List Mk) (p : Int) (i : Nat) : (hiN c p i).length ≤ c.length := by
  unfold hiN
  rw [List.length_map]
  exact Nat.le_trans (List.length_filter_le _ _) (by rw [List.length_take]; omega)
theorem loN_len (c : List Mk) (p : Int) (i : Nat) : (loN c p i).length ≤ c.length := by
  unfold loN
  rw [List.length_map]
  exact Nat.le_trans (List.length_filter_le _ _) (by rw [List.length_take]; omega)
theorem ords_hilo (l : List Mb) (p : Int) {i : Nat} (hi : (circ PN l).length ≤ i) : ords PN l p = hiN (circ PN l) p i ++ loN (circ PN l) p i := by
  unfold ords rot hiN loN
  rw [List.take_of_length_le hi, List.map_append]
theorem circ_len {l : List Mb} (hv : VL l) : (circ PN l).length ≤ 1536 := by
  have h1 := draws_len PN l hv.ok
  have h2 := hv.wsum
  have h3 := (sortMk_perm (draws PN l)).length_eq
  unfold circ
  omega

set_option maxRecDepth 100000 in
set_option maxHeartbeats 4000000 in
theorem clockwise_any (v : Value) (l : List Mb) (p : Int) (w : World) (h : Mbs w v l) (hv : VL l) : Calls Tryz.prog 42 #[v, .int .i64 p] w fun e w' => ∃ vo, e = .returned vo ∧ OwnI w (ords PN l p) vo w' := by
  have HSP := Lib.hid (spots_any v l w h hv)
  have HCL := Lib.hid (circ_len hv)
  obtain ⟨va, vn, vc, rfl⟩ : ∃ a n c, v = .slice a n c := by
    obtain ⟨a, c, b, off, h1, _⟩ := h.at_
    exact ⟨_, _, _, h1⟩
  clear h hv
  go_enter Tryz.func42, Tryz.ntmps42
  go_wp2_with fail
  with_reducible refine HSP.out.mono ?_
  rintro e W1 ⟨vs, rfl, hos⟩
  have HO := Lib.hid hos
  clear hos HSP
  obtain ⟨c, hc⟩ : ∃ c, circ PN l = c := ⟨_, rfl⟩
  have HC := Lib.hid hc
  rw [hc] at HO HCL
  clear hc
  obtain ⟨sa, sc, sb, hse, hsa⟩ : ∃ (a : Option Addr) (cc b : Nat), vs = .slice a c.length cc ∧ (0 < c.length → a = some ⟨b, 0, none⟩) := by
    rcases HO.out.form with ⟨h1, h2⟩ | ⟨b, cc, h1⟩
    · exact ⟨none, 0, 0, by rw [h1, h2]; rfl, fun h => by rw [h2] at h; simp at h⟩
    · exact ⟨_, cc, b, h1, fun _ => rfl⟩
  subst hse
  have HSA := Lib.hid hsa
  clear hsa
  obtain ⟨n, hn⟩ : ∃ n, c.length = n := ⟨_, rfl⟩
  have HN := Lib.hid hn
  rw [hn] at HSA HCL ⊢
  have hn2 : n ≤ 1536 := HCL.out
  clear hn
  go_wp2_with fail
  go_loopg [6, 7, 8] n (fun gh v6 v7 v8 wr => ∃ (i : Nat), gh + i = n ∧ v8 = .int .i64 i ∧ OwnI W1 (hiN c p i) v6 wr ∧ OwnI W1 (loN c p i) v7 wr ∧ (∀ b, v6.ownBlock = some b → v7.ownBlock ≠ some b))
  case atStart => exact ⟨0, by omega, rfl, by rw [hiN_zero]; exact OwnI.nil (Keep.refl _ _), by rw [loN_zero]; exact OwnI.nil (Keep.refl _ _), fun b hb => by cases hb⟩
  case round =>
    obtain ⟨i, hi, rfl, h1, h2, hne⟩ := hrel
    have H1 := Lib.hid h1
    have H2 := Lib.hid h2
    have HNE := Lib.hid hne
    clear h1 h2 hne
    by_cases hlt : i < n
    · obtain ⟨x, hx⟩ : ∃ x, c[i]? = some x := ⟨_, List.getElem?_eq_getElem (by rw [HN.out]; exact hlt)⟩
      obtain rfl := HSA.out (by omega)
      have hcx0 : W1.cell? ⟨sb, i * 2, none⟩ = some (.int .i64 x.point) := by
        have h3 := HO.out.2
        rw [HN.out] at h3
        rw [h3.cellAt (i * 2) (by omega)]
        exact flat_get encSp_len c i x 0 hx (by decide)
      have hcx1 : W1.cell? ⟨sb, i * 2 + 1, none⟩ = some (.int .i64 x.node) := by
        have h3 := HO.out.2
        rw [HN.out] at h3
        rw [h3.cellAt (i * 2 + 1) (by omega)]
        exact flat_get encSp_len c i x 1 hx (by decide)
      have c0 := H1.out.1.cell hcx0 (fun h => h)
      have c1 := H1.out.1.cell hcx1 (fun h => h)
      have HHS := Lib.hid (hiN_succ (p := p) hx)
      have HLS := Lib.hid (loN_succ (p := p) hx)
      have HL1 := Lib.hid (hiN_len c p i)
      have HL2 := Lib.hid (loN_len c p i)
      have hkz : (i : Int) < (n : Int) := by omega
      have hk0 : (0 : Int) ≤ (i : Int) := by omega
      clear hx hcx0 hcx1
      obtain ⟨xp, xn, xi⟩ := x
      simp only [] at c0 c1 HHS HLS
      by_cases hp : p ≤ xp
      · have HHS' : Hid (hiN c p (i + 1) = hiN c p i ++ [xn]) := Lib.hid (by rw [HHS.out, if_pos hp])
        have HLS' : Hid (loN c p (i + 1) = loN c p i) := Lib.hid (by rw [HLS.out, if_neg (by omega), List.append_nil])
        obtain ⟨v', W2, hr, how2, hk2, hob⟩ := H1.out.snoc xn (by have := HL1.out; have := HN.out; omega)
        have HR := Lib.hid hr
        have HN1 : Hid (OwnI W1 (hiN c p (i + 1)) v' W2) := Lib.hid (by rw [HHS'.out]; exact how2)
        have HN2 : Hid (OwnI W1 (loN c p (i + 1)) u7 W2) := Lib.hid (by
          rw [HLS'.out]
          exact ⟨how2.1, ownsRow_keep H2.out.2 hk2 (fun b hb e => HNE.out b e hb)⟩)
        have HNE2 : Hid (∀ b, v'.ownBlock = some b → u7.ownBlock ≠ some b) := Lib.hid (fun b hb e => by
          rcases hob with hob | hob
          · exact HNE.out b (hob ▸ hb) e
          · rw [hob] at hb
            cases hb
            have := (H2.out.2.lt _ e).2
            omega)
        clear hr how2 hk2 hob
        go_wp2_with (at_builtin; refine wpList_app rfl (.tmp 24) (.tmp 30) 23 rfl rfl rfl HR.out ?_)
        clear c0 c1
        go_roundg (gk - 1)
        case rel => exact ⟨i + 1, by omega, by go_num, HN1.out, HN2.out, HNE2.out⟩
        case measure => omega
      · have HHS' : Hid (hiN c p (i + 1) = hiN c p i) := Lib.hid (by rw [HHS.out, if_neg hp, List.append_nil])
        have HLS' : Hid (loN c p (i + 1) = loN c p i ++ [xn]) := Lib.hid (by rw [HLS.out, if_pos (by omega)])
        obtain ⟨v', W2, hr, how2, hk2, hob⟩ := H2.out.snoc xn (by have := HL2.out; have := HN.out; omega)
        have HR := Lib.hid hr
        have HN2 : Hid (OwnI W1 (loN c p (i + 1)) v' W2) := Lib.hid (by rw [HLS'.out]; exact how2)
        have HN1 : Hid (OwnI W1 (hiN c p (i + 1)) u6 W2) := Lib.hid (by
          rw [HHS'.out]
          exact ⟨how2.1, ownsRow_keep H1.out.2 hk2 (fun b hb e => HNE.out b hb e)⟩)
        have HNE2 : Hid (∀ b, u6.ownBlock = some b → v'.ownBlock ≠ some b) := Lib.hid (fun b hb e => by
          rcases hob with hob | hob
          · exact HNE.out b hb (hob ▸ e)
          · rw [hob] at e
            cases e
            have := (H1.out.2.lt _ hb).2
            omega)
        clear hr how2 hk2 hob
        go_wp2_with (at_builtin; refine wpList_app rfl (.tmp 32) (.tmp 38) 23 rfl rfl rfl HR.out ?_)
        clear c0 c1
        go_roundg (gk - 1)
        case rel => exact ⟨i + 1, by omega, by go_num, HN1.out, HN2.out, HNE2.out⟩
        case measure => omega
    · obtain rfl : i = n := by omega
      obtain ⟨v', W2, hr, how2, hk2⟩ := H1.out.more H2.out (by have := hiN_len c p i; have := loN_len c p i; have := HN.out; omega)
      have HR := Lib.hid hr
      have HE : Hid (OwnI w (ords PN l p) v' W2) := Lib.hid (by
        rw [ords_hilo l p (i := i) (by rw [HC.out, HN.out]; exact Nat.le_refl _), HC.out]
        exact ⟨HO.out.1.trans how2.1, ownsRow_lo how2.2 HO.out.1.size⟩)
      clear hr how2 hk2
      go_wp2_with (at_builtin; refine wpList_app rfl (.tmp 40) (.tmp 41) 23 rfl rfl rfl HR.out ?_)
      go_ret
      exact ⟨_, rfl, HE.out⟩
end Go.Proofs.YtiacdkggbnoigaaGreatDoor

/-
  The reference's within, Valid, Limit, Slot, Load, Owner.
-/
namespace Go.Proofs.YtiacdkggbnoigaaGreatDoor
open Go.RowKit Go.Shelf

set_option maxRecDepth 100000 in
theorem rwithin_b (n lo hi : Int) (b : Bool) (h : decide (lo ≤ n ∧ n ≤ hi) = b) (w : World) : Calls Tryz.prog 64 #[.int .i64 n, .int .i64 lo, .int .i64 hi] w fun e w' => e = .returned (.bool b) ∧ w = w' := by
  by_cases h1 : lo ≤ n
  · by_cases h2 : n ≤ hi
    · obtain rfl : true = b := by rw [← h, decide_eq_true ⟨h1, h2⟩]
      clear h
      go_enter Tryz.func64, Tryz.ntmps64
      go_wp2
      go_ret
      exact ⟨by simp, rfl⟩
    · obtain rfl : false = b := by rw [← h, decide_eq_false (fun e => h2 e.2)]
      clear h
      go_enter Tryz.func64, Tryz.ntmps64
      go_wp2
      go_ret
      exact ⟨by simp, rfl⟩
  · obtain rfl : false = b := by rw [← h, decide_eq_false (fun e => h1 e.1)]
    clear h
    go_enter Tryz.func64, Tryz.ntmps64
    go_wp2
    go_ret
    exact ⟨rfl, rfl⟩

/-- The first k members are in order. -/
def goodK (l : List Mb) (k : Nat) : Prop := ∀ i m, i < k → l[i]? = some m → okMb m ∧ ∀ p, 1 ≤ i → l[i - 1]? = some p → p.node < m.node
theorem goodK_all {l : List Mb} (h1 : 1 ≤ l.length) (h : goodK l l.length) : VL l := by
  refine ⟨fun m hm => ?_, ?_, fun e => by rw [e] at h1; simp at h1⟩
  · obtain ⟨i, hi⟩ := List.mem_iff_getElem?.1 hm
    exact (h i m (List.getElem?_eq_some_iff.1 hi).1 hi).1
  · rw [List.pairwise_iff_getElem]
    intro i j hi hj hij
    obtain ⟨d, rfl⟩ : ∃ d, j = i + 1 + d := ⟨j - i - 1, by omega⟩
    induction d with
    | zero =>
      have := (h (i + 1) _ hj (List.getElem?_eq_getElem hj)).2 l[i] (by omega) (by rw [Nat.add_sub_cancel]; exact List.getElem?_eq_getElem hi)
      simpa using this
    | succ d ih =>
      have h1 := ih (by omega) (by omega)
      have h2 := (h (i + 1 + (d + 1)) _ hj (List.getElem?_eq_getElem hj)).2 (l[i + 1 + d]'(by omega)) (by omega) (by rw [show i + 1 + (d + 1) - 1 = i + 1 + d by omega]; exact List.getElem?_eq_getElem (by omega))
      omega
theorem VL.good {l : List Mb} (h : VL l) (k : Nat) : goodK l k := by
  intro i m _ hm
  refine ⟨h.ok m (List.mem_of_getElem? hm), fun p h1 hp => ?_⟩
  obtain ⟨hi, rfl⟩ := List.getElem?_eq_some_iff.1 hm
  obtain ⟨hj, rfl⟩ := List.getElem?_eq_some_iff.1 hp
  exact List.pairwise_iff_getElem.1 h.asc _ _ hj hi (by omega)
theorem validL_false {l : List Mb} (h : ¬ VL l) : validL l = false := by
  cases e : validL l with
  | false => rfl
  | true => exact absurd ((validL_iff l).1 e) h

set_option maxRecDepth 100000 in
set_option maxHeartbeats 4000000 in
theorem refValid_any (v : Value) (l : List Mb) (w : World) (h : Mbs w v l) : Calls Tryz.prog 40 #[v] w fun e w' => e = .returned (.bool (validL l)) ∧ Keep (fun _ => False) w w' := by
  obtain ⟨hn, -, a, c, b, off, rfl, hc, ha, hcell⟩ := h
  have HC := Lib.hid hcell
  have HA := Lib.hid ha
  clear hcell ha
  obtain ⟨n, hn'⟩ : ∃ n, l.length = n := ⟨_, rfl⟩
  have HL := Lib.hid hn'
  rw [hn'] at hn hc ⊢
  clear hn'
  by_cases hlen : 1 ≤ (n : Int) ∧ (n : Int) ≤ 24
  · have HW : Hid (∀ W, Calls Tryz.prog 64 #[.int .i64 (n : Int), .int .i64 1, .int .i64 24] W fun e w' => e = .returned (.bool true) ∧ W = w') := Lib.hid (fun W => rwithin_b n 1 24 true (decide_eq_true hlen) W)
    go_enter Tryz.func40, Tryz.ntmps40
    go_wp2_with fail
    with_reducible refine (HW.out _).mono ?_
    rintro e w' ⟨rfl, rfl⟩
    clear HW
    go_wp2_with fail
    go_loopg [3] n (fun gh v wr => ∃ (k : Nat), gh + k = n ∧ v = .int .i64 k ∧ goodK l k ∧ Keep (fun _ => False) w wr)
    case atStart => exact ⟨0, by omega, rfl, fun i m h => absurd h (by omega), Keep.refl _ _⟩
    case round =>
      obtain ⟨k, hk, rfl, hgood, hkeep⟩ := hrel
      have HG := Lib.hid hgood
      have HK := Lib.hid hkeep
      clear hgood hkeep
      by_cases hlt : k < n
      · obtain ⟨m, hm⟩ : ∃ m, l[k]? = some m := ⟨_, List.getElem?_eq_getElem (by have := HL.out; omega)⟩
        obtain rfl := HA.out (by have := HL.out; omega)
        have c0 := HK.out.cell (HC.out k m hm).1 (fun h => h)
        have c1 := HK.out.cell (HC.out k m hm).2.1 (fun h => h)
        have c2 := HK.out.cell (HC.out k m hm).2.2 (fun h => h)
        have HM := Lib.hid hm
        have hkz : (k : Int) < (n : Int) := by omega
        have hk0 : (0 : Int) ≤ (k : Int) := by omega
        clear hm
        obtain ⟨mn, mr, mw⟩ := m
        simp only [] at c0 c1 c2
        have HK2 : Hid (Keep (fun _ => False) wr (wr.alloc (.cells #[.int .i64 mn, .int .i64 mr, .int .i64 mw] 44))) := Lib.hid ((Keep.refl _ wr).alloc _)
        have HT3 := Lib.hid (three_cell wr (.int .i64 mn) (.int .i64 mr) (.int .i64 mw) 44)
        go_wp2_with fail
        clear c0 c1 c2
        generalize wr.alloc (.cells #[.int .i64 mn, .int .i64 mr, .int .i64 mw] 44) = W2 at *
        generalize wr.heap.size = z at *
        have d0 : W2.cell? ⟨z, 0, none⟩ = some (.int .i64 mn) := HT3.out.1
        have d1 : W2.cell? ⟨z, 1, none⟩ = some (.int .i64 mr) := HT3.out.2.1
        have d2 : W2.cell? ⟨z, 2, none⟩ = some (.int .i64 mw) := HT3.out.2.2.1
        have HKK := Lib.hid (HK.out.trans HK2.out)
        by_cases h1 : 0 ≤ mn ∧ mn ≤ 23
        · have H1 : Hid (∀ W, Calls Tryz.prog 64 #[.int .i64 mn, .int .i64 0, .int .i64 23] W fun e w' => e = .returned (.bool true) ∧ W = w') := Lib.hid (fun W => rwithin_b mn 0 23 true (decide_eq_true h1) W)
          by_cases h2 : 0 ≤ mr ∧ mr ≤ 3
          · have H2 : Hid (∀ W, Calls Tryz.prog 64 #[.int .i64 mr, .int .i64 0, .int .i64 3] W fun e w' => e = .returned (.bool true) ∧ W = w') := Lib.hid (fun W => rwithin_b mr 0 3 true (decide_eq_true h2) W)
            by_cases h3 : 1 ≤ mw ∧ mw ≤ 16
            · have H3 : Hid (∀ W, Calls Tryz.prog 64 #[.int .i64 mw, .int .i64 1, .int .i64 16] W fun e w' => e = .returned (.bool true) ∧ W = w') := Lib.hid (fun W => rwithin_b mw 1 16 true (decide_eq_true h3) W)
              have HOK : Hid (okMb ⟨mn, mr, mw⟩) := Lib.hid (by unfold okMb; simp only []; omega)
              clear h1 h2 h3
              by_cases hk1 : k = 0
              · subst hk1
                have HN : Hid (goodK l (0 + 1)) := Lib.hid (fun i m hi hm => by
                  obtain rfl : i = 0 := by omega
                  rw [HM.out] at hm
                  cases hm
                  exact ⟨HOK.out, fun p h => absurd h (by omega)⟩)
                go_quiet (first | (go_at_call 64; with_reducible exact quiet_same (H1.out _)) | (go_at_call 64; with_reducible exact quiet_same (H2.out _)) | (go_at_call 64; with_reducible exact quiet_same (H3.out _)))
                go_wp2_with fail
                go_roundg (gk - 1)
                case rel => exact ⟨0 + 1, by omega, by go_num, HN.out, HKK.out.drewN _⟩
                case measure => omega
              · obtain ⟨q, rfl⟩ : ∃ q, k = q + 1 := ⟨k - 1, by omega⟩
                clear hk1
                obtain ⟨p, hp⟩ : ∃ p, l[q]? = some p := ⟨_, List.getElem?_eq_getElem (by have := HL.out; omega)⟩
                have p0 := HKK.out.cell (HC.out q p hp).1 (fun h => h)
                have hqz : (q : Int) < (n : Int) := by omega
                have hq0 : (0 : Int) ≤ (q : Int) := by omega
                have HP := Lib.hid hp
                clear hp
                obtain ⟨pn, pr, pw⟩ := p
                simp only [] at p0
                have ek : ((q + 1 : Nat) : Int) - 1 = (q : Int) := by omega
                have hgt : (0 : Int) < ((q + 1 : Nat) : Int) := by omega
                have hw1 : IntKind.i64.wrap (q : Int) = (q : Int) := wrapI (by unfold I64; omega)
                by_cases hlt2 : pn < mn
                · have HN : Hid (goodK l (q + 1 + 1)) := Lib.hid (fun i m hi hm => by
                    by_cases e : i < q + 1
                    · exact HG.out i m e hm
                    · obtain rfl : i = q + 1 := by omega
                      rw [HM.out] at hm
                      cases hm
                      refine ⟨HOK.out, fun p _ hp => ?_⟩
                      rw [Nat.add_sub_cancel, HP.out] at hp
                      cases hp
                      exact hlt2)
                  go_quiet (first | (go_at_call 64; with_reducible exact quiet_same (H1.out _)) | (go_at_call 64; with_reducible exact quiet_same (H2.out _)) | (go_at_call 64; with_reducible exact quiet_same (H3.out _)))
                  go_wp2_with fail
                  go_roundg (gk - 1)
                  case rel => exact ⟨q + 1 + 1, by omega, by go_num, HN.out, HKK.out.drewN _⟩
                  case measure => omega
                · have HF : Hid (validL l = false) := Lib.hid (validL_false (fun hv => by
                    have := (hv.good (q + 2) (q + 1) _ (by omega) HM.out).2 _ (by omega) (by rw [Nat.add_sub_cancel]; exact HP.out)
                    exact hlt2 this))
                  go_quiet (first | (go_at_call 64; with_reducible exact quiet_same (H1.out _)) | (go_at_call 64; with_reducible exact quiet_same (H2.out _)) | (go_at_call 64; with_reducible exact quiet_same (H3.out _)))
                  go_wp2_with fail
                  go_ret
                  exact ⟨by rw [HF.out] <;> rfl, HKK.out.drewN _⟩
            · have H3 : Hid (∀ W, Calls Tryz.prog 64 #[.int .i64 mw, .int .i64 1, .int .i64 16] W fun e w' => e = .returned (.bool false) ∧ W = w') := Lib.hid (fun W => rwithin_b mw 1 16 false (decide_eq_false h3) W)
              have HF : Hid (validL l = false) := Lib.hid (validL_false (fun hv => by
                have := (hv.good (k + 1) k _ (by omega) HM.out).1
                unfold okMb at this
                simp only [] at this
                omega))
              clear h1 h2 h3
              go_quiet (first | (go_at_call 64; with_reducible exact quiet_same (H1.out _)) | (go_at_call 64; with_reducible exact quiet_same (H2.out _)) | (go_at_call 64; with_reducible exact quiet_same (H3.out _)))
              go_wp2_with fail
              go_ret
              exact ⟨by rw [HF.out] <;> rfl, HKK.out.drewN _⟩
          · have H2 : Hid (∀ W, Calls Tryz.prog 64 #[.int .i64 mr, .int .i64 0, .int .i64 3] W fun e w' => e = .returned (.bool false) ∧ W = w') := Lib.hid (fun W => rwithin_b mr 0 3 false (decide_eq_false h2) W)
            have HF : Hid (validL l = false) := Lib.hid (validL_false (fun hv => by
              have := (hv.good (k + 1) k _ (by omega) HM.out).1
              unfold okMb at this
              simp only [] at this
              omega))
            clear h1 h2
            go_quiet (first | (go_at_call 64; with_reducible exact quiet_same (H1.out _)) | (go_at_call 64; with_reducible exact quiet_same (H2.out _)))
            go_wp2_with fail
            go_ret
            exact ⟨by rw [HF.out] <;> rfl, HKK.out.drewN _⟩
        · have H1 : Hid (∀ W, Calls Tryz.prog 64 #[.int .i64 mn, .int .i64 0, .int .i64 23] W fun e w' => e = .returned (.bool false) ∧ W = w') := Lib.hid (fun W => rwithin_b mn 0 23 false (decide_eq_false h1) W)
          have HF : Hid (validL l = false) := Lib.hid (validL_false (fun hv => by
            have := (hv.good (k + 1) k _ (by omega) HM.out).1
            unfold okMb at this
            simp only [] at this
            omega))
          clear h1
          go_quiet ((go_at_call 64; with_reducible exact quiet_same (H1.out _)))
          go_wp2_with fail
          go_ret
          exact ⟨by rw [HF.out] <;> rfl, HKK.out.drewN _⟩
      · obtain rfl : k = n := by omega
        have HV : Hid (validL l = true) := Lib.hid ((validL_iff l).2 (goodK_all (by have := HL.out; omega) (by rw [HL.out]; exact HG.out)))
        go_wp2_with fail
        go_ret
        exact ⟨by rw [HV.out] <;> rfl, HK.out⟩
  · have HW : Hid (∀ W, Calls Tryz.prog 64 #[.int .i64 (n : Int), .int .i64 1, .int .i64 24] W fun e w' => e = .returned (.bool false) ∧ W = w') := Lib.hid (fun W => rwithin_b n 1 24 false (decide_eq_false hlen) W)
    have HF : Hid (validL l = false) := Lib.hid (validL_false (fun hv => by
      have h1 := hv.len
      have h2 : 0 < l.length := List.length_pos_iff.2 hv.ne
      have h3 := HL.out
      omega))
    go_enter Tryz.func40, Tryz.ntmps40
    go_wp2_with fail
    with_reducible refine (HW.out _).mono ?_
    rintro e w' ⟨rfl, rfl⟩
    go_wp2_with fail
    go_ret
    exact ⟨by rw [HF.out] <;> rfl, Keep.refl _ w⟩

/-- The weight of the last one of a node. -/
def ownW (l : List Mb) (n : Int) (k : Nat) : Int := match findN ((l.take k).reverse) n with | some m => m.weight | none => 0
theorem ownW_zero (l : List Mb) (n : Int) : ownW l n 0 = 0 := by unfold ownW findN; simp
theorem ownW_succ {l : List Mb} {k : Nat} {m : Mb} (h : l[k]? = some m) (n : Int) : ownW l n (k + 1) = if m.node = n then m.weight else ownW l n k := by
  unfold ownW findN
  rw [List.take_add_one, h]
  simp only [Option.toList_some, List.reverse_append, List.reverse_cons, List.reverse_nil, List.nil_append, List.singleton_append, List.find?_cons]
  by_cases e : m.node = n <;> simp [e]
theorem ownW_nn {l : List Mb} (hv : VL l) (n : Int) (k : Nat) : 0 ≤ ownW l n k ∧ ownW l n k ≤ 16 := by
  unfold ownW
  cases h : findN (l.take k).reverse n with
  | none => simp
  | some m =>
    have hm := (findN_some h).1
    have := hv.ok m (List.mem_of_mem_take (List.mem_reverse.1 hm))
    unfold okMb at this
    simp only []
    omega
theorem limit_ownW {l : List Mb} (hv : VL l) (n : Int) {k : Nat} (hk : l.length ≤ k) : limitL l n = (80 * ownW l n k + wsum l - 1).tdiv (wsum l) := by
  have hs := hv.wsum
  have hb := ownW_nn hv n k
  rw [Int.tdiv_eq_ediv_of_nonneg (by omega)]
  unfold ownW
  rw [List.take_of_length_le hk]
  cases h : findN l.reverse n with
  | none =>
    have hnone : ∀ m ∈ l, m.node ≠ n := fun m hm e => by
      unfold findN at h
      rw [List.find?_eq_none] at h
      exact h m (List.mem_reverse.2 hm) (by simpa using e)
    rw [limitL_none hnone]
    simp only []
    rw [Int.ediv_eq_zero_of_lt (by omega) (by omega)]
  | some m =>
    obtain ⟨hm, rfl⟩ := findN_some h
    rw [limitL_mem hv (List.mem_reverse.1 hm)]

set_option maxRecDepth 100000 in
set_option maxHeartbeats 2000000 in
theorem refLimit_any (v : Value) (l : List Mb) (w : World) (h : Mbs w v l) (q : Int) : Calls Tryz.prog 41 #[v, .int .i64 q] w fun e w' => e = .returned (.int .i64 (limitL l q)) ∧ Keep (fun _ => False) w w' := by
  have HVA := Lib.hid (refValid_any v l w h)
  obtain ⟨hn, -, a, c, b, off, rfl, hc, ha, hcell⟩ := h
  have HC := Lib.hid hcell
  have HA := Lib.hid ha
  clear hcell ha
  obtain ⟨n, hn'⟩ : ∃ n, l.length = n := ⟨_, rfl⟩
  have HL := Lib.hid hn'
  rw [hn'] at hn hc HVA ⊢
  clear hn'
  by_cases hv : VL l
  · have HV := Lib.hid hv
    have hws := hv.wsum
    rw [(validL_iff l).2 hv] at HVA
    clear hv
    go_enter Tryz.func41, Tryz.ntmps41
    go_wp2_with fail
    with_reducible refine HVA.out.mono ?_
    rintro e W1 ⟨rfl, k1⟩
    have HK1 := Lib.hid k1
    clear k1 HVA
    go_wp2_with fail
    go_loopg [5, 6, 7] n (fun gh v5 v6 v wr => ∃ (k : Nat), gh + k = n ∧ v = .int .i64 k ∧ v5 = .int .i64 (wsum (l.take k)) ∧ v6 = .int .i64 (ownW l q k) ∧ Keep (fun _ => False) w wr)
    case atStart => exact ⟨0, by omega, rfl, by simp [wsum], by rw [ownW_zero], HK1.out⟩
    case round =>
      obtain ⟨k, hk, rfl, rfl, rfl, hkeep⟩ := hrel
      have HK := Lib.hid hkeep
      clear hkeep
      have hwt := wsum_take HV.out.ok k
      have hob := ownW_nn HV.out q k
      by_cases hlt : k < n
      · obtain ⟨m, hm⟩ : ∃ m, l[k]? = some m := ⟨_, List.getElem?_eq_getElem (by have := HL.out; omega)⟩
        obtain rfl := HA.out (by have := HL.out; omega)
        have c0 := HK.out.cell (HC.out k m hm).1 (fun h => h)
        have c2 := HK.out.cell (HC.out k m hm).2.2 (fun h => h)
        have HWS := Lib.hid (wsum_succ hm)
        have HOW := Lib.hid (ownW_succ hm q)
        have hok := HV.out.ok m (List.mem_of_getElem? hm)
        unfold okMb at hok
        have hkz : (k : Int) < (n : Int) := by omega
        have hk0 : (0 : Int) ≤ (k : Int) := by omega
        clear hm
        obtain ⟨mn, mr, mw⟩ := m
        simp only [] at c0 c2 hok HWS HOW
        generalize wsum (l.take k) = s0 at *
        generalize ownW l q k = o0 at *
        generalize wsum l = sall at *
        have hws1 : IntKind.i64.wrap (s0 + mw) = s0 + mw := wrapI (by unfold I64; omega)
        by_cases hq : mn = q
        · have HOW2 : Hid (ownW l q (k + 1) = mw) := Lib.hid (by rw [HOW.out, if_pos hq])
          subst hq
          go_wp2_with fail
          clear c0 c2
          go_roundg (gk - 1)
          case rel => exact ⟨k + 1, by omega, by go_num, by rw [HWS.out], by rw [HOW2.out], HK.out⟩
          case measure => omega
        · have HOW2 : Hid (ownW l q (k + 1) = o0) := Lib.hid (by rw [HOW.out, if_neg hq])
          go_wp2_with fail
          clear c0 c2
          go_roundg (gk - 1)
          case rel => exact ⟨k + 1, by omega, by go_num, by rw [HWS.out], by rw [HOW2.out], HK.out⟩
          case measure => omega
      · obtain rfl : k = n := by omega
        have HALL : Hid (wsum (l.take k) = wsum l) := Lib.hid (by rw [List.take_of_length_le (by have := HL.out; omega)])
        have HLM := Lib.hid (limit_ownW HV.out q (k := k) (by have := HL.out; omega))
        rw [HALL.out]
        clear HALL hwt
        generalize wsum l = s0 at *
        generalize ownW l q k = o0 at *
        have hx1 : IntKind.i64.wrap (80 * o0) = 80 * o0 := wrapI (by unfold I64; omega)
        have hx2 : IntKind.i64.wrap (80 * o0 + s0) = 80 * o0 + s0 := wrapI (by unfold I64; omega)
        have hx3 : IntKind.i64.wrap (80 * o0 + s0 - 1) = 80 * o0 + s0 - 1 := wrapI (by unfold I64; omega)
        have hnz : s0 ≠ 0 := by omega
        have hd : I64 ((80 * o0 + s0 - 1).tdiv s0) := by
          rw [← HLM.out]
          have := limitL_nn l q
          unfold I64; omega
        have hx4 : IntKind.i64.wrap ((80 * o0 + s0 - 1).tdiv s0) = (80 * o0 + s0 - 1).tdiv s0 := wrapI hd
        clear hd
        go_wp2_with fail
        go_ret
        exact ⟨by rw [HLM.out] <;> rfl, HK.out⟩
  · have HB : Hid (limitL l q = 0) := Lib.hid (limitL_bad hv)
    rw [validL_false hv] at HVA
    go_enter Tryz.func41, Tryz.ntmps41
    go_wp2_with fail
    with_reducible refine HVA.out.mono ?_
    rintro e W1 ⟨rfl, k1⟩
    have HK1 := Lib.hid k1
    clear k1 HVA
    go_wp2_with fail
    go_ret
    exact ⟨by rw [HB.out] <;> rfl, HK1.out⟩
end Go.Proofs.YtiacdkggbnoigaaGreatDoor

/-
  The reference's Load, Slot, Owner, ValidRing, Same.
-/
namespace Go.Proofs.YtiacdkggbnoigaaGreatDoor
open Go.RowKit Go.Shelf

set_option maxRecDepth 100000 in
set_option maxHeartbeats 1000000 in
theorem refLoad_any (v : Value) (ep : Int) (l : List Mb) (ow : List Int) (w : World) (h : Rng w v ep l ow) (q : Int) : Calls Tryz.prog 65 #[v, .int .i64 q] w fun e w' => e = .returned (.int .i64 (cnt ow q)) ∧ Keep (fun _ => False) w w' := by
  obtain ⟨-, vm, vo, rfl, -, hi⟩ := h
  obtain ⟨hn, -, a, c, b, off, rfl, hc, ha, hcell⟩ := hi
  have HC := Lib.hid hcell
  have HA := Lib.hid ha
  clear hcell ha
  obtain ⟨n, hn'⟩ : ∃ n, ow.length = n := ⟨_, rfl⟩
  have HL := Lib.hid hn'
  rw [hn'] at hn hc ⊢
  clear hn'
  have HK0 : Hid (Keep (fun _ => False) w (w.alloc (.cells #[.int .i64 ep, vm, .slice a n c] 25))) := Lib.hid ((Keep.refl _ w).alloc _)
  have HT3 := Lib.hid (three_cell w (.int .i64 ep) vm (.slice a n c) 25)
  go_enter Tryz.func65, Tryz.ntmps65
  go_wp2_with fail
  generalize w.alloc (.cells #[.int .i64 ep, vm, .slice a n c] 25) = W0 at *
  generalize w.heap.size = z at *
  have d2 : W0.cell? ⟨z, 2, none⟩ = some (.slice a n c) := HT3.out.2.2.1
  go_loopg [5, 6] n (fun gh v5 v wr => ∃ k : Nat, gh + k = n ∧ v = .int .i64 k ∧ v5 = .int .i64 (cnt (ow.take k) q) ∧ wr = W0)
  case atStart => exact ⟨0, by omega, rfl, by simp [cnt], rfl⟩
  case round =>
    obtain ⟨k, hk, rfl, rfl, rfl⟩ := hrel
    by_cases hlt : k < n
    · obtain ⟨x, hx⟩ : ∃ x, ow[k]? = some x := ⟨_, List.getElem?_eq_getElem (by have := HL.out; omega)⟩
      obtain rfl := HA.out (by have := HL.out; omega)
      have c1 := HK0.out.cell (HC.out k x hx) (fun h => h)
      have HS := Lib.hid (cnt_take_succ hx q)
      have hb0 := cnt_nn (ow.take k) q
      have hb1 : cnt (ow.take k) q ≤ k := by
        unfold cnt
        have := List.count_le_length (a := q) (l := ow.take k)
        rw [List.length_take] at this
        omega
      have hkz : (k : Int) < (n : Int) := by omega
      have hk0 : (0 : Int) ≤ (k : Int) := by omega
      clear hx
      generalize cnt (ow.take k) q = s0 at *
      by_cases hxq : x = q
      · subst hxq
        have hbe : (x == x) = true := by simp
        go_wp2_with fail
        go_roundg (gk - 1)
        case rel => exact ⟨k + 1, by omega, by go_num, by rw [HS.out]; simp, rfl⟩
        case measure => omega
      · have hbe : (x == q) = false := by simpa using hxq
        have HN := Lib.hid hxq
        clear hxq
        go_wp2_with fail
        go_roundg (gk - 1)
        case rel => exact ⟨k + 1, by omega, by go_num, by rw [HS.out, if_neg (fun e => HN.out e.symm), Int.add_zero], rfl⟩
        case measure => omega
    · have HE : Hid (cnt (ow.take k) q = cnt ow q) := Lib.hid (by rw [List.take_of_length_le (by have := HL.out; omega)])
      rw [HE.out]
      go_wp2_with fail
      go_ret
      exact ⟨rfl, HK0.out⟩

set_option maxRecDepth 100000 in
set_option maxHeartbeats 4000000 in
theorem refSame_any (va vb : Value) (ep ep' : Int) (l l' : List Mb) (ow ow' : List Int) (w : World) (ha : Rng w va ep l ow) (hb : Rng w vb ep' l' ow') : Calls Tryz.prog 14 #[va, vb] w fun e w' => e = .returned (.bool (decide (ep = ep') && (decide (l = l') && decide (ow = ow')))) ∧ Keep (fun _ => False) w w' := by
  obtain ⟨-, vm, vo, rfl, hm, ho⟩ := ha
  obtain ⟨-, vm', vo', rfl, hm', ho'⟩ := hb
  obtain ⟨oa, on, oc, rfl⟩ : ∃ a n c, vo = .slice a n c := by
    obtain ⟨a', c', b', off', h2, _⟩ := ho.at_
    exact ⟨_, _, _, h2⟩
  obtain ⟨oa', on', oc', rfl⟩ : ∃ a n c, vo' = .slice a n c := by
    obtain ⟨a', c', b', off', h2, _⟩ := ho'.at_
    exact ⟨_, _, _, h2⟩
  have HEI : Hid (∀ W, Keep (fun _ => False) w W → Calls Tryz.prog 15 #[.slice oa on oc, .slice oa' on' oc'] W fun e w' => e = .returned (.bool (decide (ow = ow'))) ∧ Keep (fun _ => False) W w') := Lib.hid (fun W k => sameInts_any _ _ ow ow' W (ho.kept k) (ho'.kept k))
  clear ho ho'
  obtain ⟨hn1, -, ma, mc, b, off, rfl, hc, ha, hcell⟩ := hm
  obtain ⟨hn2, -, ma', mc', b', off', rfl, hc', ha', hcell'⟩ := hm'
  have HCA := Lib.hid hcell
  have HCB := Lib.hid hcell'
  have HAA := Lib.hid ha
  have HAB := Lib.hid ha'
  clear hcell hcell' ha ha'
  obtain ⟨mn, hmn⟩ : ∃ n, l.length = n := ⟨_, rfl⟩
  obtain ⟨mn', hmn'⟩ : ∃ n, l'.length = n := ⟨_, rfl⟩
  have HLA := Lib.hid hmn
  have HLB := Lib.hid hmn'
  rw [hmn] at hn1 hc ⊢
  rw [hmn'] at hn2 hc' ⊢
  clear hmn hmn'
  have t1 := three_cell w (.int .i64 ep) (.slice ma mn mc) (.slice oa on oc) 25
  have t2 := three_cell (w.alloc (.cells #[.int .i64 ep, .slice ma mn mc, .slice oa on oc] 25)) (.int .i64 ep') (.slice ma' mn' mc') (.slice oa' on' oc') 25
  have k1 : Keep (fun _ => False) w (w.alloc (.cells #[.int .i64 ep, .slice ma mn mc, .slice oa on oc] 25)) := (Keep.refl _ w).alloc _
  have k2 : Keep (fun _ => False) (w.alloc (.cells #[.int .i64 ep, .slice ma mn mc, .slice oa on oc] 25)) ((w.alloc (.cells #[.int .i64 ep, .slice ma mn mc, .slice oa on oc] 25)).alloc (.cells #[.int .i64 ep', .slice ma' mn' mc', .slice oa' on' oc'] 25)) := (Keep.refl _ _).alloc _
  have HX := Lib.hid (And.intro (k2.cell t1.1 (fun h => h)) (And.intro (k2.cell t1.2.1 (fun h => h)) (k2.cell t1.2.2.1 (fun h => h))))
  rw [World.size_alloc] at t2
  have HY := Lib.hid t2
  have HK := Lib.hid (k1.trans k2)
  clear t1 t2 k1 k2
  go_enter Tryz.func14, Tryz.ntmps14
  by_cases he : ep = ep'
  · have hbe : (ep != ep') = false := by simpa using he
    have HE := Lib.hid (decide_eq_true he)
    clear he
    by_cases hl : mn = mn'
    · subst hl
      have hble : ((mn : Int) != (mn : Int)) = false := by simp
      go_wp2_with fail
      generalize (w.alloc (.cells #[.int .i64 ep, .slice ma mn mc, .slice oa on oc] 25)).alloc (.cells #[.int .i64 ep', .slice ma' mn mc', .slice oa' on' oc'] 25) = W1 at *
      generalize w.heap.size = z at *
      with_reducible refine (HEI.out _ HK.out).mono ?_
      rintro e W2 ⟨rfl, k2⟩
      have HK2 := Lib.hid (HK.out.trans k2)
      have x1 := k2.cell HX.out.2.1 (fun h => h)
      have y1 := k2.cell HY.out.2.1 (fun h => h)
      clear k2
      cases ho : decide (ow = ow') with
      | true =>
        have HO := Lib.hid ho
        clear ho
        go_wp2_with fail
        go_loopg [5] (mn) (fun gh i wr => ∃ (k m : Nat), gh + k = mn ∧ i = .int .i64 k ∧ wr = W2.drewN m ∧ Hid (l.take k = l'.take k))
        case atStart => exact ⟨0, 0, Nat.add_zero _, rfl, rfl, rfl⟩
        case round =>
          obtain ⟨k, m, hk, rfl, rfl, HE2⟩ := hrel
          by_cases hlt : k < mn
          · have hkx : k < l.length := by rw [HLA.out]; exact hlt
            have hky : k < l'.length := by rw [HLB.out]; exact hlt
            obtain rfl := HAA.out (by omega)
            obtain rfl := HAB.out (by omega)
            have t1 : l.take (k + 1) = l.take k ++ [l[k]] := by rw [List.take_add_one, List.getElem?_eq_getElem hkx]; rfl
            have t2 : l'.take (k + 1) = l'.take k ++ [l'[k]] := by rw [List.take_add_one, List.getElem?_eq_getElem hky]; rfl
            have hb0 : (0 : Int) ≤ (k : Int) := by omega
            have hb1 : (k : Int) < (mn : Int) := by omega
            obtain ⟨qa0, qa1, qa2⟩ := HCA.out k _ (List.getElem?_eq_getElem hkx)
            obtain ⟨qb0, qb1, qb2⟩ := HCB.out k _ (List.getElem?_eq_getElem hky)
            have ca0 := HK2.out.cell qa0 (fun h => h)
            have ca1 := HK2.out.cell qa1 (fun h => h)
            have ca2 := HK2.out.cell qa2 (fun h => h)
            have cb0 := HK2.out.cell qb0 (fun h => h)
            have cb1 := HK2.out.cell qb1 (fun h => h)
            have cb2 := HK2.out.cell qb2 (fun h => h)
            clear qa0 qa1 qa2 qb0 qb1 qb2
            have hgd : Tryz.prog.eqGuardType Tryz.prog.depth 44 = false := by kernel_rfl
            -- the elements
            by_cases hst : l[k] = l'[k]
            · have HT : Hid (l.take (k + 1) = l'.take (k + 1)) := by
                show _ = _
                rw [t1, t2, HE2.out, hst]
              rw [← hst] at cb0 cb1 cb2
              clear t1 t2 hst
              generalize l[k] = x at *
              clear hkx hky
              obtain ⟨m0, m1, m2⟩ := x
              simp only [] at ca0 ca1 ca2 cb0 cb1 cb2
              go_wp2_with fail
              go_quiet (fail)
              go_wp2_with fail
              go_roundg (gk - 1)
              case rel => exact ⟨k + 1, _, by omega, by go_num, by first | rfl | exact World.drewN_drewN _ _ _, HT⟩
              case measure => omega
            · have HT : Hid (decide (l = l') = false) := Lib.hid (by
                rw [decide_eq_false_iff_not]
                intro e
                subst e
                exact hst rfl)
              generalize l[k] = x at *
              generalize l'[k] = y at *
              obtain ⟨m0, m1, m2⟩ := x
              obtain ⟨n0, n1, n2⟩ := y
              simp only [] at ca0 ca1 ca2 cb0 cb1 cb2
              have hst' : ¬ (m0 = n0 ∧ m1 = n1 ∧ m2 = n2) := fun ⟨a, b, c⟩ => hst (by rw [a, b, c])
              clear hkx hky t1 t2 hst
              by_cases q1 : m0 = n0
              · by_cases q2 : m1 = n1
                · have q3 : ¬ m2 = n2 := fun h => hst' ⟨q1, q2, h⟩
                  clear hst'
                  go_wp2_with fail
                  go_quiet (fail)
                  go_wp2_with fail
                  go_ret
                  exact ⟨by rw [HE.out, HT.out] <;> rfl, (HK2.out.drewN _).drewN _⟩
                · clear hst'
                  go_wp2_with fail
                  go_quiet (fail)
                  go_wp2_with fail
                  go_ret
                  exact ⟨by rw [HE.out, HT.out] <;> rfl, (HK2.out.drewN _).drewN _⟩
              · clear hst'
                go_wp2_with fail
                go_quiet (fail)
                go_wp2_with fail
                go_ret
                exact ⟨by rw [HE.out, HT.out] <;> rfl, (HK2.out.drewN _).drewN _⟩
          · have HT : Hid (decide (l = l') = true) := by
              show _ = _
              rw [decide_eq_true_eq]
              have h1 := HE2.out
              rw [List.take_of_length_le (by have := HLA.out; omega), List.take_of_length_le (by have := HLB.out; omega)] at h1
              exact h1
            go_wp2_with fail
            go_ret
            exact ⟨by rw [HE.out, HT.out, HO.out] <;> rfl, HK2.out.drewN _⟩
      | false =>
        have HO := Lib.hid ho
        clear ho
        go_wp2_with fail
        go_ret
        exact ⟨by rw [HO.out, Bool.and_false, Bool.and_false] <;> rfl, HK2.out⟩
    · have hble : ((mn : Int) != (mn' : Int)) = true := by simp; omega
      have HT : Hid (decide (l = l') = false) := Lib.hid (by
        rw [decide_eq_false_iff_not]
        intro e
        subst e
        have := HLA.out
        have := HLB.out
        omega)
      clear hl
      go_wp2_with fail
      go_ret
      exact ⟨by rw [HT.out, Bool.false_and, Bool.and_false] <;> rfl, HK.out⟩
  · have hbe : (ep != ep') = true := by simpa using he
    have HE := Lib.hid (decide_eq_false he)
    clear he
    go_wp2_with fail
    go_ret
    exact ⟨by rw [HE.out] <;> rfl, HK.out⟩

set_option maxRecDepth 100000 in
set_option maxHeartbeats 4000000 in
theorem refValidRing_any (v : Value) (ep : Int) (l : List Mb) (ow : List Int) (w : World) (h : Rng w v ep l ow) : Calls Tryz.prog 39 #[v] w fun e w' => e = .returned (.bool (validRB ep l ow)) ∧ Keep (fun _ => False) w w' := by
  have HR := Lib.hid h
  obtain ⟨-, vm, vo, rfl, hmb, hi⟩ := h
  have HLI : Hid (∀ W q, Keep (fun _ => False) w W → Calls Tryz.prog 41 #[vm, .int .i64 q] W fun e w' => e = .returned (.int .i64 (limitL l q)) ∧ Keep (fun _ => False) W w') := Lib.hid (fun W q k => refLimit_any vm l W (hmb.kept k) q)
  have HVA : Hid (∀ W, Keep (fun _ => False) w W → Calls Tryz.prog 40 #[vm] W fun e w' => e = .returned (.bool (validL l)) ∧ Keep (fun _ => False) W w') := Lib.hid (fun W k => refValid_any vm l W (hmb.kept k))
  have hform : ∃ ma mn mc, vm = .slice ma mn mc := by
    obtain ⟨a, c, b, off, h1, _⟩ := hmb.at_
    exact ⟨_, _, _, h1⟩
  obtain ⟨ma, mn, mc, rfl⟩ := hform
  obtain ⟨hn, hbd, a, c, b, off, rfl, hc, ha, hcell⟩ := hi
  have HC := Lib.hid hcell
  have HA := Lib.hid ha
  clear hcell ha hmb hbd
  obtain ⟨n, hn'⟩ : ∃ n, ow.length = n := ⟨_, rfl⟩
  have HL := Lib.hid hn'
  rw [hn'] at hn hc HR ⊢
  clear hn'
  have HLD : Hid (∀ W q, Keep (fun _ => False) w W → Calls Tryz.prog 65 #[.agg #[.int .i64 ep, .slice ma mn mc, .slice a n c], .int .i64 q] W fun e w' => e = .returned (.int .i64 (cnt ow q)) ∧ Keep (fun _ => False) W w') := Lib.hid (fun W q k => refLoad_any _ ep l ow W (HR.out.kept k) q)
  clear HR
  have HK0 : Hid (Keep (fun _ => False) w (w.alloc (.cells #[.int .i64 ep, .slice ma mn mc, .slice a n c] 25))) := Lib.hid ((Keep.refl _ w).alloc _)
  have HT3 := Lib.hid (three_cell w (.int .i64 ep) (.slice ma mn mc) (.slice a n c) 25)
  go_enter Tryz.func39, Tryz.ntmps39
  by_cases hep : 1 ≤ ep ∧ ep ≤ 1000000
  · have HE := Lib.hid (decide_eq_true hep)
    go_wp2_with fail
    generalize w.alloc (.cells #[.int .i64 ep, .slice ma mn mc, .slice a n c] 25) = W0 at *
    generalize w.heap.size = z at *
    with_reducible refine (rwithin_b ep 1 1000000 true HE.out _).mono ?_
    rintro e w' ⟨rfl, rfl⟩
    have d1 : W0.cell? ⟨z, 1, none⟩ = some (.slice ma mn mc) := HT3.out.2.1
    have d2 : W0.cell? ⟨z, 2, none⟩ = some (.slice a n c) := HT3.out.2.2.1
    go_wp2_with fail
    clear d1 d2
    with_reducible refine (HVA.out _ HK0.out).mono ?_
    rintro e W1 ⟨rfl, k1⟩
    have HK1 := Lib.hid (HK0.out.trans k1)
    have HZ0 := Lib.hid (k1.cell HT3.out.1 (fun h => h))
    have HZ1 := Lib.hid (k1.cell HT3.out.2.1 (fun h => h))
    have HZ2 := Lib.hid (k1.cell HT3.out.2.2.1 (fun h => h))
    clear k1
    by_cases hv : VL l
    · have HV := Lib.hid ((validL_iff l).2 hv)
      rw [HV.out]
      have d2 := HZ2.out
      by_cases h64 : n = 64
      · subst h64
        go_wp2_with fail
        clear d2
        go_loopg [3] 64 (fun gh v wr => ∃ k : Nat, gh + k = 64 ∧ v = .int .i64 k ∧ (∀ x ∈ ow.take k, cnt ow x ≤ limitL l x) ∧ Keep (fun _ => False) W1 wr)
        case atStart => exact ⟨0, by omega, rfl, by simp, Keep.refl _ _⟩
        case round =>
          obtain ⟨k, hk, rfl, hall, hkeep⟩ := hrel
          have HALL := Lib.hid hall
          have HK := Lib.hid hkeep
          clear hall hkeep
          have d2 := HK.out.cell HZ2.out (fun h => h)
          by_cases hlt : k < 64
          · obtain ⟨x, hx⟩ : ∃ x, ow[k]? = some x := ⟨_, List.getElem?_eq_getElem (by have := HL.out; omega)⟩
            obtain rfl := HA.out (by have := HL.out; omega)
            have HCX := Lib.hid (HC.out k x hx)
            have HX := Lib.hid hx
            clear hx
            have hkz : (k : Int) < 64 := by omega
            have hk0 : (0 : Int) ≤ (k : Int) := by omega
            have HLDx : Hid (∀ W, Keep (fun _ => False) w W → Calls Tryz.prog 65 #[.agg #[.int .i64 ep, .slice ma mn mc, .slice (some ⟨b, off, none⟩) 64 c], .int .i64 x] W fun e w' => e = .returned (.int .i64 (cnt ow x)) ∧ Keep (fun _ => False) W w') := Lib.hid (fun W k => HLD.out W x k)
            have HLIx : Hid (∀ W, Keep (fun _ => False) w W → Calls Tryz.prog 41 #[.slice ma mn mc, .int .i64 x] W fun e w' => e = .returned (.int .i64 (limitL l x)) ∧ Keep (fun _ => False) W w') := Lib.hid (fun W k => HLI.out W x k)
            have z0 : ∀ p : KW wr, p.val.cell? ⟨z, 0, none⟩ = some (.int .i64 ep) := fun p => p.k.cell (HK.out.cell HZ0.out (fun h => h)) (fun h => h)
            have z1 : ∀ p : KW wr, p.val.cell? ⟨z, 1, none⟩ = some (.slice ma mn mc) := fun p => p.k.cell (HK.out.cell HZ1.out (fun h => h)) (fun h => h)
            have z2 : ∀ p : KW wr, p.val.cell? ⟨z, 2, none⟩ = some (.slice (some ⟨b, off, none⟩) 64 c) := fun p => p.k.cell (HK.out.cell HZ2.out (fun h => h)) (fun h => h)
            have zx : ∀ p : KW wr, p.val.cell? ⟨b, off + k, none⟩ = some (.int .i64 x) := fun p => p.k.cell ((HK1.out.trans HK.out).cell HCX.out (fun h => h)) (fun h => h)
            by_cases hle : cnt ow x ≤ limitL l x
            · have HN : Hid (∀ y ∈ ow.take (k + 1), cnt ow y ≤ limitL l y) := Lib.hid (fun y hy => by
                rw [List.take_add_one, HX.out] at hy
                rcases List.mem_append.1 hy with hy | hy
                · exact HALL.out y hy
                · simp at hy; subst hy; exact hle)
              generalize cnt ow x = cx at *
              generalize limitL l x = lx at *
              have hng : ¬ (lx < cx) := by omega
              go_wp2_with fail
              clear d2
              refine wp_region_quiet_kept (by kernel_rfl) (by kernel_rfl) ?_
              repeat (quiet_step (first | (go_at_call 65; refine Calls.kept_of (HLDx.out _ ((HK1.out.trans HK.out).trans (KW.k _)))) | (go_at_call 41; refine Calls.kept_of (HLIx.out _ ((HK1.out.trans HK.out).trans (KW.k _))))))
              refine wpQuiet_nil ?_
              rintro _ ⟨p, rfl⟩
              have HP := Lib.hid (HK.out.trans p.k)
              clear z0 z1 z2 zx
              generalize p.val = W2 at *
              go_wp2_with fail
              go_roundg (gk - 1)
              case rel => exact ⟨k + 1, by omega, by go_num, HN.out, HP.out⟩
              case measure => omega
            · have HB : Hid (validRB ep l ow = false) := Lib.hid (by
                cases e : validRB ep l ow with
                | false => rfl
                | true =>
                  have := ((validRB_iff ep l ow).1 e).2.2.2.2 x
                  exact absurd this hle)
              generalize cnt ow x = cx at *
              generalize limitL l x = lx at *
              have hng : lx < cx := by omega
              go_wp2_with fail
              clear d2
              refine wp_region_quiet_kept (by kernel_rfl) (by kernel_rfl) ?_
              repeat (quiet_step (first | (go_at_call 65; refine Calls.kept_of (HLDx.out _ ((HK1.out.trans HK.out).trans (KW.k _)))) | (go_at_call 41; refine Calls.kept_of (HLIx.out _ ((HK1.out.trans HK.out).trans (KW.k _))))))
              refine wpQuiet_nil ?_
              rintro _ ⟨p, rfl⟩
              have HP := Lib.hid (HK1.out.trans (HK.out.trans p.k))
              clear z0 z1 z2 zx
              generalize p.val = W2 at *
              go_wp2_with fail
              go_ret
              exact ⟨by rw [HB.out] <;> rfl, HP.out⟩
          · obtain rfl : k = 64 := by omega
            have HB : Hid (validRB ep l ow = true) := Lib.hid (by
              have h1 := HALL.out
              rw [List.take_of_length_le (by have := HL.out; omega)] at h1
              unfold validRB
              rw [HE.out, HV.out, HL.out]
              simp only [decide_true, Bool.and_true, List.all_eq_true]
              exact fun y hy => decide_eq_true (h1 y hy))
            go_wp2_with fail
            go_ret
            exact ⟨by rw [HB.out] <;> rfl, HK1.out.trans HK.out⟩
      · have hne : ((n : Int) != 64) = true := by simp; omega
        have HB : Hid (validRB ep l ow = false) := Lib.hid (by unfold validRB; rw [HL.out, decide_eq_false h64]; simp)
        clear h64
        go_wp2_with fail
        go_ret
        exact ⟨by rw [HB.out] <;> rfl, HK1.out⟩
    · have HV := Lib.hid (validL_false hv)
      have HB : Hid (validRB ep l ow = false) := Lib.hid (by unfold validRB; rw [HV.out]; simp)
      rw [HV.out]
      go_wp2_with fail
      go_ret
      exact ⟨by rw [HB.out] <;> rfl, HK1.out⟩
  · have HE := Lib.hid (decide_eq_false hep)
    have HB : Hid (validRB ep l ow = false) := Lib.hid (by unfold validRB; rw [HE.out]; simp)
    go_wp2_with fail
    generalize w.alloc (.cells #[.int .i64 ep, .slice ma mn mc, .slice a n c] 25) = W0 at *
    with_reducible refine (rwithin_b ep 1 1000000 false HE.out _).mono ?_
    rintro e w' ⟨rfl, rfl⟩
    go_wp2_with fail
    go_ret
    exact ⟨by rw [HB.out] <;> rfl, HK0.out⟩
end Go.Proofs.YtiacdkggbnoigaaGreatDoor

/-
  The reference's Assign.
-/
namespace Go.Proofs.YtiacdkggbnoigaaGreatDoor
open Go.RowKit Go.Shelf

theorem slotT_ref' (s : Nat) : (⟨#[115, 108, 111, 116, 32]⟩ : ByteArray) ++ dig s = slotT s := by
  apply Go.WideShapes.bytes_inj
  simp [slotT, txt, addT]
/-- How many slots each node has, in an array. -/
def loadsL (ow : List Int) : List Int := (List.range 24).map (fun n : Nat => cnt ow n)
theorem loadsL_len (ow : List Int) : (loadsL ow).length = 24 := by simp [loadsL]
theorem loadsL_get {ow : List Int} {n : Nat} (hn : n < 24) : (loadsL ow)[n]? = some (cnt ow n) := by
  unfold loadsL
  rw [List.getElem?_map, List.getElem?_range hn]
  rfl
theorem loadsL_nil : loadsL [] = List.replicate 24 0 := by decide
theorem loadsL_snoc {ow : List Int} {n : Nat} (hn : n < 24) : loadsL (ow ++ [(n : Int)]) = (loadsL ow).set n (cnt ow n + 1) := by
  apply List.ext_getElem?
  intro i
  by_cases hi : i < 24
  · rw [loadsL_get hi, cnt_snoc]
    by_cases e : n = i
    · subst e
      rw [List.getElem?_set_self (by rw [loadsL_len]; exact hn), if_pos rfl]
    · rw [List.getElem?_set_ne e, loadsL_get hi, if_neg (by omega), Int.add_zero]
  · rw [List.getElem?_eq_none (by rw [loadsL_len]; omega), List.getElem?_eq_none (by rw [List.length_set, loadsL_len]; omega)]
theorem asg_succ (l : List Mb) (s : Nat) : asg PN QS l (s + 1) = stepA (ords PN l (QS s)) (asg PN QS l s) := rfl

end Go.Proofs.YtiacdkggbnoigaaGreatDoor
