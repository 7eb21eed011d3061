/-
  append of one element; the points of members.
-/
import Derived.Test.YtplkmbfeeegaiaaDoorA6
import Derived.Maps.AppendAt
import Derived.OwnWalk
import Derived.RangeFuncBox
namespace Go.Proofs.YtplkmbfeeegaiaaDoor
open Go.RowKit Go.Shelf

theorem ownsRow_keep {W W' : World} {lo : Nat} {e : TypeId} {z : Nat} {v : Value} {n : Nat} {xs : List Value} {A : Nat → Prop} (h : W.ownsRow lo e z v n xs) (k : Keep A W W') (hA : ∀ b, v.ownBlock = some b → ¬ A b) : W'.ownsRow lo e z v n xs := by
  obtain ⟨h1, h2⟩ := h
  refine ⟨h1, ?_⟩
  rcases h2 with h2 | ⟨g, cap, cur, rfl, hb, hh, r⟩
  · exact .inl h2
  · exact .inr ⟨g, cap, cur, rfl, hb, k.heap hh (hA g rfl), r⟩
theorem ownsRow_lo {W : World} {lo lo' : Nat} {e : TypeId} {z : Nat} {v : Value} {n : Nat} {xs : List Value} (h : W.ownsRow lo e z v n xs) (hl : lo' ≤ lo) : W.ownsRow lo' e z v n xs :=
  ⟨h.1, h.2.imp id (fun ⟨g, cp, cur, a1, a2, a3⟩ => ⟨g, cp, cur, a1, Nat.le_trans hl a2, a3⟩)⟩
theorem cells_new (W : World) (xs : List Value) (t : TypeId) (j : Nat) (u : Value) (h : xs[j]? = some u) : (W.alloc (.cells xs.toArray t)).cell? ⟨W.heap.size, j, none⟩ = some u := by
  unfold World.cell?
  rw [World.alloc_heap_new]
  simp [h]

/-- One element more. -/
theorem app_one (st e : TypeId) (k by_ : Nat) (z : Value) (hst : Tryd.prog.underlying st = some (.slice e)) (hinfo : (Tryd.prog.info? e).map (fun i => (i.zero, i.size, i.bytes)) = some (some z, k, by_)) (hzs : z.cells.size = k) (hk : 0 < k) (hby : by_ ≤ 64)
    (W : World) (ty lo : Nat) (v : Value) (n : Nat) (xs new : List Value) (hown : W.ownsRow lo e k v n xs) (hlen : new.length = k) (h1 : ∀ u ∈ new, u.oneCell' = true) (hn : n ≤ 1000000) (hlo : lo ≤ W.heap.size) :
    ∃ v' w', (Builtin.append_ #[st, st] ty #[v, .slice (some ⟨W.heap.size, 0, none⟩) 1 1]).run Tryd.prog (W.alloc (.cells new.toArray e)) = .ok v' w' ∧ w'.ownsRow lo e k v' (n + 1) (xs ++ new) ∧
      Keep (fun k => v.ownBlock = some k) W w' ∧ (v'.ownBlock = v.ownBlock ∨ v'.ownBlock = some (W.heap.size + 1)) ∧ ∃ g c, v' = .slice (some ⟨g, 0, none⟩) (n + 1) c := by
  obtain ⟨i0, hi, hz0, hz1, hz2⟩ := info_parts hinfo
  obtain ⟨v', w', r1, r2, r3, r4, r5⟩ := run_append_own_at (P := Tryd.prog) (W.alloc (.cells new.toArray e)) lo st ty e i0 z k by_ hst hi hz0 hz1 hz2 hzs hk v n xs (hown.alloc _) ⟨W.heap.size, 0, none⟩ 1 1 new (by omega)
    (by
      intro j u hj
      rw [Addr.add_lit, Nat.zero_add]
      exact cells_new W new e j u hj)
    h1 (by unfold maxLen; omega) (by
      have : (n + 1) * by_ ≤ 1000001 * 64 := Nat.mul_le_mul (by omega) hby
      omega) (by rw [World.size_alloc]; omega)
  exact ⟨v', w', r1, r2, ((Keep.refl _ W).alloc _).trans (Keep.of_grown r3), by rw [World.size_alloc] at r5; exact r5, ownsRow_succ r2⟩

theorem its_new (W : World) (xs : List Int) (hn : xs.length ≤ 1000) (hb : ∀ x ∈ xs, I64 x) : Its (W.alloc (.cells (xs.map (fun x => Value.int .i64 x)).toArray 3)) (.slice (some ⟨W.heap.size, 0, none⟩) xs.length xs.length) xs :=
  ⟨by omega, hb, _, _, W.heap.size, 0, rfl, Nat.le_refl _, fun _ => rfl, fun j x hj => by rw [Nat.zero_add]; exact cells_new W _ _ j _ (by rw [List.getElem?_map, hj]; rfl)⟩
theorem nodeT_eq (m i : Nat) : nodeT (m : Int) i = txt ⟨#[110, 111, 100, 101]⟩ [m, i] := by unfold nodeT; rw [Int.toNat_natCast]
theorem wp_app {P : Program} {o : Oper} {a : Act} {w w' : World} {K : Act → World → Prop} {Q : Exit → Act → World → Prop} {v v2 v' : Value}
    (s x : Operand) (t : TypeId) (hop : o.op = Op.call { callee := Callee.builtin Builtin.append, args := #[s, x], argTypes := #[t, t] })
    (hs : a.eval s = v) (hx : a.eval x = v2) (hrun : (Builtin.append_ #[t, t] o.type #[v, v2]).run P w = .ok v' w') (hK : K (a.put o.dst v') w') : o.wp P a w K Q := by
  unfold Oper.wp
  simp [execOp, hop, resolve, invoke, builtin, hs, hx, hrun, Result.andThen]
  exact hK
theorem wpList_app {P : Program} {ops : Array Oper} {rest : List Oper} {o : Oper} {a : Act} {w w' : World} {Q : Exit → Act → World → Prop} {v v2 v' : Value}
    (hg : o.guard = none) (s x : Operand) (t : TypeId) (hop : o.op = Op.call { callee := Callee.builtin Builtin.append, args := #[s, x], argTypes := #[t, t] })
    (hs : a.eval s = v) (hx : a.eval x = v2) (hrun : (Builtin.append_ #[t, t] o.type #[v, v2]).run P w = .ok v' w') (hK : wpList P ops Q rest (a.put o.dst v') w') : wpList P ops Q (o :: rest) a w := by
  refine wpList_plain hg fun K hK' => ?_
  unfold Oper.wp
  simp [execOp, hop, resolve, invoke, builtin, hs, hx, hrun, Result.andThen]
  exact hK' _ _ hK

theorem infoMk : (Tryd.prog.info? 96).map (fun i => (i.zero, i.size, i.bytes)) = some (some (.agg #[.int .i64 0, .int .i64 0, .int .i64 0]), 3, 24) := by kernel_rfl
theorem infoInt : (Tryd.prog.info? 3).map (fun i => (i.zero, i.size, i.bytes)) = some (some (.int .i64 0), 1, 8) := by kernel_rfl
theorem infoMb : (Tryd.prog.info? 25).map (fun i => (i.zero, i.size, i.bytes)) = some (some (.agg #[.int .i64 0, .int .i64 0, .int .i64 0]), 3, 24) := by kernel_rfl

def flatM (l : List Mk) : List Value := l.flatMap encMk
theorem flatM_append (a b : List Mk) : flatM (a ++ b) = flatM a ++ flatM b := by unfold flatM; rw [List.flatMap_append]
theorem flatM_one (x : Mk) : flatM [x] = encMk x := by simp [flatM]

/-- The points that are drawn when k members are done, and i points of the next one. -/
def drawK (l : List Mb) (k i : Nat) : List Mk := draws PN (l.take k) ++ (match l[k]? with | some m => (drawM PN m).take i | none => [])
theorem drawK_next {l : List Mb} {k : Nat} {m : Mb} (h : l[k]? = some m) : drawK l k (4 * m.weight.toNat) = drawK l (k + 1) 0 := by
  unfold drawK
  rw [h, List.take_add_one, h, Option.toList_some, draws_append]
  have e : (drawM PN m).take (4 * m.weight.toNat) = drawM PN m := List.take_of_length_le (by simp [drawM])
  have e2 : draws PN [m] = drawM PN m := by simp [draws]
  simp only [e, e2]
  split <;> simp
theorem drawK_succ {l : List Mb} {k i : Nat} {m : Mb} (h : l[k]? = some m) (hi : i < 4 * m.weight.toNat) : drawK l k (i + 1) = drawK l k i ++ [⟨PN m.node i, m.node, i⟩] := by
  unfold drawK
  rw [h]
  simp only []
  rw [List.take_add_one, List.append_assoc]
  congr 2
  unfold drawM
  rw [List.getElem?_map, List.getElem?_range hi]
  rfl
theorem drawK_zero (l : List Mb) : drawK l 0 0 = [] := by unfold drawK; split <;> simp [draws]
theorem drawK_all {l : List Mb} {k : Nat} (h : l.length ≤ k) : drawK l k 0 = draws PN l := by
  unfold drawK
  rw [List.take_of_length_le h, List.getElem?_eq_none h]
  simp
theorem drawK_len {l : List Mb} (hv : VL l) {k i : Nat} : (drawK l k i).length ≤ 100000 := by
  unfold drawK
  rw [List.length_append]
  have h1 : ((draws PN (l.take k)).length : Int) = 4 * wsum (l.take k) := draws_len PN _ (fun m hm => hv.ok m (List.mem_of_mem_take hm))
  have h2 := wsum_take hv.ok k
  have h3 := hv.wsum
  have h4 : (match l[k]? with | some m => (drawM PN m).take i | none => []).length ≤ 64 := by
    cases e : l[k]? with
    | none => simp
    | some m =>
      have := hv.ok m (List.mem_of_getElem? e)
      unfold okMb at this
      simp only []
      refine Nat.le_trans (List.length_take_le' _ _) ?_
      simp [drawM]
      omega
  omega

/-- Points in a slice of their own. -/
def OwnM (w : World) (l : List Mk) (v : Value) (W : World) : Prop := Keep (fun _ => False) w W ∧ W.ownsRow w.heap.size 96 3 v l.length (flatM l)
theorem OwnM.nil {w W : World} (k : Keep (fun _ => False) w W) : OwnM w [] (.slice none 0 0) W := ⟨k, by simpa [flatM] using World.ownsRow_nil W w.heap.size 96 3⟩
theorem OwnM.keep {w W W' : World} {l : List Mk} {v : Value} (h : OwnM w l v W) (k : Keep (fun _ => False) W W') : OwnM w l v W' := ⟨h.1.trans k, ownsRow_keep h.2 k (fun _ _ h => h)⟩
theorem OwnM.form {w W : World} {l : List Mk} {v : Value} (h : OwnM w l v W) : v = .slice none 0 0 ∨ ∃ b n c, v = .slice (some ⟨b, 0, none⟩) n c := by
  rcases h.2.2 with ⟨rfl, _⟩ | ⟨g', cap, cur, rfl, _⟩
  · exact .inl rfl
  · exact .inr ⟨_, _, _, rfl⟩
theorem OwnM.snoc {w W : World} {l : List Mk} {v : Value} (h : OwnM w l v W) (x : Mk) (hl : l.length ≤ 100000) :
    ∃ v' w', (Builtin.append_ #[66, 66] 66 #[v, .slice (some ⟨W.heap.size, 0, none⟩) 1 1]).run Tryd.prog (W.alloc (.cells #[.int .i64 x.point, .int .i64 x.node, .int .i64 x.i] 96)) = .ok v' w' ∧ OwnM w (l ++ [x]) v' w' ∧ Keep (fun j => v.ownBlock = some j) W w' ∧ (v'.ownBlock = v.ownBlock ∨ v'.ownBlock = some (W.heap.size + 1)) := by
  obtain ⟨v', w', r1, r2, r3, r4, -⟩ := app_one 66 96 3 24 _ Tryd.underlying66 infoMk rfl (by decide) (by decide) W 66 w.heap.size v l.length (flatM l) (encMk x) h.2 rfl (by simp [encMk, Value.oneCell']) (by omega) h.1.size
  refine ⟨v', w', r1, ⟨h.1.trans' r3 (fun j e => .inr (h.2.lt j e).1), ?_⟩, r3, r4⟩
  rw [flatM_append, flatM_one, List.length_append]
  exact r2

set_option maxRecDepth 100000 in
set_option maxHeartbeats 4000000 in
theorem drawn_raw (v : Value) (l : List Mb) (w : World) (h : Mbs w v l) (hv : VL l) (hT : Tab w) (Q : Ending → World → Prop)
    (hQ : ∀ vo W, OwnM w (draws PN l) vo W → Calls Tryd.prog 70 #[vo, .func (.func 71) #[] #[]] W fun e w' => e = .returned (.tuple #[]) ∧ Q (.returned vo) w') :
    Calls Tryd.prog 48 #[v] w Q := by
  obtain ⟨hn, hbd, a, c, b, off, rfl, hc, ha, hcell⟩ := h
  have HC := Lib.hid hcell
  have HA := Lib.hid ha
  have HV := Lib.hid hv
  have HQ := Lib.hid hQ
  have HT := Lib.hid hT
  clear hcell ha hbd hv hQ hT
  obtain ⟨n, hn'⟩ : ∃ n, l.length = n := ⟨_, rfl⟩
  have HL := Lib.hid hn'
  rw [hn'] at hn hc ⊢
  clear hn'
  go_enter Tryd.func48, Tryd.ntmps48
  go_wp2_with fail
  go_loopg [3, 9] n (fun gh v3 v wr => ∃ (k : Nat), gh + k = n ∧ v = .int .i64 k ∧ OwnM w (drawK l k 0) v3 wr)
  case atStart => exact ⟨0, by omega, rfl, by rw [drawK_zero]; exact OwnM.nil (Keep.refl _ _)⟩
  case round =>
    obtain ⟨k, hk, rfl, how⟩ := hrel
    have HOW := Lib.hid how
    clear how
    by_cases hlt : k < n
    · obtain ⟨m, hm⟩ : ∃ m, l[k]? = some m := ⟨_, List.getElem?_eq_getElem (by have := HL.out; omega)⟩
      obtain rfl := HA.out (by have := HL.out; omega)
      have c0 := HOW.out.1.cell (HC.out k m hm).1 (fun h => h)
      have c1 := HOW.out.1.cell (HC.out k m hm).2.1 (fun h => h)
      have c2 := HOW.out.1.cell (HC.out k m hm).2.2 (fun h => h)
      have HM := Lib.hid hm
      have hok := HV.out.ok m (List.mem_of_getElem? hm)
      unfold okMb at hok
      have hkz : (k : Int) < (n : Int) := by omega
      have hk0 : (0 : Int) ≤ (k : Int) := by omega
      clear hm
      obtain ⟨mn, mr, mw⟩ := m
      simp only [] at c0 c1 c2 hok
      have HK2 : Hid (OwnM w (drawK l k 0) u3 (wr.alloc (.cells #[.int .i64 mn, .int .i64 mr, .int .i64 mw] 25))) := Lib.hid (HOW.out.keep ((Keep.refl _ wr).alloc _))
      have HT3 := Lib.hid (three_cell wr (.int .i64 mn) (.int .i64 mr) (.int .i64 mw) 25)
      have HZ : Hid (w.heap.size ≤ wr.heap.size) := Lib.hid HOW.out.1.size
      go_wp2_with fail
      clear c0 c1 c2
      generalize wr.alloc (.cells #[.int .i64 mn, .int .i64 mr, .int .i64 mw] 25) = W2 at *
      have HOB : Hid (∀ j, u3.ownBlock = some j → j ≠ wr.heap.size) := Lib.hid (fun j e => by have := (HOW.out.2.lt j e).2; omega)
      generalize wr.heap.size = z at *
      obtain ⟨mq, rfl⟩ : ∃ mq : Nat, mn = mq := ⟨mn.toNat, by omega⟩
      obtain ⟨wq, rfl⟩ : ∃ wq : Nat, mw = wq := ⟨mw.toNat, by omega⟩
      go_loopg [3, 16] (4 * wq) (fun g2 v3 v wr2 => ∃ i : Nat, g2 + i = 4 * wq ∧ v = .int .i64 i ∧ OwnM w (drawK l k i) v3 wr2 ∧ wr2.cell? ⟨z, 0, none⟩ = some (.int .i64 mq) ∧ ∀ j, v3.ownBlock = some j → j ≠ z)
      case atStart => exact ⟨0, by omega, rfl, HK2.out, HT3.out.1, HOB.out⟩
      case round =>
        clear HK2 HT3 HOB HOW
        obtain ⟨i, hi, rfl, how, hcz, hob⟩ := hrel
        have HOW := Lib.hid how
        have HOB := Lib.hid hob
        have HCZ := Lib.hid hcz
        clear how hob hcz
        by_cases hil : i < 4 * wq
        · have hiz : (i : Int) < 4 * (wq : Int) := by omega
          have hi0 : (0 : Int) ≤ (i : Int) := by omega
          have hi100 : i < 100 := by omega
          have hm100 : mq < 100 := by omega
          have HF := Lib.hid HOW.out.form
          go_upto_region 8 with (fail)
          have cz : ∀ p : KA (fun j => u3.ownBlock = some j) wr, p.val.cell? ⟨z, 0, none⟩ = some (.int .i64 mq) := fun p => p.k.cell HCZ.out (fun e => HOB.out z e rfl)
          refine wp_region_walk [(true, 0), (true, 1), (true, 2), (true, 3), (true, 7), (true, 8), (true, 9), (false, 4), (false, 5), (false, 6), (false, 10), (false, 11), (false, 12), (false, 13)] (inKA (fun j => u3.ownBlock = some j) wr) (by kernel_rfl) (by kernel_rfl) ?_
          iterate 7 (refine walkW_read rfl (fun K hK => ?_); go_simp; refine hK _ ?_; clear hK K)
          clear cz
          refine walkW_do rfl (inKA.of (Keep.refl _ wr).drew) (fun K hK => ?_)
          go_simp
          refine hK _ _ ?_; clear hK K
          have HI : Hid (Its (wr.alloc (.cells #[.int .i64 mq, .int .i64 i] 3)).drew (.slice (some ⟨wr.heap.size, 0, none⟩) 2 2) ([mq, i].map (fun q : Nat => (q : Int)))) := Lib.hid ((its_new wr [(mq : Int), (i : Int)] (by simp) (by
            intro x hx
            simp only [List.mem_cons, List.not_mem_nil, or_false] at hx
            unfold I64
            rcases hx with rfl | rfl <;> omega)).kept (Keep.refl _ _).drew)
          have HK1 : Hid (Keep (fun _ => False) wr (wr.alloc (.cells #[.int .i64 mq, .int .i64 i] 3)).drew) := Lib.hid ((Keep.refl _ wr).alloc _).drew
          have HSZ : Hid (wr.heap.size < (wr.alloc (.cells #[.int .i64 mq, .int .i64 i] 3)).drew.heap.size) := Lib.hid (by show wr.heap.size < (wr.alloc _).heap.size; simp)
          generalize (wr.alloc (.cells #[.int .i64 mq, .int .i64 i] 3)).drew = V1 at *
          generalize hws : wr.heap.size = ws at HI HSZ
          have HWS := Lib.hid hws
          clear hws
          have HK1' : Hid (Keep (fun j => u3.ownBlock = some j) wr V1) := Lib.hid (HK1.out.mono (fun _ h => h.elim))
          refine walkW_do rfl (inKA.of HK1'.out) (fun K hK => ?_)
          go_simp
          refine (text_any _ _ [mq, i] V1 (by decide) (by simp) (by
            intro q hq
            simp only [List.mem_cons, List.not_mem_nil, or_false] at hq
            rcases hq with rfl | rfl <;> omega) HI.out).mono ?_
          rintro e w' ⟨rfl, rfl⟩
          refine hK _ _ ?_; clear hK K
          have hnt := nodeT_eq mq i
          rw [← hnt]
          clear hnt
          have HP : Hid (((pt (nodeT (mq : Int) i) : Nat) : Int) = PN (mq : Int) i) := Lib.hid rfl
          have HPT := Lib.hid (point_any (nodeT (mq : Int) i) (nodeT_size (by rw [Int.toNat_natCast]; omega) hi100) V1 ((HT.out.kept HOW.out.1).kept HK1.out))
          rw [HP.out] at HPT
          clear HP
          generalize nodeT (mq : Int) i = nt at *
          refine walkW_do rfl (inKA.of HK1'.out) (fun K hK => ?_)
          go_simp
          refine HPT.out.mono ?_
          rintro e w' ⟨rfl, rfl⟩
          refine hK _ _ ?_; clear hK K
          obtain ⟨v', W3, hr, how3, hk3, hob3⟩ := (HOW.out.keep HK1.out).snoc ⟨PN (mq : Int) i, mq, i⟩ (drawK_len HV.out)
          simp only [] at hr
          have HN : Hid (OwnM w (drawK l k (i + 1)) v' W3) := Lib.hid (by
            rw [drawK_succ HM.out (by show i < 4 * (wq : Int).toNat; rw [Int.toNat_natCast]; omega)]
            exact how3)
          have HK3 : Hid (Keep (fun j => u3.ownBlock = some j) wr W3) := Lib.hid (HK1'.out.trans hk3)
          have HCZ3 : Hid (W3.cell? ⟨z, 0, none⟩ = some (.int .i64 mq)) := Lib.hid (HK3.out.cell HCZ.out (fun e => HOB.out z e rfl))
          have HOB3 : Hid (∀ j, v'.ownBlock = some j → j ≠ z) := Lib.hid (fun j e => by
            rcases hob3 with h | h
            · exact HOB.out j (h.symm.trans e)
            · rw [h] at e
              cases e
              have h1 := World.block_lt_of_cell? _ _ HCZ.out
              have h2 := HWS.out
              have h3 := HSZ.out
              simp only [] at h1
              omega)
          have HR := Lib.hid hr
          clear how3 hk3 hob3 hr
          generalize PN (mq : Int) i = pn at *
          refine walkW_do rfl (inKA.of HK1'.out) (fun K hK => ?_)
          go_simp
          refine hK _ _ ?_; clear hK K
          refine walkW_do rfl (inKA.of HK1'.out) (fun K hK => ?_)
          go_simp
          refine hK _ _ ?_; clear hK K
          refine walkW_do rfl (inKA.of (HK1'.out.alloc _)) (fun K hK => ?_)
          rw [if_pos (by simp [Region.wanted])]
          refine wp_app (.tmp 19) (.tmp 30) 66 rfl rfl rfl HR.out (hK _ _ ?_); clear hK K
          refine walkW_do rfl (inKA.of HK3.out) (fun K hK => ?_)
          go_simp
          refine hK _ _ ?_; clear hK K
          refine ⟨inKA.of HK3.out, ?_⟩
          go_wp2_with fail
          go_roundg (gk - 1)
          case rel => exact ⟨i + 1, by omega, by go_num, HN.out, HCZ3.out, HOB3.out⟩
          case measure => omega
        · obtain rfl : i = 4 * wq := by omega
          have HN : Hid (OwnM w (drawK l (k + 1) 0) u3 wr) := Lib.hid (by
            have := HOW.out
            rwa [show 4 * wq = 4 * (wq : Int).toNat by rw [Int.toNat_natCast], drawK_next HM.out] at this)
          have hiz : ¬ ((4 * wq : Nat) : Int) < 4 * (wq : Int) := by omega
          go_wp2_with fail
          go_roundg (n - (k + 1))
          case rel => exact ⟨k + 1, by omega, by go_num, HN.out⟩
          case measure => omega
    · have HN : Hid (OwnM w (draws PN l) u3 wr) := Lib.hid (by
        have := HOW.out
        rwa [drawK_all (by have := HL.out; omega)] at this)
      go_wp2_with fail
      with_reducible refine (HQ.out _ _ HN.out).mono ?_
      rintro e W3 ⟨rfl, hq⟩
      go_wp2_with fail
      exact hq
end Go.Proofs.YtplkmbfeeegaiaaDoor
