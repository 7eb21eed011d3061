/-
  Several texts in one, each under its own heading below (merged by a program of ours): the contracts of the functions that the law reaches, part 3 of 5.
-/
import Derived.Test.YtiacdkggbnoigaaGreatDoorM1
import Derived.Test.YtiacdkggbnoigaaGreatDoorM2

/-
  The next ring: Change of package reshard.
-/
namespace Go.Proofs.YtiacdkggbnoigaaGreatDoor
open Go.RowKit Go.Shelf

/-- A ring of its own, as it is returned. -/
def RingPost (ep : Int) (l : List Mb) (ow : List Int) (w : World) (e : Ending) (w' : World) : Prop := ∃ am cm ao co, e = .returned (.tuple #[.agg #[.int .i64 ep, .slice am l.length cm, .slice ao ow.length co], .int .i64 0]) ∧ w'.ownsRow w.heap.size 44 3 (.slice am l.length cm) l.length (flatB l) ∧ w'.ownsRow w.heap.size 3 1 (.slice ao ow.length co) ow.length (ow.map (fun x => Value.int .i64 x)) ∧ Keep (fun _ => False) w w'
/-- The room of each node. -/
def RoomAt (W : World) (b : Nat) (g : Int → Int) : Prop := (∀ i : Nat, i < 24 → W.cell? ⟨b, i, none⟩ = some (.int .i64 (g i))) ∧ ∀ o, W.frozen? ⟨b, o, none⟩ = false
theorem RoomAt.keep {W W' : World} {b : Nat} {g : Int → Int} {A : Nat → Prop} (h : RoomAt W b g) (k : Keep A W W') (hb : ¬ A b) : RoomAt W' b g :=
  ⟨fun i hi => k.cell (h.1 i hi) hb, fun o => (k.frozen (World.block_lt_of_cell? _ _ (h.1 0 (by decide))) hb o).trans (h.2 o)⟩
theorem RoomAt.kept {W W' : World} {b : Nat} {g : Int → Int} (h : RoomAt W b g) (k : Keep (fun _ => False) W W') : RoomAt W' b g := h.keep k (fun h => h)
theorem RoomAt.lt {W : World} {b : Nat} {g : Int → Int} (h : RoomAt W b g) : b < W.heap.size := World.block_lt_of_cell? _ _ (h.1 0 (by decide))
theorem RoomAt.set {W : World} {b : Nat} {g : Int → Int} (h : RoomAt W b g) {n : Nat} (hn : n < 24) (x : Int) : RoomAt (W.setCell ⟨b, n, none⟩ (.int .i64 x)) b (upd g n x) := by
  refine ⟨fun i hi => ?_, fun o => (World.frozen?_setCell _ _ _ _).trans (h.2 o)⟩
  unfold upd
  by_cases e : i = n
  · subst e; rw [if_pos rfl]; exact cell_set_same (h.1 i hi)
  · rw [if_neg (by omega), cell_set_off (fun e' => e e'.symm)]; exact h.1 i hi
theorem RoomAt.congr {W : World} {b : Nat} {g f : Int → Int} (h : RoomAt W b g) (e : ∀ n, f n = g n) : RoomAt W b f := ⟨fun i hi => by rw [e]; exact h.1 i hi, h.2⟩

theorem RoomAt.congr' {W : World} {b : Nat} {g f : Int → Int} (h : RoomAt W b g) (e : ∀ i : Nat, i < 24 → f i = g i) : RoomAt W b f := ⟨fun i hi => by rw [e i hi]; exact h.1 i hi, h.2⟩
theorem room_new (W : World) (t : TypeId) : RoomAt (W.alloc (.cells #[.int .i64 0, .int .i64 0, .int .i64 0, .int .i64 0, .int .i64 0, .int .i64 0, .int .i64 0, .int .i64 0, .int .i64 0, .int .i64 0, .int .i64 0, .int .i64 0, .int .i64 0, .int .i64 0, .int .i64 0, .int .i64 0, .int .i64 0, .int .i64 0, .int .i64 0, .int .i64 0, .int .i64 0, .int .i64 0, .int .i64 0, .int .i64 0] t)) W.heap.size (fun _ => 0) := by
  refine ⟨fun i hi => ?_, fun o => ?_⟩
  · have h := cells_new W (List.replicate 24 (.int .i64 0)) t i (.int .i64 0) (by rw [List.getElem?_replicate, if_pos hi])
    exact h
  · have hh : (W.alloc (.cells (List.replicate 24 (.int .i64 0)).toArray t)).heap[W.heap.size]? = some (.cells (List.replicate 24 (.int .i64 0)).toArray t) := World.alloc_heap_new _ _
    unfold World.frozen?
    rw [show (W.alloc (.cells #[.int .i64 0, .int .i64 0, .int .i64 0, .int .i64 0, .int .i64 0, .int .i64 0, .int .i64 0, .int .i64 0, .int .i64 0, .int .i64 0, .int .i64 0, .int .i64 0, .int .i64 0, .int .i64 0, .int .i64 0, .int .i64 0, .int .i64 0, .int .i64 0, .int .i64 0, .int .i64 0, .int .i64 0, .int .i64 0, .int .i64 0, .int .i64 0] t)).heap[W.heap.size]? = some (.cells (List.replicate 24 (.int .i64 0)).toArray t) from hh]
    simp
/-- A box of three cells, with its type. -/
def BoxT (W : World) (z : Nat) (t : TypeId) : Prop := ∃ cs, W.heap[z]? = some (.cells cs t (0, 0))
theorem own_ne {W : World} {lo z g n c : Nat} {t e : TypeId} {k : Nat} {a : Option Addr} {xs : List Value} (h : W.ownsRow lo e k (.slice a n c) n xs) (hb : BoxT W z t) (ht : t ≠ e) (hg : (Value.slice a n c).ownBlock = some g) : g ≠ z := by
  intro e'
  subst e'
  rcases h.2 with ⟨h1, h2⟩ | ⟨g', cap, cur, h1, _, hh, _⟩
  · obtain ⟨rfl, -, -⟩ := Value.slice.inj h1
    cases hg
  · obtain ⟨rfl, -, -⟩ := Value.slice.inj h1
    cases hg
    obtain ⟨cs, hcs⟩ := hb
    rw [hh] at hcs
    cases hcs
    exact ht rfl

theorem own_some' {W : World} {lo : Nat} {e : TypeId} {z n c : Nat} {a : Option Addr} {xs : List Value} (h : W.ownsRow lo e z (.slice a n c) n xs) (hn : 0 < n) : ∃ g, a = some ⟨g, 0, none⟩ := by
  rcases h.2 with ⟨h1, h2⟩ | ⟨g, c', cur, h1, _⟩
  · omega
  · obtain ⟨rfl, -, -⟩ := Value.slice.inj h1
    exact ⟨g, rfl⟩
theorem own_apart {W : World} {lo lo' : Nat} {e e' : TypeId} {k k' n n' : Nat} {v v' : Value} {xs xs' : List Value} (h : W.ownsRow lo e k v n xs) (h' : W.ownsRow lo' e' k' v' n' xs') (hne : e ≠ e') {b : Nat} (hb : v.ownBlock = some b) : ¬ v'.ownBlock = some b := by
  intro hb'
  rcases h.2 with ⟨rfl, _⟩ | ⟨g, cap, cur, rfl, _, hh, _⟩
  · cases hb
  · cases hb
    rcases h'.2 with ⟨rfl, _⟩ | ⟨g2, cap2, cur2, rfl, _, hh2, _⟩
    · cases hb'
    · cases hb'
      rw [hh] at hh2
      cases hh2
      exact hne rfl
/-- What the free operations of a region answer: the copies, the ring, its box. -/
def chgS (ep : Int) (l : List Mb) (ow : List Int) (n B : Nat) (t : Nat) (v : Value) (W : World) : Prop :=
  (t = 53 → ∃ a c, v = .slice a n c ∧ W.ownsRow B 44 3 (.slice a n c) n (flatB l)) ∧
  (t = 56 → ∃ a c, v = .slice a 64 c ∧ W.ownsRow B 3 1 (.slice a 64 c) 64 (ow.map (fun x => Value.int .i64 x))) ∧
  (t = 57 → ∃ a c a' c', v = .agg #[.int .i64 ep, .slice a n c, .slice a' 64 c'] ∧ W.ownsRow B 44 3 (.slice a n c) n (flatB l) ∧ W.ownsRow B 3 1 (.slice a' 64 c') 64 (ow.map (fun x => Value.int .i64 x))) ∧
  (t = 9 → ∃ z, v = ptr z ∧ B ≤ z ∧ Box3 W z (.int .i64 0) (.slice none 0 0) (.slice none 0 0) ∧ BoxT W z 25)
section
variable {ep : Int} {l : List Mb} {ow : List Int} {n B : Nat} {v : Value} {W : World}
theorem chgS_53 (h : ∃ a c, v = .slice a n c ∧ W.ownsRow B 44 3 (.slice a n c) n (flatB l)) : chgS ep l ow n B 53 v W := ⟨fun _ => h, fun e => absurd e (by decide), fun e => absurd e (by decide), fun e => absurd e (by decide)⟩
theorem chgS_56 (h : ∃ a c, v = .slice a 64 c ∧ W.ownsRow B 3 1 (.slice a 64 c) 64 (ow.map (fun x => Value.int .i64 x))) : chgS ep l ow n B 56 v W := ⟨fun e => absurd e (by decide), fun _ => h, fun e => absurd e (by decide), fun e => absurd e (by decide)⟩
theorem chgS_57 (h : ∃ a c a' c', v = .agg #[.int .i64 ep, .slice a n c, .slice a' 64 c'] ∧ W.ownsRow B 44 3 (.slice a n c) n (flatB l) ∧ W.ownsRow B 3 1 (.slice a' 64 c') 64 (ow.map (fun x => Value.int .i64 x))) : chgS ep l ow n B 57 v W := ⟨fun e => absurd e (by decide), fun e => absurd e (by decide), fun _ => h, fun e => absurd e (by decide)⟩
theorem chgS_9 (h : ∃ z, v = ptr z ∧ B ≤ z ∧ Box3 W z (.int .i64 0) (.slice none 0 0) (.slice none 0 0) ∧ BoxT W z 25) : chgS ep l ow n B 9 v W := ⟨fun e => absurd e (by decide), fun e => absurd e (by decide), fun e => absurd e (by decide), fun _ => h⟩
end
theorem BoxT.kept {W W' : World} {z : Nat} {t : TypeId} (h : BoxT W z t) (k : Keep (fun _ => False) W W') : BoxT W' z t := by
  obtain ⟨cs, hcs⟩ := h
  exact ⟨cs, k.heap hcs (fun h => h)⟩
theorem chgS_keep {ep : Int} {l : List Mb} {ow : List Int} {n B : Nat} (t : Nat) (v : Value) (w w' : World) (h : chgS ep l ow n B t v w) (k : Keep (fun _ => False) w w') : chgS ep l ow n B t v w' := by
  obtain ⟨h1, h2, h3, h4⟩ := h
  refine ⟨fun e => ?_, fun e => ?_, fun e => ?_, fun e => ?_⟩
  · obtain ⟨a, c, q1, q2⟩ := h1 e
    exact ⟨a, c, q1, ownsRow_keep q2 k (fun _ _ h => h)⟩
  · obtain ⟨a, c, q1, q2⟩ := h2 e
    exact ⟨a, c, q1, ownsRow_keep q2 k (fun _ _ h => h)⟩
  · obtain ⟨a, c, a', c', q1, q2, q3⟩ := h3 e
    exact ⟨a, c, a', c', q1, ownsRow_keep q2 k (fun _ _ h => h), ownsRow_keep q3 k (fun _ _ h => h)⟩
  · obtain ⟨z, q1, q2, q3, q4⟩ := h4 e
    exact ⟨z, q1, q2, q3.kept k, q4.kept k⟩

set_option maxRecDepth 100000 in
set_option maxHeartbeats 8000000 in
theorem changeR_ok (v vl : Value) (ep : Int) (lr l : List Mb) (ow : List Int) (w : World) (h : Rng w v ep lr ow) (hvr : validRB ep lr ow = true) (he : ep < 1000000) (hl : Mbs w vl l) (hv : VL l) (hT : Tab w) : Calls Tryz.prog 8 #[v, vl] w (RingPost (ep + 1) l (changeL PN QS l ow) w) := by
  have HT := Lib.hid hT
  have HRG := Lib.hid h
  have HVR := Lib.hid hvr
  have HOK := Lib.hid ((validRB_iff ep lr ow).1 hvr)
  have HML := Lib.hid hl
  have HV := Lib.hid hv
  have HVL := Lib.hid ((validL_iff l).2 hv)
  obtain ⟨hb0, vm, vo, rfl, hm0, ho0⟩ := h
  obtain ⟨ma, mn, mc, rfl⟩ : ∃ a n c, vm = .slice a n c := by obtain ⟨a, c, b, off, h, _⟩ := hm0.at_; exact ⟨_, _, _, h⟩
  obtain ⟨-, -, oa, oc, ob, oo, rfl, hoc, hoa, hocell⟩ := ho0
  obtain ⟨-, -, la, lc, lb, lo, rfl, hlc, hla, hlcell⟩ := hl
  have hep1 : 1 ≤ ep := HOK.out.1
  have hol : ow.length = 64 := HOK.out.2.2.2.1
  obtain ⟨ln, hln⟩ : ∃ n, l.length = n := ⟨_, rfl⟩
  have HLN := Lib.hid hln
  have hln24 : ln ≤ 24 := by rw [← hln]; exact hv.len
  have hln1 : 0 < ln := by rw [← hln]; exact List.length_pos_iff.2 hv.ne
  obtain rfl := hla (by omega)
  obtain rfl := hoa (by omega)
  have HOL := Lib.hid hol
  have HLC := Lib.hid hlcell
  have HOC := Lib.hid hocell
  rw [hln] at hlc HML ⊢
  rw [hol] at hoc HRG ⊢
  clear hT hvr hv hm0 hb0 hlcell hocell hla hoa hln hol
  have HX := Lib.hid (Box3.new w (.int .i64 ep) (.slice ma mn mc) (.slice (some ⟨ob, oo, none⟩) 64 oc) 25)
  have HY := Lib.hid (Box3.new (w.alloc (.cells #[.int .i64 ep, .slice ma mn mc, .slice (some ⟨ob, oo, none⟩) 64 oc] 25)) (.int .i64 0) (.slice none 0 0) (.slice none 0 0) 25)
  have HKA : Hid (Keep (fun _ => False) w (w.alloc (.cells #[.int .i64 ep, .slice ma mn mc, .slice (some ⟨ob, oo, none⟩) 64 oc] 25))) := Lib.hid ((Keep.refl _ w).alloc _)
  have HKB : Hid (Keep (fun _ => False) (w.alloc (.cells #[.int .i64 ep, .slice ma mn mc, .slice (some ⟨ob, oo, none⟩) 64 oc] 25)) ((w.alloc (.cells #[.int .i64 ep, .slice ma mn mc, .slice (some ⟨ob, oo, none⟩) 64 oc] 25)).alloc (.cells #[.int .i64 0, .slice none 0 0, .slice none 0 0] 25))) := Lib.hid ((Keep.refl _ _).alloc _)
  have HX0 := Lib.hid (HX.out.kept HKB.out)
  rw [World.size_alloc] at HY
  have HK0 := Lib.hid (HKA.out.trans HKB.out)
  clear HX HKA HKB
  go_enter Tryz.func8, Tryz.ntmps8
  go_wp2_with fail
  generalize (w.alloc (.cells #[.int .i64 ep, .slice ma mn mc, .slice (some ⟨ob, oo, none⟩) 64 oc] 25)).alloc (.cells #[.int .i64 0, .slice none 0 0, .slice none 0 0] 25) = W0 at *
  generalize hz : w.heap.size = z at HX0 HY ⊢
  have HZ := Lib.hid hz
  clear hz
  obtain ⟨x0, x1, x2, xf⟩ := HX0.out
  go_step3
  go_wp2_with fail
  clear x0 x1 x2 xf
  have hvc := validRing_any _ ep lr ow W0 (HRG.out.kept HK0.out)
  rw [HVR.out] at hvc
  with_reducible refine hvc.mono ?_
  clear hvc
  rintro e W1 ⟨rfl, k1⟩
  have HX1 := Lib.hid (HX0.out.kept k1)
  have HY1 := Lib.hid (HY.out.kept k1)
  have HK1 := Lib.hid (HK0.out.trans k1)
  clear k1 HX0 HY HK0
  go_wp2_with fail
  have hvc := valid_any _ l W1 (HML.out.kept HK1.out)
  rw [HVL.out] at hvc
  with_reducible refine hvc.mono ?_
  clear hvc
  rintro e W2 ⟨rfl, k2⟩
  have HX2 := Lib.hid (HX1.out.kept k2)
  have HY2 := Lib.hid (HY1.out.kept k2)
  have HK2 := Lib.hid (HK1.out.trans k2)
  clear k2 HX1 HY1 HK1
  obtain ⟨x0, x1, x2, xf⟩ := HX2.out
  go_upto_region 4 with (fail)
  clear x0 x1 x2 xf
  have HR3 := Lib.hid ((room_new W2 55).congr (f := gLim l 0) (fun n => gLim_zero l n))
  have HK23 : Hid (Keep (fun _ => False) W2 (W2.alloc (.cells #[.int .i64 0, .int .i64 0, .int .i64 0, .int .i64 0, .int .i64 0, .int .i64 0, .int .i64 0, .int .i64 0, .int .i64 0, .int .i64 0, .int .i64 0, .int .i64 0, .int .i64 0, .int .i64 0, .int .i64 0, .int .i64 0, .int .i64 0, .int .i64 0, .int .i64 0, .int .i64 0, .int .i64 0, .int .i64 0, .int .i64 0, .int .i64 0] 55))) := Lib.hid ((Keep.refl _ W2).alloc _)
  generalize W2.alloc (.cells #[.int .i64 0, .int .i64 0, .int .i64 0, .int .i64 0, .int .i64 0, .int .i64 0, .int .i64 0, .int .i64 0, .int .i64 0, .int .i64 0, .int .i64 0, .int .i64 0, .int .i64 0, .int .i64 0, .int .i64 0, .int .i64 0, .int .i64 0, .int .i64 0, .int .i64 0, .int .i64 0, .int .i64 0, .int .i64 0, .int .i64 0, .int .i64 0] 55) = W3 at *
  have HZB : Hid (z + 1 < W2.heap.size) := Lib.hid HY2.out.lt
  generalize W2.heap.size = b6 at *
  have HX3 := Lib.hid (HX2.out.kept HK23.out)
  have HY3 := Lib.hid (HY2.out.kept HK23.out)
  have HK3 := Lib.hid (HK2.out.trans HK23.out)
  clear HX2 HY2 HK2 HK23
  go_upto_region 5 with (fail)
  go_wp2_with fail
  go_loopg [37] ln (fun gh v37 wr => ∃ k : Nat, gh + k = ln ∧ v37 = .int .i64 k ∧ RoomAt wr b6 (gLim l k) ∧ Keep (fun j => j = b6) W3 wr)
  case atStart => exact ⟨0, by omega, rfl, HR3.out, Keep.refl _ _⟩
  case round =>
    clear HR3
    obtain ⟨k, hk, rfl, hroom, hkeep⟩ := hrel
    have HRM := Lib.hid hroom
    have HK := Lib.hid hkeep
    have HKW : Hid (Keep (fun _ => False) w wr) := Lib.hid (HK3.out.trans' hkeep (fun j e => .inr (by have := HZ.out; have := HZB.out; omega)))
    clear hroom hkeep
    by_cases hlt : k < ln
    · obtain ⟨m, hm⟩ : ∃ m, l[k]? = some m := ⟨_, List.getElem?_eq_getElem (by have := HLN.out; omega)⟩
      have c0 := HKW.out.cell (HLC.out k m hm).1 (fun h => h)
      have c1 := HKW.out.cell (HLC.out k m hm).2.1 (fun h => h)
      have c2 := HKW.out.cell (HLC.out k m hm).2.2 (fun h => h)
      have hok := HV.out.ok m (List.mem_of_getElem? hm)
      have HM := Lib.hid hm
      unfold okMb at hok
      have hkz : (k : Int) < (ln : Int) := by omega
      have hk0 : (0 : Int) ≤ (k : Int) := by omega
      clear hm
      obtain ⟨mn', mr, mw⟩ := m
      simp only [] at c0 c1 c2 hok
      obtain ⟨mq, rfl⟩ : ∃ mq : Nat, mn' = mq := ⟨mn'.toNat, by omega⟩
      go_upto_region 7 with (fail)
      clear c0 c1 c2
      have HB := Lib.hid (Box3.new wr (.int .i64 mq) (.int .i64 mr) (.int .i64 mw) 44)
      have HKV : Hid (Keep (fun _ => False) wr (wr.alloc (.cells #[.int .i64 mq, .int .i64 mr, .int .i64 mw] 44))) := Lib.hid ((Keep.refl _ wr).alloc _)
      have hbz := HRM.out.lt
      generalize wr.alloc (.cells #[.int .i64 mq, .int .i64 mr, .int .i64 mw] 44) = V at *
      generalize wr.heap.size = zb at *
      have HBZ : Hid (zb ≠ b6) := Lib.hid (by omega)
      clear hbz
      have a0 : ∀ p : KA (fun j => j = b6) V, p.val.cell? ⟨zb, 0, none⟩ = some (.int .i64 mq) := fun p => p.k.cell HB.out.1 (fun e => HBZ.out e)
      have hmq0 : (0 : Int) ≤ (mq : Int) := by omega
      have hmq1 : (mq : Int) < 24 := by omega
      have hmq2 : mq < 24 := by omega
      have HRV := Lib.hid (HRM.out.kept HKV.out)
      refine wp_region_walk [(true, 0), (true, 1), (true, 2), (true, 3), (true, 4), (false, 5), (false, 6), (false, 7)] (inKA (fun j => j = b6) V) (by kernel_rfl) (by kernel_rfl) ?_
      iterate 5 (refine walkW_read rfl (fun K hK => ?_); go_simp; refine hK _ ?_; clear hK K)
      clear a0
      have HKD : Hid (Keep (fun _ => False) V V.drew) := Lib.hid (Keep.refl _ V).drew
      have HLI := Lib.hid (limit_any _ l V.drew (HML.out.kept (HKW.out.trans (HKV.out.trans HKD.out))) mq (by unfold I64; omega))
      generalize V.drew = V1 at *
      refine walkW_do rfl (inKA.of (HKD.out.mono (fun _ h => h.elim))) (fun K hK => ?_)
      go_simp
      refine HLI.out.mono ?_
      rintro e V2 ⟨rfl, kk⟩
      refine hK _ _ ?_; clear hK K
      have HK12 := Lib.hid (HKD.out.trans kk)
      have HRV2 := Lib.hid (HRV.out.kept HK12.out)
      clear kk
      have cb := HRV2.out.1 mq hmq2
      have cf := HRV2.out.2
      have HRS := Lib.hid (HRV2.out.set hmq2 (limitL l mq))
      refine walkW_do rfl (inKA.of (HK12.out.mono (fun _ h => h.elim))) (fun K hK => ?_)
      go_simp
      refine hK _ _ ?_; clear hK K
      refine walkW_do rfl (inKA.of (HK12.out.mono (fun _ h => h.elim))) (fun K hK => ?_)
      go_simp
      refine hK _ _ ?_; clear hK K
      have HKS : Hid (Keep (fun j => j = b6) V (V2.setCell ⟨b6, mq, none⟩ (.int .i64 (limitL l mq)))) := Lib.hid ((HK12.out.mono (fun _ h => h.elim)).setCell (p := ⟨b6, mq, none⟩) _ (.inl rfl))
      clear cb cf
      have HRN : Hid (RoomAt (V2.setCell ⟨b6, mq, none⟩ (.int .i64 (limitL l mq))) b6 (gLim l (k + 1))) := Lib.hid (HRS.out.congr (fun n => gLim_succ HM.out n))
      generalize V2.setCell ⟨b6, mq, none⟩ (.int .i64 (limitL l mq)) = V3 at *
      refine ⟨inKA.of HKS.out, ?_⟩
      go_wp2_with fail
      go_roundg (gk - 1)
      case rel => exact ⟨k + 1, by omega, by go_num, HRN.out, HK.out.trans ((HKV.out.mono (fun _ h => h.elim)).trans HKS.out)⟩
      case measure => omega
    · have HRL := Lib.hid (HRM.out.congr (f := limitL l) (fun n => (gLim_all (by have := HLN.out; omega) n).symm))
      have hk' : k = ln := by omega
      have HX4 := Lib.hid (HX3.out.keep HK.out (by have := HZB.out; omega))
      have HY4 := Lib.hid (HY3.out.keep HK.out (by have := HZB.out; omega))
      have hkz : ¬ ((k : Int) < (ln : Int)) := by omega
      clear HRM HX3 HY3 HK HK3
      go_upto_region 9 with (fail)
      clear hkz hk' hk
      have hw1 : IntKind.i64.wrap (ep + 1) = ep + 1 := wrapI (by unfold I64; omega)
      have HIO : Hid (Its w (.slice (some ⟨ob, oo, none⟩) 64 oc) ow) := Lib.hid (by
        obtain ⟨vm', vo', e1, _, h2⟩ := HRG.out.at_
        cases e1
        exact h2)
      have x0 : ∀ p : KA (fun _ => False) wr, p.val.cell? ⟨z, 0, none⟩ = some (.int .i64 ep) := fun p => (HX4.out.kept p.k).1
      have x2 : ∀ p : KA (fun _ => False) wr, p.val.cell? ⟨z, 2, none⟩ = some (.slice (some ⟨ob, oo, none⟩) 64 oc) := fun p => (HX4.out.kept p.k).2.2.1
      refine wp_region_free [0, 1, 2, 3, 5, 6] [⟨4, 53, []⟩, ⟨7, 56, []⟩, ⟨9, 9, []⟩, ⟨8, 57, [53, 56]⟩] [(false, 10)] (inKA (fun _ => False) wr) (chgS (ep + 1) l ow ln wr.heap.size) (Keep (fun _ => False)) (by kernel_rfl) (by kernel_rfl) (inKA.of (Keep.refl _ wr).drew) chgS_keep (fun w w' hw hk => by obtain ⟨p, rfl⟩ := hw; exact inKA.of (p.k.trans hk)) ?_
      iterate 6 (refine headW_step rfl (fun K hK => ?_); go_simp; refine hK _ ?_; clear hK K)
      clear x0 x2 hw1
      refine ⟨?_, ?_, ?_⟩
      · intro h hh
        simp only [List.mem_cons, List.not_mem_nil, or_false] at hh
        rcases hh with rfl | rfl | rfl | rfl <;> simp
      · refine freeW_step rfl (fun vs W hC hS K hK => ?_) (freeW_step rfl (fun vs W hC hS K hK => ?_) (freeW_step rfl (fun vs W hC hS K hK => ?_) (freeW_step rfl (fun vs W hC hS K hK => ?_) trivial)))
        · obtain ⟨p, rfl⟩ := hC
          simp only [putL, List.foldl]
          have HCL := Lib.hid (cloneM_any _ l p.val (HML.out.kept (HKW.out.trans p.k)) (by have := HLN.out; omega))
          have hsz := p.k.size
          go_simp
          refine HCL.out.mono ?_
          rintro e W2 ⟨a, c, rfl, hown, kk⟩
          rw [HLN.out] at hown ⊢
          exact hK _ _ (chgS_53 ⟨a, c, rfl, ownsRow_lo hown hsz⟩) kk
        · obtain ⟨p, rfl⟩ := hC
          simp only [putL, List.foldl]
          have HCL := Lib.hid (cloneI_any _ ow p.val (HIO.out.kept (HKW.out.trans p.k)) (by have := HOL.out; omega))
          have hsz := p.k.size
          go_simp
          refine HCL.out.mono ?_
          rintro e W2 ⟨a, c, rfl, hown, kk⟩
          rw [HOL.out] at hown ⊢
          exact hK _ _ (chgS_56 ⟨a, c, rfl, ownsRow_lo hown hsz⟩) kk
        · obtain ⟨p, rfl⟩ := hC
          simp only [putL, List.foldl]
          have hsz := p.k.size
          go_simp
          exact hK _ _ (chgS_9 ⟨p.val.heap.size, rfl, hsz, Box3.new _ _ _ _ _, ⟨_, World.alloc_heap_new _ _⟩⟩) ((Keep.refl _ p.val).alloc _)
        · obtain ⟨a, c, e1, h1⟩ := (hS 53 (by simp)).1 rfl
          obtain ⟨a', c', e2, h2⟩ := (hS 56 (by simp)).2.1 rfl
          simp only [putL, List.foldl]
          generalize vs 53 = v53 at *
          generalize vs 56 = v56 at *
          subst e1 e2
          go_simp
          exact hK _ _ (chgS_57 ⟨a, c, a', c', rfl, h1, h2⟩) (Keep.refl _ W)
      · intro vs W hC hS
        obtain ⟨p, rfl⟩ := hC
        obtain ⟨am, cm, ao, co, e1, hm9, ho9⟩ := (hS ⟨8, 57, [53, 56]⟩ (by simp)).2.2.1 rfl
        obtain ⟨z9, e2, hz9, hb9, ht9⟩ := (hS ⟨9, 9, []⟩ (by simp)).2.2.2 rfl
        obtain ⟨a53, c53, e3, -⟩ := (hS ⟨4, 53, []⟩ (by simp)).1 rfl
        obtain ⟨a56, c56, e4, -⟩ := (hS ⟨7, 56, []⟩ (by simp)).2.1 rfl
        simp only [] at e1 e2 e3 e4
        simp only [List.map, putL, List.foldl]
        generalize vs 57 = v57 at *
        generalize vs 9 = v9 at *
        generalize vs 53 = v53 at *
        generalize vs 56 = v56 at *
        subst e1 e2 e3 e4
        obtain ⟨og, rfl⟩ := own_some' ho9 (by decide)
        have HKP := Lib.hid p.k
        have HRP := Lib.hid (HRL.out.kept p.k)
        have HXP := Lib.hid (HX4.out.kept p.k)
        have HYP := Lib.hid (HY4.out.kept p.k)
        have HB6 : Hid (b6 < wr.heap.size) := Lib.hid HRL.out.lt
        have HBP := Lib.hid hb9
        have HMP := Lib.hid hm9
        have HOP := Lib.hid ho9
        have HOGZ : Hid (og ≠ z9) := Lib.hid (own_ne ho9 ht9 (by decide) rfl)
        have HGMZ : Hid (∀ b, (Value.slice am ln cm).ownBlock = some b → b ≠ z9) := Lib.hid (fun b hb => own_ne hm9 ht9 (by decide) hb)
        have HGMO : Hid (∀ b, (Value.slice am ln cm).ownBlock = some b → b ≠ og) := Lib.hid (fun b hb e => own_apart hm9 ho9 (by decide) hb (by rw [e]; rfl))
        have HZ9 := Lib.hid hz9
        have HOGB : Hid (wr.heap.size ≤ og) := Lib.hid (ho9.lt og rfl).1
        have HGMB : Hid (∀ b, (Value.slice am ln cm).ownBlock = some b → wr.heap.size ≤ b) := Lib.hid (fun b hb => (hm9.lt b hb).1)
        clear hS hz9 hb9 ht9 hm9 ho9 HRL HX4 HY4
        have HKWP := Lib.hid (HKW.out.trans p.k)
        have HSZW := Lib.hid HKW.out.size
        generalize p.val = V at *
        obtain ⟨B, hB⟩ : ∃ B, wr.heap.size = B := ⟨_, rfl⟩
        have HSZR : Hid (wr.heap.size ≤ B) := Lib.hid (by omega)
        rw [hB] at HZ9 HOGB HGMB HB6 HSZW HMP HOP
        clear hB
        obtain ⟨y0, y1, y2, yf⟩ := HBP.out
        refine walkW_do rfl (inKA.of HKP.out) (fun K hK => ?_)
        go_simp
        refine hK _ _ ?_; clear hK K
        clear y0 y1 y2 yf
        have kq : Keep (fun j => j = z9) V (((V.setCell ⟨z9, 0, none⟩ (.int .i64 (ep + 1))).setCell ⟨z9, 1, none⟩ (.slice am ln cm)).setCell ⟨z9, 2, none⟩ (.slice (some ⟨og, 0, none⟩) 64 co)) := (((Keep.refl (fun j => j = z9) V).setCell (p := ⟨z9, 0, none⟩) _ (.inl rfl)).setCell (p := ⟨z9, 1, none⟩) _ (.inl rfl)).setCell (p := ⟨z9, 2, none⟩) _ (.inl rfl)
        have HBQ := Lib.hid (((HBP.out.set0 (.int .i64 (ep + 1))).set1 (.slice am ln cm)).set2 (.slice (some ⟨og, 0, none⟩) 64 co))
        have HMQ := Lib.hid (ownsRow_keep HMP.out kq (fun b hb e => HGMZ.out b hb e))
        have HOQ := Lib.hid (ownsRow_keep HOP.out kq (fun b hb e => by cases hb; exact HOGZ.out e))
        have HRQ := Lib.hid (HRP.out.keep kq (by have := HB6.out; have := HZ9.out; omega))
        have HXQ := Lib.hid (HXP.out.keep kq (by have := HZ9.out; have := HB6.out; have := HZB.out; omega))
        have HYQ := Lib.hid (HYP.out.keep kq (by have := HZ9.out; have := HB6.out; have := HZB.out; omega))
        have HKQ : Hid (Keep (fun _ => False) w (((V.setCell ⟨z9, 0, none⟩ (.int .i64 (ep + 1))).setCell ⟨z9, 1, none⟩ (.slice am ln cm)).setCell ⟨z9, 2, none⟩ (.slice (some ⟨og, 0, none⟩) 64 co))) := Lib.hid (HKWP.out.trans' kq (fun j e => .inr (by have := HSZW.out; have := HZ9.out; omega)))
        have HKR : Hid (inKA (fun _ => False) wr (((V.setCell ⟨z9, 0, none⟩ (.int .i64 (ep + 1))).setCell ⟨z9, 1, none⟩ (.slice am ln cm)).setCell ⟨z9, 2, none⟩ (.slice (some ⟨og, 0, none⟩) 64 co))) := Lib.hid (inKA.of (HKP.out.trans' kq (fun j e => .inr (by have := HZ9.out; have := HSZR.out; omega))))
        clear kq HBP HMP HOP HRP HXP HYP HKP HKWP HKW
        generalize ((V.setCell ⟨z9, 0, none⟩ (.int .i64 (ep + 1))).setCell ⟨z9, 1, none⟩ (.slice am ln cm)).setCell ⟨z9, 2, none⟩ (.slice (some ⟨og, 0, none⟩) 64 co) = W9 at *
        refine ⟨HKR.out, ?_⟩
        clear HKR
        obtain ⟨b0, b1, b2, bf⟩ := HBQ.out
        go_upto_region 12 with (fail)
        clear b0 b1 b2 bf
        have HND := Lib.hid (okRing_nodes HOK.out)
        have HNE : Hid (∀ n ∈ ow, n ≠ -1) := Lib.hid (fun n hn e => by have := okRing_nodes HOK.out n hn; omega)
        have HKC : Hid (∀ i n, i ≤ 64 → n ≠ -1 → cnt (keepR ow (limitL l) i) n ≤ limitL l n) := Lib.hid (fun i n hi hn => by
          rw [keepR_cnt (fun n => (limitL_nn l n).1) hn (by have := HOL.out; omega)]; omega)
        clear HRG HVR HVL HIO hlt
        go_loopg [10, 61] 64 (fun gh v10 v61 wq => ∃ i : Nat, gh + i = 64 ∧ v61 = .int .i64 i ∧ wq.ownsRow W9.heap.size 3 1 v10 (homeL (keepR ow (limitL l) i)).length ((homeL (keepR ow (limitL l) i)).map (fun s : Nat => Value.int .i64 s)) ∧ RoomAt wq b6 (fun n => limitL l n - cnt (keepR ow (limitL l) i) n) ∧ Keep (fun j => j = b6) W9 wq)
        case atStart => exact ⟨0, by omega, rfl, by simpa [keepR, homeL] using World.ownsRow_nil W9 W9.heap.size 3 1, HRQ.out.congr (fun n => by simp [keepR, cnt]), Keep.refl _ _⟩
        case round =>
          obtain ⟨i, hi, rfl, hown, hroom, hkeep⟩ := hrel
          have HHO := Lib.hid hown
          have HRM := Lib.hid hroom
          have HK := Lib.hid hkeep
          have hb9 : b6 < W9.heap.size := HRQ.out.lt
          clear hown hroom hkeep HRQ
          have HB9 := Lib.hid hb9
          by_cases hlt2 : i < 64
          · obtain ⟨x, hx⟩ : ∃ x, ow[i]? = some x := ⟨_, List.getElem?_eq_getElem (by have := HOL.out; omega)⟩
            have hxb := HND.out x (List.mem_of_getElem? hx)
            obtain ⟨xq, rfl⟩ : ∃ xq : Nat, x = xq := ⟨x.toNat, by omega⟩
            have hxq : xq < 24 := by omega
            have HGD : Hid (ow.getD i 0 = (xq : Int)) := Lib.hid (by rw [List.getD_eq_getElem?_getD, hx]; rfl)
            have HOI := Lib.hid (ownsRow_keep HOQ.out HK.out (fun b hb e => by cases hb; have h1 : og = b6 := e; have := HOGB.out; have := HB6.out; omega))
            have cx : wr.cell? ⟨og, i, none⟩ = some (.int .i64 xq) := by
              rw [HOI.out.cellAt i (by omega), List.getElem?_map, hx]; rfl
            have cr : wr.cell? ⟨b6, xq, none⟩ = some (.int .i64 (limitL l xq - cnt (keepR ow (limitL l) i) xq)) := HRM.out.1 xq hxq
            have cf := HRM.out.2
            have hle := HKC.out i xq (by omega) (by omega)
            have hln0 := limitL_nn l xq
            have hcn0 := cnt_nn (keepR ow (limitL l) i) xq
            obtain ⟨rv, hrv⟩ : ∃ rv, limitL l xq - cnt (keepR ow (limitL l) i) xq = rv := ⟨_, rfl⟩
            have HRV := Lib.hid hrv
            rw [hrv] at cr
            have hrb : 0 ≤ rv ∧ rv ≤ 1280 := by omega
            have hiz : (i : Int) < 64 := by omega
            have hi0 : (0 : Int) ≤ (i : Int) := by omega
            have hx0 : (0 : Int) ≤ (xq : Int) := by omega
            have hx1 : (xq : Int) < 24 := by omega
            clear hx hxb hle hln0 hcn0 hrv
            by_cases hpos : 0 < rv
            · have HKN : Hid (keepR ow (limitL l) (i + 1) = keepR ow (limitL l) i ++ [(xq : Int)]) := Lib.hid (by
                rw [keepR_succ, HGD.out, if_pos (by have := HRV.out; omega)])
              have HHN : Hid (homeL (keepR ow (limitL l) (i + 1)) = homeL (keepR ow (limitL l) i)) := Lib.hid (by
                rw [HKN.out, homeL_snoc, if_neg (by omega), List.append_nil])
              have HRS : Hid (RoomAt (wr.setCell ⟨b6, xq, none⟩ (.int .i64 (rv - 1))) b6 (fun n => limitL l n - cnt (keepR ow (limitL l) (i + 1)) n)) := Lib.hid ((HRM.out.set hxq (rv - 1)).congr (fun n => by
                rw [HKN.out, cnt_snoc]
                show _ = if n = (xq : Int) then rv - 1 else limitL l n - cnt (keepR ow (limitL l) i) n
                split
                · rename_i e; subst e; have := HRV.out; omega
                · omega))
              have HKS : Hid (Keep (fun j => j = b6) W9 (wr.setCell ⟨b6, xq, none⟩ (.int .i64 (rv - 1)))) := Lib.hid (HK.out.setCell (p := ⟨b6, xq, none⟩) _ (.inl rfl))
              have HHS : Hid ((wr.setCell ⟨b6, xq, none⟩ (.int .i64 (rv - 1))).ownsRow W9.heap.size 3 1 u10 (homeL (keepR ow (limitL l) (i + 1))).length ((homeL (keepR ow (limitL l) (i + 1))).map (fun s : Nat => Value.int .i64 s))) := Lib.hid (by
                rw [HHN.out]
                exact ownsRow_keep HHO.out ((Keep.refl (fun j => j = b6) wr).setCell (p := ⟨b6, xq, none⟩) _ (.inl rfl)) (fun b hb e => by have := (HHO.out.lt b hb).1; have := HB9.out; have e2 : b = b6 := e; omega))
              go_wp2_with fail
              clear cx cr cf
              generalize wr.setCell ⟨b6, xq, none⟩ (.int .i64 (rv - 1)) = W10 at *
              go_roundg (gk - 1)
              case rel => exact ⟨i + 1, by omega, by go_num, HHS.out, HRS.out, HKS.out⟩
              case measure => omega
            · have HKN : Hid (keepR ow (limitL l) (i + 1) = keepR ow (limitL l) i ++ [-1]) := Lib.hid (by
                rw [keepR_succ, HGD.out, if_neg (by have := HRV.out; omega)])
              have HHN : Hid (homeL (keepR ow (limitL l) (i + 1)) = homeL (keepR ow (limitL l) i) ++ [i]) := Lib.hid (by
                rw [HKN.out, homeL_snoc, if_pos rfl, keepR_len])
              obtain ⟨v', W10, hr, hown', hk10, -, -⟩ := app_one 23 3 1 8 _ Tryz.underlying23 infoInt rfl (by decide) (by decide) wr 23 W9.heap.size u10 _ _ [.int .i64 i] HHO.out rfl (by simp [Value.oneCell']) (by have := homeL_len (keepR ow (limitL l) i); rw [keepR_len] at this; omega) HK.out.size
              have HR : Hid ((Builtin.append_ #[23, 23] 23 #[u10, .slice (some ⟨wr.heap.size, 0, none⟩) 1 1]).run Tryz.prog (wr.alloc (.cells #[.int .i64 i] 3)) = .ok v' W10) := Lib.hid hr
              have HKS : Hid (Keep (fun j => j = b6) W9 W10) := Lib.hid (HK.out.trans' hk10 (fun j e => .inr (HHO.out.lt j e).1))
              have HRS : Hid (RoomAt W10 b6 (fun n => limitL l n - cnt (keepR ow (limitL l) (i + 1)) n)) := Lib.hid ((HRM.out.keep hk10 (fun e => by have := (HHO.out.lt _ e).1; have := HB9.out; omega)).congr' (fun n _ => by
                rw [HKN.out, cnt_snoc, if_neg (by omega), Int.add_zero]))
              have HHS : Hid (W10.ownsRow W9.heap.size 3 1 v' (homeL (keepR ow (limitL l) (i + 1))).length ((homeL (keepR ow (limitL l) (i + 1))).map (fun s : Nat => Value.int .i64 s))) := Lib.hid (by
                rw [HHN.out, List.map_append, List.length_append]
                exact hown')
              clear hr hown' hk10
              go_wp2_with (at_builtin; refine wpList_app rfl (.tmp 75) (.tmp 77) 23 rfl rfl rfl HR.out ?_)
              clear cx cr cf
              go_roundg (gk - 1)
              case rel => exact ⟨i + 1, by omega, by go_num, HHS.out, HRS.out, HKS.out⟩
              case measure => omega
          · obtain ⟨R64, hsl, hh64, hp64, hrr, hhl, hpg⟩ : ∃ (R64 : List Int) (hsl : List Nat), HomeAt l ow hsl ∧ PlaceAt PN QS l ow 0 R64 ∧ RoomAt wr b6 (fun n => limitL l n - cnt R64 n) ∧ wr.ownsRow W9.heap.size 3 1 u10 hsl.length (hsl.map (fun s : Nat => Value.int .i64 s)) ∧ progL ow R64 = ow := by
              have e : i = 64 := by omega
              have h1 := HHO.out
              have h2 := HRM.out
              rw [e] at h1 h2
              exact ⟨_, _, ⟨rfl⟩, .first, h2, h1, progL_start HOL.out⟩
            have HH64 := Lib.hid hh64
            have HP64 := Lib.hid hp64
            have HPG := Lib.hid hpg
            have hi64 : i = 64 := by omega
            have HI64 := Lib.hid hi64
            clear HHO HRM HKC hh64 hp64 hpg hi64
            have HHO := Lib.hid hhl
            have HRM := Lib.hid hrr
            clear hhl hrr
            have HOI := Lib.hid (ownsRow_keep HOQ.out HK.out (fun b hb e => by cases hb; have h1 : og = b6 := e; have := HOGB.out; have := HB6.out; omega))
            have HMI := Lib.hid (ownsRow_keep HMQ.out HK.out (fun b hb e => by have h1 : b = b6 := e; have := HGMB.out b hb; have := HB6.out; omega))
            have HBI := Lib.hid (HBQ.out.keep HK.out (fun e => by have h1 : z9 = b6 := e; have := HZ9.out; have := HB6.out; omega))
            have HYI := Lib.hid (HYQ.out.keep HK.out (fun e => by have h1 : z + 1 = b6 := e; have := HZB.out; omega))
            have HKI : Hid (Keep (fun _ => False) w wr) := Lib.hid (HKQ.out.trans' HK.out (fun j e => .inr (by have h1 : j = b6 := e; have := HZB.out; have := HZ.out; omega)))
            have HZ99 : Hid (z9 < W9.heap.size ∧ og < W9.heap.size ∧ ∀ b, (Value.slice am ln cm).ownBlock = some b → b < W9.heap.size) := Lib.hid ⟨HBQ.out.lt, (HOQ.out.lt og rfl).2, fun b hb => (HMQ.out.lt b hb).2⟩
            have hiz : ¬ ((i : Int) < 64) := by have := HI64.out; omega
            clear HOQ HMQ HBQ HYQ HKQ HXQ hlt2 hi
            obtain ⟨ha, hc, rfl⟩ := own_form HHO.out
            go_upto_region 18 with (fail)
            clear hiz
            go_wp2_with fail
            with_reducible refine (circleP_any _ l wr (HML.out.kept HKI.out) HV.out (HT.out.kept HKI.out)).mono ?_
            rintro e W11 ⟨vp, rfl, hpts, k11, hpb⟩
            have HPT := Lib.hid hpts
            have HPB : Hid (∀ b, vp.ownBlock = some b → W9.heap.size ≤ b) := Lib.hid (fun b hb => Nat.le_trans HK.out.size (hpb b hb))
            have HO11 := Lib.hid (ownsRow_keep HOI.out k11 (fun _ _ h => h))
            have HM11 := Lib.hid (ownsRow_keep HMI.out k11 (fun _ _ h => h))
            have HH11 := Lib.hid (ownsRow_keep HHO.out k11 (fun _ _ h => h))
            have HB11 := Lib.hid (HBI.out.kept k11)
            have HY11 := Lib.hid (HYI.out.kept k11)
            have HK11 := Lib.hid (HKI.out.trans k11)
            have HR11 := Lib.hid (HRM.out.kept k11)
            have HS11 : Hid (W9.heap.size ≤ W11.heap.size) := Lib.hid (Nat.le_trans HK.out.size k11.size)
            clear hpts k11 hpb HOI HMI HHO HBI HYI HKI HRM HK
            obtain ⟨pn, pa, pc, pb, po, rfl, hpc, hpa, hpcell⟩ := HPT.out
            have hcl : 0 < (circ PN l).length := by
              have h1 := draws_len PN l HV.out.ok
              have h2 := HV.out.wsum
              have h3 : (circ PN l).length = (draws PN l).length := (sortMk_perm _).length_eq
              omega
            have HCL := Lib.hid (circ_len HV.out)
            obtain rfl := hpa hcl
            have HPC := Lib.hid hpcell
            obtain ⟨cn, hcn⟩ : ∃ n, (circ PN l).length = n := ⟨_, rfl⟩
            have HCN := Lib.hid hcn
            rw [hcn] at hpc hcl HCL HPT ⊢
            have HCS := Lib.hid (circ_sorted PN HV.out.asc)
            clear hpcell hpa hcn pn
            obtain ⟨hn, hhn⟩ : ∃ n, hsl.length = n := ⟨_, rfl⟩
            have HHN := Lib.hid hhn
            rw [hhn] at HH11 ⊢
            clear hhn
            have hhb : hn ≤ 64 := by
              have h1 := homeL_len (keepR ow (limitL l) 64)
              rw [HH64.out.eq, keepR_len, HHN.out] at h1
              exact h1
            have HOS : Hid (W11.ownsRow B 3 1 (.slice (some ⟨og, 0, none⟩) 64 co) 64 ((progL ow R64).map (fun x => Value.int .i64 x))) := Lib.hid (by
              rw [HPG.out]
              exact HO11.out)
            have HRS := HR11
            clear HO11 HR11 HPG HI64
            go_upto_region 19 with (fail)
            go_step3
            go_wp2_with fail
            go_loopg [84] hn (fun gh v84 wq => ∃ (i : Nat) (R : List Int), gh + i = hn ∧ v84 = .int .i64 i ∧ PlaceAt PN QS l ow i R ∧ RoomAt wq b6 (fun n => limitL l n - cnt R n) ∧ wq.ownsRow B 3 1 (.slice (some ⟨og, 0, none⟩) 64 co) 64 ((progL ow R).map (fun x => Value.int .i64 x)) ∧ Keep (fun j => j = b6 ∨ j = og) W11 wq)
            case atStart => exact ⟨0, R64, by omega, rfl, HP64.out, HRS.out, HOS.out, Keep.refl _ _⟩
            case round =>
              clear HRS HOS HP64
              obtain ⟨i, R, hi, rfl, hpl, hroom, hown, hkeep⟩ := hrel
              have HPL := Lib.hid hpl
              clear hpl
              have HRM := Lib.hid hroom
              have HOI := Lib.hid hown
              have HK := Lib.hid hkeep
              clear hroom hown hkeep
              have HKW : Hid (Keep (fun _ => False) w wr) := Lib.hid (HK11.out.trans' HK.out (fun j e => .inr (by
                have h1 := HZ.out
                have h2 := HZB.out
                have h3 := HOGB.out
                have h4 := HB6.out
                have h5 : j = b6 ∨ j = og := e
                omega)))
              by_cases hlt2 : i < hn
              · obtain ⟨s, hs⟩ : ∃ s, hsl[i]? = some s := ⟨_, List.getElem?_eq_getElem (by rw [HHN.out]; exact hlt2)⟩
                obtain ⟨hs64, hRl, hRle, nn, hf, hn0, hn23, hRs, hnext⟩ := HPL.out.find HV.out HOL.out HH64.out hs
                obtain ⟨hg, rfl⟩ := own_some' HH11.out (by omega)
                have HHI := Lib.hid (ownsRow_keep HH11.out HK.out (fun b hb e => by
                  cases hb
                  have h1 := (HH11.out.lt hg rfl).1
                  have h5 : hg = b6 ∨ hg = og := e
                  have := HZ99.out
                  have := HB9.out
                  omega))
                have ch : wr.cell? ⟨hg, i, none⟩ = some (.int .i64 s) := by
                  rw [HHI.out.cellAt i (by omega), List.getElem?_map, hs]; rfl
                have HF := Lib.hid hf
                have HNX := Lib.hid hnext
                have HRL := Lib.hid hRl
                have HRS0 := Lib.hid hRs
                have HRLE := Lib.hid hRle
                have HPTI := Lib.hid (HPT.out.keep HK.out (fun b hb e => by
                  cases hb
                  have h5 : pb = b6 ∨ pb = og := e
                  have := HPB.out pb rfl
                  have := HZ99.out
                  have := HB9.out
                  omega))
                have hiz : (i : Int) < (hn : Int) := by omega
                have hi0 : (0 : Int) ≤ (i : Int) := by omega
                have hs0 : (0 : Int) ≤ (s : Int) := by omega
                have hs1 : (s : Int) < 64 := by omega
                clear hs hf hnext hRl hRle hRs
                go_wp2_with fail
                clear ch
                with_reducible refine (itoa_small s (by omega) _).mono ?_
                rintro e w' ⟨rfl, rfl⟩
                have hds : (dig s).size ≤ 2 := dig_size (by omega)
                have HPS : Hid (Calls Tryz.prog 34 #[.string ((⟨#[115, 108, 111, 116, 32]⟩ : ByteArray) ++ dig s)] wr fun e w' => e = .returned (.int .i64 (QS s)) ∧ wr = w') := Lib.hid (by
                  rw [slotT_ref']
                  exact point_any _ (slotT_size (by omega)) wr (HT.out.kept HKW.out))
                generalize dig s = ds at *
                go_wp2_with fail
                with_reducible refine HPS.out.mono ?_
                rintro e w' ⟨rfl, rfl⟩
                clear hds HPS
                go_wp2_with fail
                with_reducible refine (bsearchP_any _ (circ PN l) (QS s) wr HPTI.out HCS.out).mono ?_
                rintro e W12 ⟨⟨bb, rfl⟩, k12⟩
                have HK12 := Lib.hid (HK.out.trans (k12.mono (fun _ h => h.elim)))
                have HR12 := Lib.hid (HRM.out.kept k12)
                have HO12 := Lib.hid (ownsRow_keep HOI.out k12 (fun _ _ h => h))
                have HP12 := Lib.hid (HPTI.out.kept k12)
                have HCW : Hid (∀ j, j < cn → ∃ x, (circ PN l)[(lows (circ PN l) (QS s) + j) % cn]? = some x ∧ cwN (circ PN l) (QS s) j = x.node) := Lib.hid (fun j hj => by
                  have := cwN_at HCS.out (QS s) (i := j) (by rw [HCN.out]; exact hj)
                  rwa [HCN.out] at this)
                have HCO : Hid (∀ j, j < cn → (ords PN l (QS s))[j]? = some (cwN (circ PN l) (QS s) j)) := Lib.hid (fun j hj => ords_at l (QS s) (by rw [HCN.out]; exact hj))
                have HCLN : Hid ((ords PN l (QS s)).length = cn) := Lib.hid (by unfold ords; rw [List.length_map, rot_len, HCN.out])
                have hlo := lows_le (circ PN l) (QS s)
                rw [HCN.out] at hlo
                clear k12 HRM HOI HPTI
                generalize lows (circ PN l) (QS s) = lw at *
                go_wp2_with fail
                go_loopg [100] cn (fun gq v100 wz => ∃ q : Nat, gq + q = cn ∧ v100 = .int .i64 q ∧ Hid (∀ j, j < q → limitL l (cwN (circ PN l) (QS s) j) - cnt R (cwN (circ PN l) (QS s) j) ≤ 0) ∧ wz = W12)
                case atStart => exact ⟨0, by omega, rfl, Lib.hid (fun j hj => by omega), rfl⟩
                case round =>
                  obtain ⟨q, hq, rfl, HNO, rfl⟩ := hrel
                  by_cases hqn : q < cn
                  · obtain ⟨x, hx, hcw⟩ := HCW.out q hqn
                    obtain ⟨-, a', c', b', off', hvc, -, ha', hcell⟩ := HP12.out
                    have hcx := hcell _ x hx
                    obtain ⟨r1, r2⟩ : b' = pb ∧ off' = po := by
                      have h1 := ha' (by rw [HCN.out]; omega)
                      obtain ⟨h2, -, -⟩ := Value.slice.inj hvc
                      rw [h1] at h2
                      cases h2
                      exact ⟨rfl, rfl⟩
                    obtain ⟨rfl, rfl⟩ := And.intro r1 r2
                    have c1 := hcx.2
                    obtain ⟨ix, hix⟩ : ∃ ix, (lw + q) % cn = ix := ⟨_, rfl⟩
                    rw [hix] at c1
                    have e1 : ((lw : Int) + (q : Int)) % (cn : Int) = (ix : Int) := by rw [← hix]; first | rw [Int.natCast_emod, Int.natCast_add] | rw [Int.natCast_mod, Int.natCast_add] | simp
                    have hixn : ix < cn := by rw [← hix]; exact Nat.mod_lt _ (by omega)
                    obtain ⟨xq, hxq⟩ : ∃ xq : Nat, x.node = xq := by
                      have hm : x ∈ circ PN l := List.mem_of_getElem? hx
                      obtain ⟨m, hm1, hm2⟩ := (mem_circ PN).1 hm
                      have h1 := ((mem_drawM PN).1 hm2).1
                      have h2 := HV.out.ok m hm1
                      unfold okMb at h2
                      exact ⟨x.node.toNat, by omega⟩
                    have hxq24 : xq < 24 := by
                      have hm : x ∈ circ PN l := List.mem_of_getElem? hx
                      obtain ⟨m, hm1, hm2⟩ := (mem_circ PN).1 hm
                      have h1 := ((mem_drawM PN).1 hm2).1
                      have h2 := HV.out.ok m hm1
                      unfold okMb at h2
                      omega
                    rw [hxq] at c1 hcw
                    have HCQ := Lib.hid hcw
                    have cr : wr.cell? ⟨b6, xq, none⟩ = some (.int .i64 (limitL l xq - cnt R xq)) := HR12.out.1 xq hxq24
                    have cf := HR12.out.2
                    have hln0 := limitL_nn l xq
                    have hle := HRLE.out xq (by omega)
                    have hcn0 := cnt_nn R xq
                    obtain ⟨rv, hrv⟩ : ∃ rv, limitL l xq - cnt R xq = rv := ⟨_, rfl⟩
                    have HRV := Lib.hid hrv
                    rw [hrv] at cr
                    have hrb : 0 ≤ rv ∧ rv ≤ 1280 := by omega
                    have hqz : (q : Int) < (cn : Int) := by omega
                    have hcb : cn ≤ 1536 := HCL.out
                    have hq0 : (0 : Int) ≤ (q : Int) := by omega
                    have hx0 : (0 : Int) ≤ (xq : Int) := by omega
                    have hx1 : (xq : Int) < 24 := by omega
                    clear hx hcw hvc ha' hcell hcx hix r1 r2 hxq hln0 hle hcn0 hrv
                    by_cases hpos : 0 < rv
                    · have HEQ : Hid (nn = (xq : Int)) := Lib.hid (by
                        have h1 := HF.out
                        unfold firstN at h1
                        rw [find_first (HCO.out q hqn) (by rw [HCQ.out]; have := HRV.out; simp only [decide_eq_true_eq]; omega) (fun j y hj hy => by
                          rw [HCO.out j (by omega)] at hy
                          cases hy
                          have := HNO.out j hj
                          simp only [decide_eq_false_iff_not]
                          omega)] at h1
                        rw [HCQ.out] at h1
                        exact (Option.some.inj h1).symm)
                      have HBZ := Lib.hid (HB11.out.keep HK12.out (fun e => by
                        have h5 : z9 = b6 ∨ z9 = og := e
                        have := HOGZ.out
                        have := HZ9.out
                        have := HB6.out
                        omega))
                      have hbz := (HBZ.out.other (b := b6) (o := xq) (by have := HZ9.out; have := HB6.out; omega) (.int .i64 (rv - 1))).2.2.1
                      have kq1 := (Keep.refl (fun j => j = b6) wr).setCell (p := ⟨b6, xq, none⟩) (.int .i64 (rv - 1)) (.inl rfl)
                      have HOW1 := Lib.hid (ownsRow_keep HO12.out kq1 (fun b hb e => by cases hb; have h5 : og = b6 := e; have := HOGB.out; have := HB6.out; omega))
                      have HRW1 := Lib.hid ((HR12.out.set hxq24 (rv - 1)))
                      have yc : ∃ u, (wr.setCell ⟨b6, xq, none⟩ (.int .i64 (rv - 1))).cell? ⟨og, s, none⟩ = some u := by
                        rw [HOW1.out.cellAt s (by omega), List.getElem?_map, progL_get ow R hs64]
                        exact ⟨_, rfl⟩
                      obtain ⟨yu, yc⟩ := yc
                      have yf : ∀ o, (wr.setCell ⟨b6, xq, none⟩ (.int .i64 (rv - 1))).frozen? ⟨og, o, none⟩ = false := fun o => HOW1.out.frozenAt o
                      have HST := Lib.hid (HOW1.out.stored s (.int .i64 xq)).1
                      have HKN : Hid (Keep (fun j => j = b6 ∨ j = og) W11 ((wr.setCell ⟨b6, xq, none⟩ (.int .i64 (rv - 1))).setCell ⟨og, s, none⟩ (.int .i64 xq))) := Lib.hid ((HK12.out.setCell (p := ⟨b6, xq, none⟩) _ (.inl (.inl rfl))).setCell (p := ⟨og, s, none⟩) _ (.inl (.inr rfl)))
                      have HRN : Hid (RoomAt ((wr.setCell ⟨b6, xq, none⟩ (.int .i64 (rv - 1))).setCell ⟨og, s, none⟩ (.int .i64 xq)) b6 (fun n => limitL l n - cnt (R.set s nn) n)) := Lib.hid ((HRW1.out.keep ((Keep.refl (fun j => j = og) _).setCell (p := ⟨og, s, none⟩) (.int .i64 xq) (.inl rfl)) (fun e => by have h5 : b6 = og := e; have := HOGB.out; have := HB6.out; omega)).congr' (fun n hn => by
                        show limitL l n - cnt (R.set s nn) n = if (n : Int) = (xq : Int) then rv - 1 else limitL l n - cnt R n
                        rw [cnt_set HRS0.out, HEQ.out, if_neg (show ¬ (n : Int) = -1 by omega)]
                        have := HRV.out
                        split
                        · rename_i e
                          rw [e]
                          omega
                        · omega))
                      have HON : Hid (((wr.setCell ⟨b6, xq, none⟩ (.int .i64 (rv - 1))).setCell ⟨og, s, none⟩ (.int .i64 xq)).ownsRow B 3 1 (.slice (some ⟨og, 0, none⟩) 64 co) 64 ((progL ow (R.set s nn)).map (fun x => Value.int .i64 x))) := Lib.hid (by
                        rw [progL_set (n := nn) HRL.out hs64 (by omega), HEQ.out, List.map_set]
                        exact HST.out)
                      clear kq1 HST HRW1
                      go_wp2_with fail
                      clear hbz yc yf cr cf c1
                      generalize (wr.setCell ⟨b6, xq, none⟩ (.int .i64 (rv - 1))).setCell ⟨og, s, none⟩ (.int .i64 xq) = W14 at *
                      go_roundg (hn - (i + 1))
                      case rel => exact ⟨i + 1, R.set s nn, by omega, by go_num, HNX.out, HRN.out, HON.out, HKN.out⟩
                      case measure => omega
                    · have HNN : Hid (∀ j, j < q + 1 → limitL l (cwN (circ PN l) (QS s) j) - cnt R (cwN (circ PN l) (QS s) j) ≤ 0) := Lib.hid (fun j hj => by
                        by_cases e : j = q
                        · subst e
                          rw [HCQ.out]
                          have := HRV.out
                          omega
                        · exact HNO.out j (by omega))
                      go_wp2_with fail
                      clear cr cf c1
                      go_roundg (gk - 1)
                      case rel => exact ⟨q + 1, by omega, by go_num, HNN, rfl⟩
                      case measure => omega
                  · exfalso
                    obtain ⟨j, hj⟩ := List.mem_iff_getElem?.1 (firstN_some HF.out).1
                    have hjc : j < cn := by have := (List.getElem?_eq_some_iff.1 hj).1; have := HCLN.out; omega
                    have h1 := HNO.out j (by omega)
                    have h2 := (firstN_some HF.out).2
                    rw [HCO.out j hjc] at hj
                    cases hj
                    omega
              · have hin : i = hn := by omega
                have hlast : R = changeL PN QS l ow ∧ progL ow R = changeL PN QS l ow := by
                  have h1 := HPL.out
                  rw [hin, ← HHN.out] at h1
                  exact h1.last HV.out HOL.out HNE.out HH64.out
                have HPC' := Lib.hid hlast.2
                clear hlast
                have hclen := change_len PN QS HV.out HOL.out
                have HBZ := Lib.hid (HB11.out.keep HK.out (fun e => by
                  have h5 : z9 = b6 ∨ z9 = og := e
                  have := HOGZ.out
                  have := HZ9.out
                  have := HB6.out
                  omega))
                have HYZ := Lib.hid (HY11.out.keep HK.out (fun e => by
                  have h5 : z + 1 = b6 ∨ z + 1 = og := e
                  have := HZB.out
                  have := HOGB.out
                  have := HB6.out
                  omega))
                have HMZ := Lib.hid (ownsRow_keep HM11.out HK.out (fun b hb e => by
                  have h5 : b = b6 ∨ b = og := e
                  have := HGMB.out b hb
                  have := HGMO.out b hb
                  have := HB6.out
                  omega))
                obtain ⟨x0, x1, x2, -⟩ := HBZ.out
                obtain ⟨y0, y1, y2, yf⟩ := HYZ.out
                have hiz : ¬ ((i : Int) < (hn : Int)) := by omega
                go_upto_region 33 with (fail)
                go_wp2_with fail
                have g := ((HYZ.out.set0 (.int .i64 (ep + 1))).set1 (.slice am ln cm)).set2 (.slice (some ⟨og, 0, none⟩) 64 co)
                have kq : Keep (fun j => j = z + 1) wr (((wr.setCell ⟨z + 1, 0, none⟩ (.int .i64 (ep + 1))).setCell ⟨z + 1, 1, none⟩ (.slice am ln cm)).setCell ⟨z + 1, 2, none⟩ (.slice (some ⟨og, 0, none⟩) 64 co)) := (((Keep.refl (fun j => j = z + 1) wr).setCell (p := ⟨z + 1, 0, none⟩) _ (.inl rfl)).setCell (p := ⟨z + 1, 1, none⟩) _ (.inl rfl)).setCell (p := ⟨z + 1, 2, none⟩) _ (.inl rfl)
                have HFM := Lib.hid (ownsRow_keep HMZ.out kq (fun b hb e => by have h5 : b = z + 1 := e; have := HGMB.out b hb; have := HB6.out; have := HZB.out; omega))
                have HFO := Lib.hid (ownsRow_keep HOI.out kq (fun b hb e => by cases hb; have h5 : og = z + 1 := e; have := HOGB.out; have := HB6.out; have := HZB.out; omega))
                have HFK := Lib.hid (HKW.out.trans' kq (fun j e => .inr (by have h5 : j = z + 1 := e; have := HZ.out; omega)))
                clear x0 x1 x2 y0 y1 y2 yf kq
                generalize ((wr.setCell ⟨z + 1, 0, none⟩ (.int .i64 (ep + 1))).setCell ⟨z + 1, 1, none⟩ (.slice am ln cm)).setCell ⟨z + 1, 2, none⟩ (.slice (some ⟨og, 0, none⟩) 64 co) = WF at *
                obtain ⟨g0, g1, g2, -⟩ := g
                refine bodyPost_ret (v := .tuple #[.agg #[.int .i64 (ep + 1), .slice am ln cm, .slice (some ⟨og, 0, none⟩) 64 co], .int .i64 0]) (by simp [results, Tryz.results8, go_sem, g0, g1, g2]) rfl ?_
                refine ⟨am, cm, some ⟨og, 0, none⟩, co, by rw [HLN.out, hclen], ?_, ?_, HFK.out⟩
                · rw [HLN.out]; exact ownsRow_lo HFM.out HSZW.out
                · rw [hclen, ← HPC'.out]; exact ownsRow_lo HFO.out HSZW.out
end Go.Proofs.YtiacdkggbnoigaaGreatDoor

/-
  Members in a slice of their own; what the laws' pick answers.
-/
namespace Go.Proofs.YtiacdkggbnoigaaGreatDoor
open Go.RowKit Go.Shelf

def pk (c n : Int) : Int := (if c < 0 then -(c + 1) else c) % n
theorem pk_bd (c n : Int) (hn : 1 ≤ n) : 0 ≤ pk c n ∧ pk c n < n := by
  unfold pk
  exact ⟨Int.emod_nonneg _ (by omega), Int.emod_lt_of_pos _ (by omega)⟩
theorem nil_rng (W : World) : Rng W (ringV 0 (.slice none 0 0) (.slice none 0 0)) 0 [] [] := ⟨by unfold I64; decide, _, _, rfl, ⟨by simp, by simp, none, 0, 0, 0, rfl, by simp, fun h => by simp at h, fun j x hj => by simp at hj⟩, Its.nil W⟩
theorem encMb_len (m : Mb) : (encMb m).length = 3 := rfl

/-- Members in a slice of their own. -/
def OwnB (w : World) (l : List Mb) (v : Value) (W : World) : Prop := Keep (fun _ => False) w W ∧ W.ownsRow w.heap.size 44 3 v l.length (flatB l)
theorem OwnB.nil {w W : World} (k : Keep (fun _ => False) w W) : OwnB w [] (.slice none 0 0) W := ⟨k, by simpa [flatB] using World.ownsRow_nil W w.heap.size 44 3⟩
theorem OwnB.keep {w W W' : World} {l : List Mb} {v : Value} (h : OwnB w l v W) (k : Keep (fun _ => False) W W') : OwnB w l v W' := ⟨h.1.trans k, ownsRow_keep h.2 k (fun _ _ h => h)⟩
theorem OwnB.snoc {w W : World} {l : List Mb} {v : Value} (h : OwnB w l v W) (x : Mb) (hl : l.length ≤ 100000) :
    ∃ v' w', (Builtin.append_ #[22, 22] 22 #[v, .slice (some ⟨W.heap.size, 0, none⟩) 1 1]).run Tryz.prog (W.alloc (.cells #[.int .i64 x.node, .int .i64 x.region, .int .i64 x.weight] 44)) = .ok v' w' ∧ OwnB w (l ++ [x]) v' w' ∧ Keep (fun j => v.ownBlock = some j) W w' ∧ (∃ g n c, v' = .slice (some ⟨g, 0, none⟩) n c) := by
  obtain ⟨v', w', r1, r2, r3, r4, g, c, r5⟩ := app_one 22 44 3 24 _ Tryz.underlying22 infoMb rfl (by decide) (by decide) W 22 w.heap.size v l.length (flatB l) (encMb x) h.2 rfl (by simp [encMb, Value.oneCell']) (by omega) h.1.size
  refine ⟨v', w', r1, ⟨h.1.trans' r3 (fun j e => .inr (h.2.lt j e).1), ?_⟩, r3, g, _, c, r5⟩
  rw [flatB_append, flatB_one, List.length_append]
  exact r2
def OwnPost (l : List Mb) (w : World) (e : Ending) (w' : World) : Prop := ∃ v, e = .returned v ∧ OwnB w l v w'
end Go.Proofs.YtiacdkggbnoigaaGreatDoor

/-
  New refused.
-/
namespace Go.Proofs.YtiacdkggbnoigaaGreatDoor
open Go.RowKit Go.Shelf

/-- What New answers where it refuses. -/
def NewBad (w : World) (e : Ending) (w' : World) : Prop := e = .returned (.tuple #[ringV 0 (.slice none 0 0) (.slice none 0 0), .int .i64 120]) ∧ Keep (fun _ => False) w w'

set_option maxRecDepth 100000 in
set_option maxHeartbeats 2000000 in
theorem new_epoch (ep : Int) (v : Value) (l : List Mb) (w : World) (h : Mbs w v l) (hv : VL l) (hT : Tab w) (he : ¬ (1 ≤ ep ∧ ep ≤ 1000000)) : Calls Tryz.prog 6 #[.int .i64 ep, v] w (NewBad w) := by
  have HAS : Hid (∀ W, Keep (fun _ => False) w W → Calls Tryz.prog 24 #[v] W (AsgPost l W)) := Lib.hid (fun W k => assign_ok v l W (h.kept k) hv (hT.kept k))
  have HEP := Lib.hid (decide_eq_false he)
  clear h hv hT he
  have HK0 : Hid (Keep (fun _ => False) w (w.alloc (.cells #[.int .i64 0, .slice none 0 0, .slice none 0 0] 25))) := Lib.hid ((Keep.refl _ w).alloc _)
  have HT3 := Lib.hid (three_cell w (.int .i64 0) (.slice none 0 0) (.slice none 0 0) 25)
  go_enter Tryz.func6, Tryz.ntmps6
  go_wp2_with fail
  generalize w.alloc (.cells #[.int .i64 0, .slice none 0 0, .slice none 0 0] 25) = W0 at *
  generalize hz : w.heap.size = z at HT3
  have HZ := Lib.hid hz
  clear hz
  with_reducible refine (HAS.out _ HK0.out).mono ?_
  rintro e W1 ⟨vo, rfl, how, k1⟩
  have HK1 := Lib.hid (HK0.out.trans k1)
  have f0 := k1.cell HT3.out.1 (fun h => h)
  have f1 := k1.cell HT3.out.2.1 (fun h => h)
  have f2 := k1.cell HT3.out.2.2.1 (fun h => h)
  have ff : ∀ o, W1.frozen? ⟨z, o, none⟩ = false := fun o => (k1.frozen (World.block_lt_of_cell? _ _ HT3.out.1) (fun h => h) o).trans (HT3.out.2.2.2 o)
  clear k1 how
  go_wp2_with fail
  with_reducible refine (within_b ep 1 1000000 false HEP.out _).mono ?_
  rintro e w' ⟨rfl, rfl⟩
  go_wp2_with fail
  have g0 : (((W1.setCell ⟨z, 0, none⟩ (.int .i64 0)).setCell ⟨z, 1, none⟩ (.slice none 0 0)).setCell ⟨z, 2, none⟩ (.slice none 0 0)).cell? ⟨z, 0, none⟩ = some (.int .i64 0) := (cell_set_off (by decide)).trans ((cell_set_off (by decide)).trans (cell_set_same f0))
  have g1 : (((W1.setCell ⟨z, 0, none⟩ (.int .i64 0)).setCell ⟨z, 1, none⟩ (.slice none 0 0)).setCell ⟨z, 2, none⟩ (.slice none 0 0)).cell? ⟨z, 1, none⟩ = some (.slice none 0 0) := (cell_set_off (by decide)).trans (cell_set_same ((cell_set_off (by decide)).trans f1))
  have g2 : (((W1.setCell ⟨z, 0, none⟩ (.int .i64 0)).setCell ⟨z, 1, none⟩ (.slice none 0 0)).setCell ⟨z, 2, none⟩ (.slice none 0 0)).cell? ⟨z, 2, none⟩ = some (.slice none 0 0) := cell_set_same ((cell_set_off (by decide)).trans ((cell_set_off (by decide)).trans f2))
  have HKS : Hid (Keep (fun j => j = z) W1 (((W1.setCell ⟨z, 0, none⟩ (.int .i64 0)).setCell ⟨z, 1, none⟩ (.slice none 0 0)).setCell ⟨z, 2, none⟩ (.slice none 0 0))) := Lib.hid ((((Keep.refl (fun j => j = z) W1).setCell (p := ⟨z, 0, none⟩) _ (.inl rfl)).setCell (p := ⟨z, 1, none⟩) _ (.inl rfl)).setCell (p := ⟨z, 2, none⟩) _ (.inl rfl))
  generalize ((W1.setCell ⟨z, 0, none⟩ (.int .i64 0)).setCell ⟨z, 1, none⟩ (.slice none 0 0)).setCell ⟨z, 2, none⟩ (.slice none 0 0) = W3 at *
  refine bodyPost_ret (v := .tuple #[ringV 0 (.slice none 0 0) (.slice none 0 0), .int .i64 120]) (by simp [results, Tryz.results6, go_sem, g0, g1, g2]) rfl ?_
  exact ⟨rfl, HK1.out.trans' HKS.out (fun j e => .inr (by rw [e, HZ.out]; exact Nat.le_refl _))⟩
end Go.Proofs.YtiacdkggbnoigaaGreatDoor

/-
  Change refused; is, IndexFunc, ContainsFunc of package reshard's members.
-/
namespace Go.Proofs.YtiacdkggbnoigaaGreatDoor
open Go.RowKit Go.Shelf

set_option maxRecDepth 100000 in
set_option maxHeartbeats 8000000 in
theorem changeR_bad (v vl : Value) (ep : Int) (lr l : List Mb) (ow : List Int) (w : World) (h : Rng w v ep lr ow) (hl : Mbs w vl l) (hbad : validRB ep lr ow = false ∨ validL l = false ∨ 1000000 ≤ ep) : Calls Tryz.prog 8 #[v, vl] w (NewBad w) := by
  have HRG := Lib.hid h
  have HML := Lib.hid hl
  obtain ⟨hb0, vm, vo, rfl, hm0, ho0⟩ := h
  obtain ⟨ma, mn, mc, rfl⟩ : ∃ a n c, vm = .slice a n c := by obtain ⟨a, c, b, off, h, _⟩ := hm0.at_; exact ⟨_, _, _, h⟩
  obtain ⟨oa, on, oc, rfl⟩ : ∃ a n c, vo = .slice a n c := by obtain ⟨a, c, b, off, h, _⟩ := ho0.at_; exact ⟨_, _, _, h⟩
  obtain ⟨la, ln, lc, rfl⟩ : ∃ a n c, vl = .slice a n c := by obtain ⟨a, c, b, off, h, _⟩ := hl.at_; exact ⟨_, _, _, h⟩
  clear hm0 hb0 ho0 hl
  obtain ⟨b1, hb1⟩ : ∃ b, validRB ep lr ow = b := ⟨_, rfl⟩
  obtain ⟨b2, hb2⟩ : ∃ b, validL l = b := ⟨_, rfl⟩
  have HB1 := Lib.hid hb1
  have HB2 := Lib.hid hb2
  rw [hb1, hb2] at hbad
  clear hb1 hb2
  have HX := Lib.hid (Box3.new w (.int .i64 ep) (.slice ma mn mc) (.slice oa on oc) 25)
  have HY := Lib.hid (Box3.new (w.alloc (.cells #[.int .i64 ep, .slice ma mn mc, .slice oa on oc] 25)) (.int .i64 0) (.slice none 0 0) (.slice none 0 0) 25)
  have HKA : Hid (Keep (fun _ => False) w (w.alloc (.cells #[.int .i64 ep, .slice ma mn mc, .slice oa on oc] 25))) := Lib.hid ((Keep.refl _ w).alloc _)
  have HKB : Hid (Keep (fun _ => False) (w.alloc (.cells #[.int .i64 ep, .slice ma mn mc, .slice oa on oc] 25)) ((w.alloc (.cells #[.int .i64 ep, .slice ma mn mc, .slice oa on oc] 25)).alloc (.cells #[.int .i64 0, .slice none 0 0, .slice none 0 0] 25))) := Lib.hid ((Keep.refl _ _).alloc _)
  have HX0 := Lib.hid (HX.out.kept HKB.out)
  rw [World.size_alloc] at HY
  have HK0 := Lib.hid (HKA.out.trans HKB.out)
  clear HX HKA HKB
  go_enter Tryz.func8, Tryz.ntmps8
  go_wp2_with fail
  generalize (w.alloc (.cells #[.int .i64 ep, .slice ma mn mc, .slice oa on oc] 25)).alloc (.cells #[.int .i64 0, .slice none 0 0, .slice none 0 0] 25) = W0 at *
  generalize hz : w.heap.size = z at HX0 HY ⊢
  have HZ := Lib.hid hz
  clear hz
  obtain ⟨x0, x1, x2, xf⟩ := HX0.out
  go_step3
  go_wp2_with fail
  clear x0 x1 x2 xf
  have hvc := validRing_any _ ep lr ow W0 (HRG.out.kept HK0.out)
  rw [HB1.out] at hvc
  with_reducible refine hvc.mono ?_
  clear hvc
  rintro e W1 ⟨rfl, k1⟩
  have HX1 := Lib.hid (HX0.out.kept k1)
  have HY1 := Lib.hid (HY.out.kept k1)
  have HK1 := Lib.hid (HK0.out.trans k1)
  clear k1 HX0 HY HK0
  have fin : ∀ W, Hid (Keep (fun _ => False) w W) → Hid (Box3 W (z + 1) (.int .i64 0) (.slice none 0 0) (.slice none 0 0)) → Hid (Box3 (((W.setCell ⟨z + 1, 0, none⟩ (.int .i64 0)).setCell ⟨z + 1, 1, none⟩ (.slice none 0 0)).setCell ⟨z + 1, 2, none⟩ (.slice none 0 0)) (z + 1) (.int .i64 0) (.slice none 0 0) (.slice none 0 0) ∧ Keep (fun _ => False) w (((W.setCell ⟨z + 1, 0, none⟩ (.int .i64 0)).setCell ⟨z + 1, 1, none⟩ (.slice none 0 0)).setCell ⟨z + 1, 2, none⟩ (.slice none 0 0))) := fun W k h =>
    Lib.hid ⟨((h.out.set0 _).set1 _).set2 _, k.out.trans' ((((Keep.refl (fun j => j = z + 1) W).setCell (p := ⟨z + 1, 0, none⟩) _ (.inl rfl)).setCell (p := ⟨z + 1, 1, none⟩) _ (.inl rfl)).setCell (p := ⟨z + 1, 2, none⟩) _ (.inl rfl)) (fun j e => .inr (by have h5 : j = z + 1 := e; have := HZ.out; omega))⟩
  have FIN := Lib.hid fin
  clear fin
  cases b1 with
  | false =>
    obtain ⟨y0, y1, y2, yf⟩ := HY1.out
    go_upto_region 2 with (fail)
    go_wp2_with fail
    clear y0 y1 y2 yf
    obtain ⟨⟨g0, g1, g2, -⟩, kf⟩ := (FIN.out W1 HK1 HY1).out
    generalize ((W1.setCell ⟨z + 1, 0, none⟩ (.int .i64 0)).setCell ⟨z + 1, 1, none⟩ (.slice none 0 0)).setCell ⟨z + 1, 2, none⟩ (.slice none 0 0) = WF at *
    refine bodyPost_ret (v := .tuple #[ringV 0 (.slice none 0 0) (.slice none 0 0), .int .i64 120]) (by simp [results, Tryz.results8, go_sem, g0, g1, g2]) rfl ?_
    exact ⟨rfl, kf⟩
  | true =>
    go_wp2_with fail
    have hvc := valid_any _ l W1 (HML.out.kept HK1.out)
    rw [HB2.out] at hvc
    with_reducible refine hvc.mono ?_
    clear hvc
    rintro e W2 ⟨rfl, k2⟩
    have HX2 := Lib.hid (HX1.out.kept k2)
    have HY2 := Lib.hid (HY1.out.kept k2)
    have HK2 := Lib.hid (HK1.out.trans k2)
    clear k2 HX1 HY1 HK1
    cases b2 with
    | false =>
      obtain ⟨y0, y1, y2, yf⟩ := HY2.out
      go_upto_region 2 with (fail)
      go_wp2_with fail
      clear y0 y1 y2 yf
      obtain ⟨⟨g0, g1, g2, -⟩, kf⟩ := (FIN.out W2 HK2 HY2).out
      generalize ((W2.setCell ⟨z + 1, 0, none⟩ (.int .i64 0)).setCell ⟨z + 1, 1, none⟩ (.slice none 0 0)).setCell ⟨z + 1, 2, none⟩ (.slice none 0 0) = WF at *
      refine bodyPost_ret (v := .tuple #[ringV 0 (.slice none 0 0) (.slice none 0 0), .int .i64 120]) (by simp [results, Tryz.results8, go_sem, g0, g1, g2]) rfl ?_
      exact ⟨rfl, kf⟩
    | true =>
      have hep : 1000000 ≤ ep := by
        rcases hbad with h | h | h
        · cases h
        · cases h
        · exact h
      obtain ⟨x0, x1, x2, xf⟩ := HX2.out
      obtain ⟨y0, y1, y2, yf⟩ := HY2.out
      go_upto_region 2 with (fail)
      go_wp2_with fail
      clear x0 x1 x2 xf y0 y1 y2 yf
      obtain ⟨⟨g0, g1, g2, -⟩, kf⟩ := (FIN.out W2 HK2 HY2).out
      generalize ((W2.setCell ⟨z + 1, 0, none⟩ (.int .i64 0)).setCell ⟨z + 1, 1, none⟩ (.slice none 0 0)).setCell ⟨z + 1, 2, none⟩ (.slice none 0 0) = WF at *
      refine bodyPost_ret (v := .tuple #[ringV 0 (.slice none 0 0) (.slice none 0 0), .int .i64 120]) (by simp [results, Tryz.results8, go_sem, g0, g1, g2]) rfl ?_
      exact ⟨rfl, kf⟩

/-- The function that tells a node. -/
abbrev isV (b : Nat) : Value := .func (.func 68) #[] #[ptr b]
set_option maxRecDepth 100000 in
theorem is_any (n : Int) (w : World) : Calls Tryz.prog 46 #[.int .i64 n] w fun e w' => e = .returned (isV w.heap.size) ∧ w'.cell? ⟨w.heap.size, 0, none⟩ = some (.int .i64 n) ∧ Keep (fun _ => False) w w' ∧ w.heap.size < w'.heap.size := by
  have HC := Lib.hid (cells_new0 w (.int .i64 n) 3 (.int .i64 n) rfl)
  have HK : Hid (Keep (fun _ => False) w (w.alloc (.cells #[.int .i64 n] 3))) := Lib.hid ((Keep.refl _ w).alloc _)
  have HS : Hid (w.heap.size < (w.alloc (.cells #[.int .i64 n] 3)).heap.size) := Lib.hid (by simp)
  go_enter Tryz.func46, Tryz.ntmps46
  go_wp2_with fail
  go_ret
  exact ⟨rfl, HC.out, HK.out, HS.out⟩
abbrev mbV (m : Mb) : Value := .agg #[.int .i64 m.node, .int .i64 m.region, .int .i64 m.weight]
/-- The first place of a node. -/
def idxK (l : List Mb) (n : Int) : Nat → Int
  | 0 => -1
  | k + 1 => if idxK l n k = -1 then (match l[k]? with | some m => if m.node = n then (k : Int) else -1 | none => -1) else idxK l n k
end Go.Proofs.YtiacdkggbnoigaaGreatDoor

/-
  IndexFunc, ContainsFunc over members.
-/
namespace Go.Proofs.YtiacdkggbnoigaaGreatDoor
open Go.RowKit Go.Shelf

/-- r is the first place of node n, or -1. -/
def IdxOf (l : List Mb) (n r : Int) : Prop := (r = -1 ∧ ∀ m ∈ l, m.node ≠ n) ∨ ∃ (k : Nat) (m : Mb), r = k ∧ l[k]? = some m ∧ m.node = n ∧ ∀ j m', j < k → l[j]? = some m' → m'.node ≠ n
set_option maxRecDepth 100000 in
theorem is1_any (m : Mb) (b : Nat) (n : Int) (w : World) (h : w.cell? ⟨b, 0, none⟩ = some (.int .i64 n)) : Calls Tryz.prog 68 #[mbV m, ptr b] w fun e w' => e = .returned (.bool (m.node == n)) ∧ Keep (fun _ => False) w w' := by
  obtain ⟨x, y, z⟩ := m
  have HK : Hid (Keep (fun _ => False) w (w.alloc (.cells #[.int .i64 x, .int .i64 y, .int .i64 z] 44))) := Lib.hid ((Keep.refl _ w).alloc _)
  have HB := Lib.hid (Box3.new w (.int .i64 x) (.int .i64 y) (.int .i64 z) 44)
  have c := HK.out.cell h (fun h => h)
  go_enter Tryz.func68, Tryz.ntmps68
  go_wp2_with fail
  generalize w.alloc (.cells #[.int .i64 x, .int .i64 y, .int .i64 z] 44) = W at *
  obtain ⟨b0, -, -, -⟩ := HB.out
  go_wp2_with fail
  go_ret
  exact ⟨rfl, HK.out⟩
set_option maxRecDepth 100000 in
set_option maxHeartbeats 1000000 in
theorem indexIs_any (v : Value) (l : List Mb) (b : Nat) (n : Int) (w : World) (h : Mbs w v l) (hb : w.cell? ⟨b, 0, none⟩ = some (.int .i64 n)) (hl : l.length ≤ 100000) : Calls Tryz.prog 45 #[v, isV b] w fun e w' => (∃ r, e = .returned (.int .i64 r) ∧ IdxOf l n r) ∧ Keep (fun _ => False) w w' := by
  obtain ⟨hn, -, a, c, bb, off, rfl, hc, ha, hcell⟩ := h
  have HC := Lib.hid hcell
  have HA := Lib.hid ha
  have HB := Lib.hid hb
  clear hcell ha hb hn
  obtain ⟨ln, hn'⟩ : ∃ n, l.length = n := ⟨_, rfl⟩
  have HL := Lib.hid hn'
  rw [hn'] at hc hl ⊢
  clear hn'
  go_enter Tryz.func45, Tryz.ntmps45
  go_wp2_with fail
  go_loopg [8] ln (fun gh v wr => ∃ k : Nat, gh + k = ln ∧ v = .int .i64 k ∧ Hid (∀ j m, j < k → l[j]? = some m → m.node ≠ n) ∧ Keep (fun _ => False) w wr)
  case atStart => exact ⟨0, by omega, rfl, Lib.hid (fun j m h => by omega), Keep.refl _ _⟩
  case round =>
    obtain ⟨k, hk, rfl, HN, hkeep⟩ := hrel
    have HK := Lib.hid hkeep
    clear hkeep
    by_cases hlt : k < ln
    · obtain ⟨m, hm⟩ : ∃ m, l[k]? = some m := ⟨_, List.getElem?_eq_getElem (by have := HL.out; omega)⟩
      obtain rfl := HA.out (by have := HL.out; omega)
      have c0 := HK.out.cell (HC.out k m hm).1 (fun h => h)
      have c1 := HK.out.cell (HC.out k m hm).2.1 (fun h => h)
      have c2 := HK.out.cell (HC.out k m hm).2.2 (fun h => h)
      have HM := Lib.hid hm
      have hkz : (k : Int) < (ln : Int) := by omega
      have hk0 : (0 : Int) ≤ (k : Int) := by omega
      have HIS := Lib.hid (is1_any m b n wr (HK.out.cell HB.out (fun h => h)))
      clear hm
      obtain ⟨x, y, z⟩ := m
      simp only [] at c0 c1 c2
      go_wp2_with fail
      clear c0 c1 c2
      refine HIS.out.mono ?_
      rintro e W2 ⟨rfl, k2⟩
      have HK2 := Lib.hid (HK.out.trans k2)
      clear k2 HIS
      by_cases hx : x = n
      · have hb : (x == n) = true := by simpa using hx
        simp only [hb]
        go_wp2_with fail
        go_ret
        exact ⟨⟨_, rfl, .inr ⟨k, _, rfl, HM.out, hx, HN.out⟩⟩, HK2.out⟩
      · have hb : (x == n) = false := by simpa using hx
        simp only [hb]
        have HNN : Hid (∀ j m, j < k + 1 → l[j]? = some m → m.node ≠ n) := Lib.hid (fun j m hj hm => by
          by_cases e : j = k
          · subst e
            rw [HM.out] at hm
            cases hm
            exact hx
          · exact HN.out j m (by omega) hm)
        go_wp2_with fail
        go_roundg (gk - 1)
        case rel => exact ⟨k + 1, by omega, by go_num, HNN, HK2.out⟩
        case measure => omega
    · go_wp2_with fail
      go_ret
      exact ⟨⟨_, rfl, .inl ⟨rfl, fun m hm => by
        obtain ⟨j, hj⟩ := List.mem_iff_getElem?.1 hm
        exact HN.out j m (by have := (List.getElem?_eq_some_iff.1 hj).1; have := HL.out; omega) hj⟩⟩, HK.out⟩
theorem IdxOf.any {l : List Mb} {n r : Int} (h : IdxOf l n r) : decide (0 ≤ r) = l.any (fun m => decide (m.node = n)) := by
  rcases h with ⟨rfl, h⟩ | ⟨k, m, rfl, hk, hm, -⟩
  · rw [decide_eq_false (by decide), eq_comm, List.any_eq_false]
    intro m hm
    simpa using h m hm
  · rw [decide_eq_true (by omega), eq_comm, List.any_eq_true]
    exact ⟨m, List.mem_of_getElem? hk, decide_eq_true hm⟩
set_option maxRecDepth 100000 in
set_option maxHeartbeats 1000000 in
theorem containsIs_any (v : Value) (l : List Mb) (b : Nat) (n : Int) (w : World) (h : Mbs w v l) (hb : w.cell? ⟨b, 0, none⟩ = some (.int .i64 n)) (hl : l.length ≤ 100000) : Calls Tryz.prog 47 #[v, isV b] w fun e w' => e = .returned (.bool (l.any (fun m => decide (m.node = n)))) ∧ Keep (fun _ => False) w w' := by
  have HI := Lib.hid (indexIs_any v l b n w h hb hl)
  clear h hb hl
  go_enter Tryz.func47, Tryz.ntmps47
  go_wp2_with fail
  with_reducible refine HI.out.mono ?_
  rintro e W1 ⟨⟨r, rfl, hr⟩, k⟩
  have HK := Lib.hid k
  have HR := Lib.hid hr.any
  clear k hr
  go_wp2_with fail
  go_ret
  exact ⟨by rw [← HR.out] <;> rfl, HK.out⟩
end Go.Proofs.YtiacdkggbnoigaaGreatDoor

/-
  DeleteFunc over members of a row of its own.
-/
namespace Go.Proofs.YtiacdkggbnoigaaGreatDoor
open Go.RowKit Go.Shelf

theorem zeroMb (w : World) : (zeroValue 44).run Tryz.prog w = .ok (.agg #[.int .i64 0, .int .i64 0, .int .i64 0]) w := by kernel_rfl
theorem own_cap {W : World} {lo : Nat} {e : TypeId} {z g n c : Nat} {xs : List Value} (h : W.ownsRow lo e z (.slice (some ⟨g, 0, none⟩) n c) n xs) : n ≤ c := by
  rcases h.2 with ⟨h1, _⟩ | ⟨g', c', cur, h1, _, _, h2, _⟩
  · cases h1
  · cases h1; exact h2
/-- clear of a row's end. -/
theorem clear_end {W : World} {lo g n i cap : Nat} {l : List Mb} (h : W.ownsRow lo 44 3 (.slice (some ⟨g, 0, none⟩) n cap) n (flatB l)) (hi : i < n) (ty : TypeId) (cc : Nat) :
    ∃ W', (Builtin.clear_ #[22] ty #[.slice (some ⟨g, i * 3, none⟩) (n - i) cc]).run Tryz.prog W = .ok (.tuple #[]) W' ∧ W'.ownsRow lo 44 3 (.slice (some ⟨g, 0, none⟩) i cap) i (flatB (l.take i)) ∧ Keep (fun j => j = g) W W' := by
  obtain ⟨hlen, hrow⟩ := h
  rcases hrow with ⟨e0, _⟩ | ⟨g', cap', cur, e0, hb, hg, hn, hmax, hcur, htake⟩
  · cases e0
  · cases e0
    obtain ⟨vs, hvs⟩ : ∃ vs, (Builtin.zeroCells (Value.agg #[.int .i64 0, .int .i64 0, .int .i64 0]).cells (n - i)).toList = vs := ⟨_, rfl⟩
    have hvl : vs.length = (n - i) * 3 := by
      rw [← hvs]
      simp [Builtin.zeroCells, Value.cells]
    have hv1 : ∀ v ∈ vs, v.oneCell' = true := by
      intro v hv
      rw [← hvs] at hv
      simp only [Builtin.zeroCells, Array.toList_map, List.mem_map] at hv
      obtain ⟨j, -, rfl⟩ := hv
      have : j % 3 = 0 ∨ j % 3 = 1 ∨ j % 3 = 2 := by omega
      show (#[Value.int .i64 0, .int .i64 0, .int .i64 0][j % 3]!).oneCell' = true
      rcases this with e | e | e <;> rw [e] <;> rfl
    have hfl : (flatB l).length = n * 3 := hlen
    have hll : l.length = n := by rw [flatB_len] at hfl; omega
    have hst := run_storeCells_at (P := Tryz.prog) g (i * 3) 44 vs 0 cur W hg (by rw [hvl, hcur]; have : n * 3 ≤ cap * 3 := Nat.mul_le_mul_right 3 hn; omega) hv1
    obtain ⟨m, hm⟩ : ∃ m, n - i = m + 1 := ⟨n - i - 1, by omega⟩
    have h3 : n * 3 ≤ cap * 3 := Nat.mul_le_mul_right 3 hn
    have hcl : cur.toList.length = cap * 3 := by rw [Array.length_toList, hcur]
    refine ⟨W.setRow g (cur.toList.take (i * 3 + 0) ++ vs ++ cur.toList.drop (i * 3 + 0 + vs.length)).toArray, ?_, ⟨by rw [flatB_len, List.length_take]; omega, .inr ⟨g, cap, _, rfl, hb, setRow_heap W g cur _ 44 _ hg, by omega, by omega, ?_, ?_⟩⟩, Keep.setRow W g _⟩
    · rw [hm] at hvs ⊢
      simp [Builtin.clear_, run_underlying Tryz.underlying22, hvs, hst, Result.andThen]
    · simp only [List.size_toArray, List.length_append, List.length_take, List.length_drop]
      omega
    · show List.take (i * 3) (List.take (i * 3 + 0) cur.toList ++ vs ++ List.drop (i * 3 + 0 + vs.length) cur.toList) = flatB (l.take i)
      rw [List.append_assoc, List.take_append_of_le_length (by rw [List.length_take]; omega), Nat.add_zero, List.take_take, Nat.min_self]
      have h2 : cur.toList.take (i * 3) = (flatB l).take (i * 3) := by
        rw [← htake, List.take_take, Nat.min_eq_left (by omega)]
      rw [h2]
      exact flat_take encMb_len l i

theorem wpList_clr {P : Program} {ops : Array Oper} {rest : List Oper} {o : Oper} {a : Act} {w w' : World} {Q : Exit → Act → World → Prop} {v v' : Value}
    (hg : o.guard = none) (s : Operand) (t : TypeId) (hop : o.op = Op.call { callee := Callee.builtin Builtin.clear, args := #[s], argTypes := #[t] })
    (hs : a.eval s = v) (hrun : (Builtin.clear_ #[t] o.type #[v]).run P w = .ok v' w') (hK : wpList P ops Q rest (a.put o.dst v') w') : wpList P ops Q (o :: rest) a w := by
  refine wpList_plain hg fun K hK' => ?_
  unfold Oper.wp
  simp [execOp, hop, resolve, invoke, builtin, hs, hrun, Result.andThen]
  exact hK' _ _ hK

def notN (n : Int) (m : Mb) : Bool := decide (m.node ≠ n)
theorem set_flat3 {l : List Mb} {i : Nat} {x m : Mb} (h : l[i]? = some x) : (((flatB l).set (i * 3) (.int .i64 m.node)).set (i * 3 + 1) (.int .i64 m.region)).set (i * 3 + 2) (.int .i64 m.weight) = flatB (l.set i m) := by
  unfold flatB
  obtain ⟨a, b, c⟩ := x
  obtain ⟨a', b', c'⟩ := m
  have hi := (List.getElem?_eq_some_iff.1 h).1
  have e0 := flat_set (enc := encMb) (k := 3) encMb_len (r := 0) (u := .int .i64 a') (by decide) l i _ ⟨a', b, c⟩ h rfl
  rw [Nat.add_zero] at e0
  rw [e0]
  have e1 := flat_set (enc := encMb) (k := 3) encMb_len (r := 1) (u := .int .i64 b') (by decide) (l.set i ⟨a', b, c⟩) i _ ⟨a', b', c⟩ (List.getElem?_set_self hi) rfl
  rw [e1, List.set_set]
  have e2 := flat_set (enc := encMb) (k := 3) encMb_len (r := 2) (u := .int .i64 c') (by decide) (l.set i ⟨a', b', c⟩) i _ ⟨a', b', c'⟩ (List.getElem?_set_self hi) rfl
  rw [e2, List.set_set]
/-- A member is stored in a row of its own. -/
theorem row_store {W : World} {lo g n cap : Nat} {l : List Mb} (h : W.ownsRow lo 44 3 (.slice (some ⟨g, 0, none⟩) n cap) n (flatB l)) (hl : l.length = n) {i : Nat} (hi : i < n) (m : Mb) :
    (((W.setCell ⟨g, i * 3, none⟩ (.int .i64 m.node)).setCell ⟨g, i * 3 + 1, none⟩ (.int .i64 m.region)).setCell ⟨g, i * 3 + 2, none⟩ (.int .i64 m.weight)).ownsRow lo 44 3 (.slice (some ⟨g, 0, none⟩) n cap) n (flatB (l.set i m)) := by
  have h1 := ((h.stored (i * 3) (.int .i64 m.node)).1.stored (i * 3 + 1) (.int .i64 m.region)).1.stored (i * 3 + 2) (.int .i64 m.weight)
  have h2 := h1.1
  rw [set_flat3 (List.getElem?_eq_getElem (by omega : i < l.length))] at h2
  exact h2
theorem row_cells {W : World} {lo g n cap : Nat} {l : List Mb} (h : W.ownsRow lo 44 3 (.slice (some ⟨g, 0, none⟩) n cap) n (flatB l)) {i : Nat} {m : Mb} (hi : i < n) (hm : l[i]? = some m) :
    W.cell? ⟨g, i * 3, none⟩ = some (.int .i64 m.node) ∧ W.cell? ⟨g, i * 3 + 1, none⟩ = some (.int .i64 m.region) ∧ W.cell? ⟨g, i * 3 + 2, none⟩ = some (.int .i64 m.weight) := by
  refine ⟨?_, ?_, ?_⟩
  · rw [h.cellAt (i * 3) (by omega)]; exact flat_get encMb_len l i m 0 hm (by decide)
  · rw [h.cellAt (i * 3 + 1) (by omega)]; exact flat_get encMb_len l i m 1 hm (by decide)
  · rw [h.cellAt (i * 3 + 2) (by omega)]; exact flat_get encMb_len l i m 2 hm (by decide)
def DelPost (lo : Nat) (a : Option Addr) (c : Nat) (l : List Mb) (w : World) (e : Ending) (w' : World) : Prop := e = .returned (.slice a l.length c) ∧ w'.ownsRow lo 44 3 (.slice a l.length c) l.length (flatB l) ∧ Keep (fun j => (Value.slice a l.length c).ownBlock = some j) w w'
set_option maxRecDepth 100000 in
set_option maxHeartbeats 2000000 in
theorem deleteIs_any (lo : Nat) (a : Option Addr) (c : Nat) (l : List Mb) (b : Nat) (n : Int) (w : World) (h : w.ownsRow lo 44 3 (.slice a l.length c) l.length (flatB l)) (hbd : ∀ m ∈ l, I64 m.node ∧ I64 m.region ∧ I64 m.weight) (hl : l.length ≤ 100000) (hb : w.cell? ⟨b, 0, none⟩ = some (.int .i64 n)) (hne : (Value.slice a l.length c).ownBlock ≠ some b) :
    Calls Tryz.prog 52 #[.slice a l.length c, isV b] w (DelPost lo a c (l.filter (notN n)) w) := by
  have hmb : Mbs w (.slice a l.length c) l := mbs_owns h (by omega) hbd
  have HI := Lib.hid (indexIs_any _ l b n w hmb hb hl)
  have HO := Lib.hid h
  have HB := Lib.hid hb
  clear hmb h hb hbd
  obtain ⟨ln, hln⟩ : ∃ n, l.length = n := ⟨_, rfl⟩
  have HL := Lib.hid hln
  rw [hln] at HI HO hl hne ⊢
  clear hln
  go_enter Tryz.func52, Tryz.ntmps52
  go_wp2_with fail
  with_reducible refine HI.out.mono ?_
  rintro e W1 ⟨⟨r, rfl, hr⟩, k1⟩
  have HR := Lib.hid hr
  have HK1 := Lib.hid k1
  have HO1 := Lib.hid (ownsRow_keep HO.out k1 (fun _ _ h => h))
  have HB1 := Lib.hid (k1.cell HB.out (fun h => h))
  clear hr k1 HI HO HB
  rcases HR.out with ⟨rfl, hnone⟩ | ⟨k, m, rfl, hk, hm, hfirst⟩
  · have HF : Hid (l.filter (notN n) = l) := Lib.hid (List.filter_eq_self.2 (fun m hm => by unfold notN; simpa using hnone m hm))
    clear hnone HR
    go_wp2_with fail
    go_ret
    unfold DelPost
    rw [HF.out, HL.out]
    exact ⟨rfl, HO1.out, HK1.out.mono (fun _ h => h.elim)⟩
  · have hkl : k < ln := by have := (List.getElem?_eq_some_iff.1 hk).1; have := HL.out; omega
    obtain ⟨g, rfl⟩ := own_some' HO1.out (by omega)
    have hgb : g ≠ b := fun e => hne (by rw [e]; rfl)
    have HGB := Lib.hid hgb
    have HST : Hid (∃ cur : List Mb, cur.length = ln ∧ cur.take k = (l.take (k + 1)).filter (notN n) ∧ cur.drop (k + 1) = l.drop (k + 1) ∧ flatB cur = flatB l) := Lib.hid ⟨l, HL.out, by
      rw [List.take_add_one, hk, List.filter_append]
      have e1 : (l.take k).filter (notN n) = l.take k := List.filter_eq_self.2 (fun x hx => by
        obtain ⟨j, hj⟩ := List.mem_iff_getElem?.1 hx
        have hjk : j < k := by have := (List.getElem?_eq_some_iff.1 hj).1; rw [List.length_take] at this; omega
        rw [List.getElem?_take_of_lt hjk] at hj
        unfold notN
        simpa using hfirst j x hjk hj)
      rw [e1]
      simp [notN, hm], rfl, rfl⟩
    have hne1 : ((k : Int) == -1) = false := by simp
    have hk0 : (0 : Int) ≤ (k : Int) := by omega
    clear hfirst hk hm HR hne hgb
    go_wp2_with fail
    obtain ⟨cur0, q1, q2, q3, q4⟩ := HST.out
    have HO2 : Hid (W1.ownsRow lo 44 3 (.slice (some ⟨g, 0, none⟩) ln c) ln (flatB cur0)) := Lib.hid (by rw [q4]; exact HO1.out)
    have Q1 := Lib.hid q1
    have Q2 := Lib.hid q2
    have Q3 := Lib.hid q3
    clear q1 q2 q3 q4 HST
    go_loopg [5, 6] ln (fun gh v5 v6 wq => ∃ (i j : Nat) (cur : List Mb), v5 = .int .i64 i ∧ v6 = .int .i64 j ∧ i < j ∧ j ≤ ln ∧ ln ≤ gh + j ∧ cur.length = ln ∧ Hid (cur.take i = (l.take j).filter (notN n)) ∧ Hid (cur.drop j = l.drop j) ∧ wq.ownsRow lo 44 3 (.slice (some ⟨g, 0, none⟩) ln c) ln (flatB cur) ∧ Keep (fun j => j = g) W1 wq)
    case atStart => exact ⟨k, k + 1, cur0, rfl, by go_num, by omega, by omega, by omega, Q1.out, Q2, Q3, HO2.out, Keep.refl _ _⟩
    case round =>
      clear HO2 Q1 Q2 Q3 cur0
      obtain ⟨i, j, cur, rfl, rfl, hij, hjn, hg, hcl, HT, HD, hown, hkeep⟩ := hrel
      have HO := Lib.hid hown
      have HK := Lib.hid hkeep
      have HCL := Lib.hid hcl
      clear hown hkeep hcl
      by_cases hlt : j < ln
      · obtain ⟨m, hm⟩ : ∃ m, cur[j]? = some m := ⟨_, List.getElem?_eq_getElem (by have := HCL.out; omega)⟩
        have HML : Hid (l[j]? = some m) := Lib.hid (by
          have h1 : (cur.drop j)[0]? = (l.drop j)[0]? := by rw [HD.out]
          rw [List.getElem?_drop, List.getElem?_drop, Nat.add_zero] at h1
          rw [← h1]; exact hm)
        obtain ⟨c0, c1, c2⟩ := row_cells HO.out hlt hm
        have cf : ∀ o, wr.frozen? ⟨g, o, none⟩ = false := fun o => HO.out.frozenAt o
        have HM := Lib.hid hm
        have hjz : (j : Int) < (ln : Int) := by omega
        have hj0 : (0 : Int) ≤ (j : Int) := by omega
        have hi0 : (0 : Int) ≤ (i : Int) := by omega
        have hiz : (i : Int) < (ln : Int) := by omega
        clear hm
        obtain ⟨x, y, z⟩ := m
        simp only [] at c0 c1 c2
        have HV := Lib.hid (Box3.new wr (.int .i64 x) (.int .i64 y) (.int .i64 z) 44)
        have HKA : Hid (Keep (fun _ => False) wr (wr.alloc (.cells #[.int .i64 x, .int .i64 y, .int .i64 z] 44))) := Lib.hid ((Keep.refl _ wr).alloc _)
        go_upto_region 8 with (fail)
        clear c0 c1 c2 cf
        have hgw := (HO.out.lt g rfl).2
        generalize wr.alloc (.cells #[.int .i64 x, .int .i64 y, .int .i64 z] 44) = V at *
        generalize wr.heap.size = zv at *
        have HZV : Hid (zv ≠ g) := Lib.hid (by omega)
        clear hgw
        obtain ⟨b0, b1, b2, -⟩ := HV.out
        go_wp2_with fail
        clear b0 b1 b2
        refine (is1_any ⟨x, y, z⟩ b n V ((HKA.out.cell (HK.out.cell HB1.out (fun e => HGB.out e.symm)) (fun h => h)))).mono ?_
        rintro e V2 ⟨rfl, k2⟩
        have HKV := Lib.hid (HKA.out.trans k2)
        have HV2 := Lib.hid (HV.out.kept k2)
        have HO2 := Lib.hid (ownsRow_keep HO.out HKV.out (fun _ _ h => h))
        clear k2 HV HKA
        by_cases hx : x = n
        · have hb : (x == n) = true := by simpa using hx
          simp only [hb]
          have HTN : Hid (cur.take i = (l.take (j + 1)).filter (notN n)) := Lib.hid (by
            rw [List.take_add_one, HML.out, List.filter_append, HT.out]
            simp [notN, hx])
          have HDN : Hid (cur.drop (j + 1) = l.drop (j + 1)) := Lib.hid (by rw [← List.drop_drop, ← List.drop_drop, HD.out])
          go_wp2_with fail
          go_roundg (gk - 1)
          case rel => exact ⟨i, j + 1, cur, rfl, by go_num, by omega, by omega, by omega, HCL.out, HTN, HDN, HO2.out, HK.out.trans (HKV.out.mono (fun _ h => h.elim))⟩
          case measure => omega
        · have hb : (x == n) = false := by simpa using hx
          simp only [hb]
          have HTN : Hid ((cur.set i ⟨x, y, z⟩).take (i + 1) = (l.take (j + 1)).filter (notN n)) := Lib.hid (by
            rw [List.take_add_one, List.getElem?_set_self (by have := HCL.out; omega), List.take_set_of_le (Nat.le_refl _), HT.out, List.take_add_one, HML.out, List.filter_append]
            simp [notN, hx])
          have HDN : Hid ((cur.set i ⟨x, y, z⟩).drop (j + 1) = l.drop (j + 1)) := Lib.hid (by
            rw [List.drop_set_of_lt (by omega), ← List.drop_drop, ← List.drop_drop, HD.out])
          have HON := Lib.hid (row_store HO2.out HCL.out (show i < ln by omega) ⟨x, y, z⟩)
          have kq : Keep (fun j => j = g) V2 (((V2.setCell ⟨g, i * 3, none⟩ (.int .i64 x)).setCell ⟨g, i * 3 + 1, none⟩ (.int .i64 y)).setCell ⟨g, i * 3 + 2, none⟩ (.int .i64 z)) := (((Keep.refl (fun j => j = g) V2).setCell (p := ⟨g, i * 3, none⟩) _ (.inl rfl)).setCell (p := ⟨g, i * 3 + 1, none⟩) _ (.inl rfl)).setCell (p := ⟨g, i * 3 + 2, none⟩) _ (.inl rfl)
          have HKN := Lib.hid ((HK.out.trans (HKV.out.mono (fun _ h => h.elim))).trans kq)
          obtain ⟨w0, hw0⟩ : ∃ w0, cur[i]? = some w0 := ⟨_, List.getElem?_eq_getElem (by have := HCL.out; omega)⟩
          obtain ⟨e0, e1, e2⟩ := row_cells HO2.out (show i < ln by omega) hw0
          have cf : ∀ o, V2.frozen? ⟨g, o, none⟩ = false := fun o => HO2.out.frozenAt o
          obtain ⟨b0, b1, b2, -⟩ := HV2.out
          clear kq hw0
          go_wp2_with fail
          clear e0 e1 e2 cf b0 b1 b2
          generalize ((V2.setCell ⟨g, i * 3, none⟩ (.int .i64 x)).setCell ⟨g, i * 3 + 1, none⟩ (.int .i64 y)).setCell ⟨g, i * 3 + 2, none⟩ (.int .i64 z) = V3 at *
          go_roundg (gk - 1)
          case rel => exact ⟨i + 1, j + 1, _, by go_num, by go_num, by omega, by omega, by omega, by rw [List.length_set]; exact HCL.out, HTN, HDN, HON.out, HKN.out⟩
          case measure => omega
      · have hjl : j = ln := by omega
        have hil : i < ln := by omega
        have HFI : Hid (cur.take i = l.filter (notN n) ∧ (l.filter (notN n)).length = i) := Lib.hid (by
          have h1 := HT.out
          have e2 : l.take ln = l := List.take_of_length_le (by have := HL.out; omega)
          rw [hjl, e2] at h1
          refine ⟨h1, ?_⟩
          rw [← h1, List.length_take, HCL.out]
          omega)
        have hsc : i ≤ c := by
          have := own_cap HO.out
          omega
        have hcap : ln ≤ c := own_cap HO.out
        have hjz : ¬ ((j : Int) < (ln : Int)) := by omega
        have hi0 : (0 : Int) ≤ (i : Int) := by omega
        have hiz : (i : Int) ≤ (ln : Int) := by omega
        obtain ⟨W3, hrun, hown3, hk3⟩ := clear_end HO.out hil 0 (c - i)
        have HRUN := Lib.hid hrun
        have HO3 := Lib.hid hown3
        have HK3 := Lib.hid (HK.out.trans hk3)
        clear hrun hown3 hk3
        have hrn := HRUN.out
        go_upto_region 12 with (fail)
        clear hrn
        go_wp2_with fail
        go_ret
        unfold DelPost
        rw [HFI.out.2, ← HFI.out.1]
        exact ⟨rfl, HO3.out, (HK1.out.mono (fun _ h => h.elim)).trans (HK3.out.mono (fun j e => by rw [show j = g from e]; rfl))⟩
end Go.Proofs.YtiacdkggbnoigaaGreatDoor

/-
  The stable sort of members that are in order but for the last one.
-/
namespace Go.Proofs.YtiacdkggbnoigaaGreatDoor
open Go.RowKit Go.Shelf

set_option maxRecDepth 100000 in
theorem byNode_any (x y : Mb) (w : World) : Calls Tryz.prog 49 #[mbV x, mbV y] w fun e w' => e = .returned (.int .i64 (cmpI x.node y.node)) ∧ Keep (fun _ => False) w w' := by
  obtain ⟨x0, x1, x2⟩ := x
  obtain ⟨y0, y1, y2⟩ := y
  have HB1 := Lib.hid (Box3.new w (.int .i64 x0) (.int .i64 x1) (.int .i64 x2) 44)
  have HB2 := Lib.hid (Box3.new (w.alloc (.cells #[.int .i64 x0, .int .i64 x1, .int .i64 x2] 44)) (.int .i64 y0) (.int .i64 y1) (.int .i64 y2) 44)
  have k1 : Keep (fun _ => False) w (w.alloc (.cells #[.int .i64 x0, .int .i64 x1, .int .i64 x2] 44)) := (Keep.refl _ w).alloc _
  have k2 : Keep (fun _ => False) (w.alloc (.cells #[.int .i64 x0, .int .i64 x1, .int .i64 x2] 44)) ((w.alloc (.cells #[.int .i64 x0, .int .i64 x1, .int .i64 x2] 44)).alloc (.cells #[.int .i64 y0, .int .i64 y1, .int .i64 y2] 44)) := (Keep.refl _ _).alloc _
  have HK := Lib.hid (k1.trans k2)
  have HB3 := Lib.hid (HB1.out.kept k2)
  rw [World.size_alloc] at HB2
  clear k1 k2 HB1
  go_enter Tryz.func49, Tryz.ntmps49
  go_wp2_with fail
  generalize (w.alloc (.cells #[.int .i64 x0, .int .i64 x1, .int .i64 x2] 44)).alloc (.cells #[.int .i64 y0, .int .i64 y1, .int .i64 y2] 44) = W at *
  generalize w.heap.size = z at *
  obtain ⟨a0, -, -, -⟩ := HB3.out
  obtain ⟨b0, -, -, -⟩ := HB2.out
  go_wp2_with fail
  with_reducible refine (cmp_int x0 y0 W).mono ?_
  rintro e w' ⟨rfl, rfl⟩
  go_wp2_with fail
  go_ret
  exact ⟨rfl, HK.out⟩

theorem swap_list {l : List Mb} {q : Nat} {y m : Mb} (h : l[q]? = some y) : ((l.take (q + 1) ++ m :: l.drop (q + 1)).set (q + 1) y).set q m = l.take q ++ m :: l.drop q := by
  have hq : q < l.length := (List.getElem?_eq_some_iff.1 h).1
  have e1 : l.take (q + 1) = l.take q ++ [y] := by rw [List.take_add_one, h]; rfl
  have e2 : l.drop q = y :: l.drop (q + 1) := by
    rw [List.drop_eq_getElem_cons hq]
    congr 1
    exact (List.getElem?_eq_some_iff.1 h).2
  have hl : (l.take q).length = q := by rw [List.length_take]; omega
  rw [e1, e2]
  generalize l.take q = A at *
  generalize l.drop (q + 1) = B at *
  rw [List.append_assoc, List.set_append_right _ _ (by omega), hl, show q + 1 - q = 1 by omega, List.set_append_right _ _ (by omega), hl, Nat.sub_self]
  rfl
/-- The place of a further member. -/
theorem lo_hi_at {l : List Mb} {m : Mb} {j : Nat} (_h : l.Pairwise (fun a b => a.node < b.node)) (h1 : ∀ x ∈ l.take j, x.node < m.node) (h2 : ∀ x ∈ l.drop j, m.node < x.node) : l.take j ++ m :: l.drop j = moreM l m := by
  unfold moreM
  have e : l = l.take j ++ l.drop j := (List.take_append_drop j l).symm
  have f1 : (l.take j).filter (fun x => decide (x.node < m.node)) = l.take j := List.filter_eq_self.2 (fun x hx => by simpa using h1 x hx)
  have f2 : (l.drop j).filter (fun x => decide (x.node < m.node)) = [] := List.filter_eq_nil_iff.2 (fun x hx => by have := h2 x hx; simp; omega)
  have f3 : (l.take j).filter (fun x => decide (m.node < x.node)) = [] := List.filter_eq_nil_iff.2 (fun x hx => by have := h1 x hx; simp; omega)
  have f4 : (l.drop j).filter (fun x => decide (m.node < x.node)) = l.drop j := List.filter_eq_self.2 (fun x hx => by simpa using h2 x hx)
  have a1 : loM l m.node = l.take j := by
    unfold loM
    conv => lhs; rw [e]
    rw [List.filter_append, f1, f2, List.append_nil]
  have a2 : hiM l m.node = l.drop j := by
    unfold hiM
    conv => lhs; rw [e]
    rw [List.filter_append, f3, f4, List.nil_append]
  rw [a1, a2]

abbrev byNodeV : Value := .func (.func 49) #[] #[]
end Go.Proofs.YtiacdkggbnoigaaGreatDoor

/-
  Merging two ascending lists by halves, as slices.symMergeCmpFunc does: plain law.
-/
namespace Go.Proofs.YtiacdkggbnoigaaGreatDoor

section
variable {α : Type} (f : α → Int)
def AscF (l : List α) : Prop := l.Pairwise (fun a b => f a < f b)
theorem AscF.left {f : α → Int} {l m : List α} (h : AscF f (l ++ m)) : AscF f l := (List.pairwise_append.1 h).1
theorem AscF.right {f : α → Int} {l m : List α} (h : AscF f (l ++ m)) : AscF f m := (List.pairwise_append.1 h).2.1
theorem AscF.cross {f : α → Int} {l m : List α} (h : AscF f (l ++ m)) {a b : α} (ha : a ∈ l) (hb : b ∈ m) : f a < f b := (List.pairwise_append.1 h).2.2 a ha b hb
theorem AscF.le_last {f : α → Int} {l : List α} (h : AscF f l) {x : α} (hx : l.getLast? = some x) {a : α} (ha : a ∈ l) : f a ≤ f x := by
  rw [List.getLast?_eq_some_iff] at hx
  obtain ⟨ys, rfl⟩ := hx
  rcases List.mem_append.1 ha with ha | ha
  · exact Int.le_of_lt (h.cross ha List.mem_cons_self)
  · rw [List.mem_singleton] at ha
    rw [ha]
    exact Int.le_refl _
theorem AscF.head_le {f : α → Int} {l : List α} (h : AscF f l) {x : α} (hx : l.head? = some x) {a : α} (ha : a ∈ l) : f x ≤ f a := by
  cases l with
  | nil => cases hx
  | cons y l =>
    cases hx
    rcases List.mem_cons.1 ha with rfl | ha
    · exact Int.le_refl _
    · exact Int.le_of_lt (List.rel_of_pairwise_cons h ha)
/-- What the search has found: A1 ends below where B2 begins. -/
def Below2 (A B : List α) : Prop := A = [] ∨ B = [] ∨ ∃ x y, A.getLast? = some x ∧ B.head? = some y ∧ f x < f y
theorem Below2.all {f : α → Int} {A B : List α} (h : Below2 f A B) (hA : AscF f A) (hB : AscF f B) {a b : α} (ha : a ∈ A) (hb : b ∈ B) : f a < f b := by
  rcases h with rfl | rfl | ⟨x, y, hx, hy, hxy⟩
  · cases ha
  · cases hb
  · have h1 := hA.le_last hx ha
    have h2 := hB.head_le hy hb
    omega
theorem merge_join {f : α → Int} {A1 A2 B1 B2 C1 C2 : List α} (hA : AscF f (A1 ++ A2)) (hB : AscF f (B1 ++ B2)) (h1 : Below2 f A1 B2) (h2 : Below2 f B1 A2) (c1 : C1.Perm (A1 ++ B1)) (c2 : C2.Perm (A2 ++ B2)) (s1 : AscF f C1) (s2 : AscF f C2) :
    AscF f (C1 ++ C2) ∧ (C1 ++ C2).Perm ((A1 ++ A2) ++ (B1 ++ B2)) := by
  refine ⟨List.pairwise_append.2 ⟨s1, s2, fun a ha b hb => ?_⟩, ?_⟩
  · rcases List.mem_append.1 (c1.mem_iff.1 ha) with ha | ha <;> rcases List.mem_append.1 (c2.mem_iff.1 hb) with hb | hb
    · exact hA.cross ha hb
    · exact h1.all hA.left hB.right ha hb
    · exact h2.all hB.left hA.right ha hb
    · exact hB.cross ha hb
  · refine (c1.append c2).trans ?_
    rw [List.append_assoc, List.append_assoc]
    refine List.Perm.append_left A1 ?_
    rw [← List.append_assoc, ← List.append_assoc]
    exact List.Perm.append_right B2 List.perm_append_comm
/-- An ascending list is known by its elements. -/
theorem asc_unique {f : α → Int} : ∀ {l m : List α}, AscF f l → AscF f m → l.Perm m → l = m
  | [], m, _, _, h => by rw [List.nil_perm] at h; exact h.symm
  | x :: l, [], _, _, h => absurd h.length_eq (by simp)
  | x :: l, y :: m, h1, h2, h => by
    have e : x = y := by
      rcases List.mem_cons.1 (h.mem_iff.1 List.mem_cons_self) with e | hx
      · exact e
      · rcases List.mem_cons.1 (h.symm.mem_iff.1 List.mem_cons_self) with e | hy
        · exact e.symm
        · have h3 := List.rel_of_pairwise_cons h1 hy
          have h4 := List.rel_of_pairwise_cons h2 hx
          omega
    subst e
    rw [asc_unique (List.Pairwise.of_cons h1) (List.Pairwise.of_cons h2) (List.Perm.cons_inv h)]
end
end Go.Proofs.YtiacdkggbnoigaaGreatDoor

/-
  swapRange and rotate of the stable sort, over members of a row of its own.
-/
namespace Go.Proofs.YtiacdkggbnoigaaGreatDoor
open Go.RowKit Go.Shelf

theorem set_mid {α : Type} {A B : List α} {x y : α} {i : Nat} (h : i = A.length) : (A ++ x :: B).set i y = A ++ y :: B := by
  subst h
  rw [List.set_append_right _ _ (Nat.le_refl _), Nat.sub_self]
  rfl
theorem get_mid {α : Type} {A B : List α} {x : α} {i : Nat} (h : i = A.length) : (A ++ x :: B)[i]? = some x := by
  subst h
  rw [List.getElem?_append_right (Nat.le_refl _), Nat.sub_self]
  rfl
/-- X and Y, exchanged element by element. -/
def swpL {α : Type} (P X Q Y S : List α) (k : Nat) : List α := P ++ (Y.take k ++ (X.drop k ++ (Q ++ (X.take k ++ (Y.drop k ++ S)))))
theorem swpL_zero {α : Type} (P X Q Y S : List α) : swpL P X Q Y S 0 = P ++ (X ++ (Q ++ (Y ++ S))) := by simp [swpL]
theorem swpL_all {α : Type} (P X Q Y S : List α) {n : Nat} (hx : X.length = n) (hy : Y.length = n) : swpL P X Q Y S n = P ++ (Y ++ (Q ++ (X ++ S))) := by
  unfold swpL
  rw [List.take_of_length_le (by omega), List.take_of_length_le (by omega), List.drop_of_length_le (by omega), List.drop_of_length_le (by omega)]
  rfl
theorem swpL_len {α : Type} (P X Q Y S : List α) {n : Nat} (hx : X.length = n) (hy : Y.length = n) (k : Nat) : (swpL P X Q Y S k).length = P.length + n + Q.length + n + S.length := by
  unfold swpL
  simp only [List.length_append, List.length_take, List.length_drop]
  omega
theorem swpL_at {α : Type} (P X Q Y S : List α) {k : Nat} {x y : α} (hx : X[k]? = some x) (hy : Y[k]? = some y) :
    (swpL P X Q Y S k)[P.length + k]? = some x ∧ (swpL P X Q Y S k)[P.length + X.length + Q.length + k]? = some y ∧
    ((swpL P X Q Y S k).set (P.length + k) y).set (P.length + X.length + Q.length + k) x = swpL P X Q Y S (k + 1) := by
  obtain ⟨hk1, rfl⟩ := List.getElem?_eq_some_iff.1 hx
  obtain ⟨hk2, rfl⟩ := List.getElem?_eq_some_iff.1 hy
  have e1 : X.drop k = X[k] :: X.drop (k + 1) := List.drop_eq_getElem_cons hk1
  have e2 : Y.drop k = Y[k] :: Y.drop (k + 1) := List.drop_eq_getElem_cons hk2
  have e3 : X.take (k + 1) = X.take k ++ [X[k]] := by rw [List.take_add_one, hx]; rfl
  have e4 : Y.take (k + 1) = Y.take k ++ [Y[k]] := by rw [List.take_add_one, hy]; rfl
  have l1 : (X.take k).length = k := by rw [List.length_take]; omega
  have l2 : (Y.take k).length = k := by rw [List.length_take]; omega
  have l3 : (X.drop (k + 1)).length + (k + 1) = X.length := by rw [List.length_drop]; omega
  unfold swpL
  rw [e1, e2, e3, e4]
  generalize X.take k = X0 at *
  generalize Y.take k = Y0 at *
  generalize X.drop (k + 1) = X1 at *
  generalize Y.drop (k + 1) = Y1 at *
  generalize X[k] = x at *
  generalize Y[k] = y at *
  have a1 : P ++ (Y0 ++ (x :: X1 ++ (Q ++ (X0 ++ (y :: Y1 ++ S))))) = (P ++ Y0) ++ x :: (X1 ++ (Q ++ (X0 ++ (y :: (Y1 ++ S))))) := by simp
  have a2 : P ++ (Y0 ++ (x :: X1 ++ (Q ++ (X0 ++ (y :: Y1 ++ S))))) = (P ++ Y0 ++ x :: X1 ++ Q ++ X0) ++ y :: (Y1 ++ S) := by simp
  have a3 : (P ++ Y0) ++ y :: (X1 ++ (Q ++ (X0 ++ (y :: (Y1 ++ S))))) = (P ++ Y0 ++ y :: X1 ++ Q ++ X0) ++ y :: (Y1 ++ S) := by simp
  refine ⟨?_, ?_, ?_⟩
  · rw [a1]; exact get_mid (by simp; omega)
  · rw [a2]; exact get_mid (by simp; omega)
  · rw [a1, set_mid (by simp; omega), a3, set_mid (by simp; omega)]
    simp

/-- A row that holds a list; nothing else has changed. -/
def SortedPost (lo g c n : Nat) (l : List Mb) (w : World) (e : Ending) (w' : World) : Prop := e = .returned (.tuple #[]) ∧ w'.ownsRow lo 44 3 (.slice (some ⟨g, 0, none⟩) n c) n (flatB l) ∧ Keep (fun j => j = g) w w'

/-- Two members stored, one after the other. -/
theorem row_swap {W : World} {lo g n cap : Nat} {l : List Mb} (h : W.ownsRow lo 44 3 (.slice (some ⟨g, 0, none⟩) n cap) n (flatB l)) (hl : l.length = n) {i j : Nat} (hi : i < n) (hj : j < n) (y0 y1 y2 x0 x1 x2 : Int) :
    ((((((W.setCell ⟨g, i * 3, none⟩ (.int .i64 y0)).setCell ⟨g, i * 3 + 1, none⟩ (.int .i64 y1)).setCell ⟨g, i * 3 + 2, none⟩ (.int .i64 y2)).setCell ⟨g, j * 3, none⟩ (.int .i64 x0)).setCell ⟨g, j * 3 + 1, none⟩ (.int .i64 x1)).setCell ⟨g, j * 3 + 2, none⟩ (.int .i64 x2)).ownsRow lo 44 3 (.slice (some ⟨g, 0, none⟩) n cap) n (flatB ((l.set i ⟨y0, y1, y2⟩).set j ⟨x0, x1, x2⟩)) ∧
    Keep (fun k => k = g) W ((((((W.setCell ⟨g, i * 3, none⟩ (.int .i64 y0)).setCell ⟨g, i * 3 + 1, none⟩ (.int .i64 y1)).setCell ⟨g, i * 3 + 2, none⟩ (.int .i64 y2)).setCell ⟨g, j * 3, none⟩ (.int .i64 x0)).setCell ⟨g, j * 3 + 1, none⟩ (.int .i64 x1)).setCell ⟨g, j * 3 + 2, none⟩ (.int .i64 x2)) := by
  have h1 := row_store h hl hi ⟨y0, y1, y2⟩
  have h2 := row_store h1 (by rw [List.length_set]; exact hl) hj ⟨x0, x1, x2⟩
  exact ⟨h2, ((((((Keep.refl (fun k => k = g) W).setCell (p := ⟨g, i * 3, none⟩) _ (.inl rfl)).setCell (p := ⟨g, i * 3 + 1, none⟩) _ (.inl rfl)).setCell (p := ⟨g, i * 3 + 2, none⟩) _ (.inl rfl)).setCell (p := ⟨g, j * 3, none⟩) _ (.inl rfl)).setCell (p := ⟨g, j * 3 + 1, none⟩) _ (.inl rfl)).setCell (p := ⟨g, j * 3 + 2, none⟩) _ (.inl rfl)⟩
/-- What the first of two stores leaves of the cells. -/
theorem row_swap1 {W : World} {lo g n cap : Nat} {l : List Mb} (h : W.ownsRow lo 44 3 (.slice (some ⟨g, 0, none⟩) n cap) n (flatB l)) (hl : l.length = n) {i j : Nat} (hi : i < n) (hj : j < n) (hne : i ≠ j) {x : Mb} (hx : l[j]? = some x) (y0 y1 y2 : Int) :
    let V := ((W.setCell ⟨g, i * 3, none⟩ (.int .i64 y0)).setCell ⟨g, i * 3 + 1, none⟩ (.int .i64 y1)).setCell ⟨g, i * 3 + 2, none⟩ (.int .i64 y2)
    (V.cell? ⟨g, j * 3, none⟩ = some (.int .i64 x.node) ∧ V.cell? ⟨g, j * 3 + 1, none⟩ = some (.int .i64 x.region) ∧ V.cell? ⟨g, j * 3 + 2, none⟩ = some (.int .i64 x.weight)) ∧ (∀ o, V.frozen? ⟨g, o, none⟩ = false) ∧ Keep (fun k => k = g) W V := by
  have h1 := row_store h hl hi ⟨y0, y1, y2⟩
  refine ⟨row_cells h1 hj (by rw [List.getElem?_set_ne hne]; exact hx), fun o => h1.frozenAt o, ((((Keep.refl (fun k => k = g) W).setCell (p := ⟨g, i * 3, none⟩) _ (.inl rfl)).setCell (p := ⟨g, i * 3 + 1, none⟩) _ (.inl rfl)).setCell (p := ⟨g, i * 3 + 2, none⟩) _ (.inl rfl))⟩

set_option maxRecDepth 100000 in
set_option maxHeartbeats 4000000 in
theorem swapRange_any (lo g c N : Nat) (P X Q Y S : List Mb) (cv : Value) (n a b : Nat) (w : World) (hX : X.length = n) (hY : Y.length = n) (ha : P.length = a) (hb : P.length + X.length + Q.length = b) (hN : b + n + S.length = N) (hN2 : N ≤ 1000)
    (h : w.ownsRow lo 44 3 (.slice (some ⟨g, 0, none⟩) N c) N (flatB (P ++ (X ++ (Q ++ (Y ++ S)))))) :
    Calls Tryz.prog 120 #[.slice (some ⟨g, 0, none⟩) N c, .int .i64 a, .int .i64 b, .int .i64 n, cv] w (SortedPost lo g c N (P ++ (Y ++ (Q ++ (X ++ S)))) w) := by
  have HO := Lib.hid h
  have HLX := Lib.hid hX
  have HLY := Lib.hid hY
  have HLA := Lib.hid ha
  have HLB := Lib.hid hb
  have HLN : Hid (∀ k, (swpL P X Q Y S k).length = N) := Lib.hid (fun k => by rw [swpL_len P X Q Y S hX hY]; omega)
  have hbn : b + n ≤ N := by omega
  have han : a + n ≤ b := by omega
  clear h hX hY ha hb hN
  go_enter Tryz.func120, Tryz.ntmps120
  go_wp2_with fail
  go_loopg [10] n (fun gh v wq => ∃ k : Nat, v = .int .i64 k ∧ gh + k = n ∧ wq.ownsRow lo 44 3 (.slice (some ⟨g, 0, none⟩) N c) N (flatB (swpL P X Q Y S k)) ∧ Keep (fun j => j = g) w wq)
  case atStart => exact ⟨0, rfl, by omega, by rw [swpL_zero]; exact HO.out, Keep.refl _ _⟩
  case round =>
    clear HO
    obtain ⟨k, rfl, hk, hown, hkeep⟩ := hrel
    have HO := Lib.hid hown
    have HK := Lib.hid hkeep
    clear hown hkeep
    by_cases hlt : k < n
    · obtain ⟨x, hx⟩ : ∃ x, X[k]? = some x := ⟨_, List.getElem?_eq_getElem (by have := HLX.out; omega)⟩
      obtain ⟨y, hy⟩ : ∃ y, Y[k]? = some y := ⟨_, List.getElem?_eq_getElem (by have := HLY.out; omega)⟩
      have hat := swpL_at P X Q Y S hx hy
      rw [HLA.out, HLX.out, show a + n + Q.length = b by have := HLB.out; have := HLX.out; have := HLA.out; omega] at hat
      obtain ⟨i, hi⟩ : ∃ i, a + k = i := ⟨_, rfl⟩
      obtain ⟨j, hj⟩ : ∃ j, b + k = j := ⟨_, rfl⟩
      rw [hi, hj] at hat
      have HAT := Lib.hid hat
      have e1 : (a : Int) + (k : Int) = (i : Int) := by omega
      have e2 : (b : Int) + (k : Int) = (j : Int) := by omega
      have hi1 : i < N := by omega
      have hj1 : j < N := by omega
      have hne : i ≠ j := by omega
      have hk0 : (0 : Int) ≤ (k : Int) := by omega
      have hkz : (k : Int) < (n : Int) := by omega
      have hi0 : (0 : Int) ≤ (i : Int) := by omega
      have hj0 : (0 : Int) ≤ (j : Int) := by omega
      have hiz : (i : Int) < (N : Int) := by omega
      have hjz : (j : Int) < (N : Int) := by omega
      have hw1 : IntKind.i64.wrap (i : Int) = (i : Int) := wrapI (by unfold I64; omega)
      have hw2 : IntKind.i64.wrap (j : Int) = (j : Int) := wrapI (by unfold I64; omega)
      clear hx hy hi hj hat
      obtain ⟨x0, x1, x2⟩ := x
      obtain ⟨y0, y1, y2⟩ := y
      have HOU : Hid (wr.drew.ownsRow lo 44 3 (.slice (some ⟨g, 0, none⟩) N c) N (flatB (swpL P X Q Y S k))) := Lib.hid (ownsRow_keep HO.out (Keep.refl (fun _ => False) wr).drew (fun _ _ h => h))
      have HKU : Hid (Keep (fun j => j = g) w wr.drew) := Lib.hid (HK.out.trans (Keep.refl (fun j => j = g) wr).drew)
      go_upto_region 3 with (fail)
      refine wp_region_walkT (.read 0 (.read 1 (.read 2 (.read 3 (.read 4 (.read 5 (.read 6 (.read 7 (.read 8 (.read 9 (.read 10 (.read 11 (.read 12 (.read 14 (.read 15 (.read 16 (.read 17 (.read 18 (.two 13 (.one 19 (.one 20 (.one 21 (.one 22 (.one 23 .done))))) 19 (.one 13 (.one 20 (.one 21 (.one 22 (.one 23 .done)))))))))))))))))))))))) (inKA (fun j => j = g) wr.drew) (by kernel_rfl) (by kernel_rfl) ?_
      iterate 18 (refine walkT_read rfl (fun K hK => ?_); go_simp; refine hK _ ?_; clear hK K)
      clear HO HK
      generalize wr.drew = U at *
      obtain ⟨d0, d1, d2⟩ := row_cells HOU.out hi1 HAT.out.1
      obtain ⟨f0, f1, f2⟩ := row_cells HOU.out hj1 HAT.out.2.1
      have hs1 := row_swap1 HOU.out (HLN.out k) hi1 hj1 hne HAT.out.2.1 y0 y1 y2
      obtain ⟨⟨g0, g1, g2⟩, cf2, kq1⟩ := hs1
      have HS2 := Lib.hid (row_swap HOU.out (HLN.out k) hi1 hj1 y0 y1 y2 x0 x1 x2)
      rw [HAT.out.2.2] at HS2
      have cf1 : ∀ o, U.frozen? ⟨g, o, none⟩ = false := fun o => HOU.out.frozenAt o
      have HKQ := Lib.hid kq1
      clear kq1
      simp only [] at d0 d1 d2 f0 f1 f2 g0 g1 g2
      refine walkT_two rfl rfl (inKA.of (Keep.refl _ U)) (fun K hK => ?_) (fun K hK => ?_)
      all_goals
        go_simp
        refine hK _ _ ?_; clear hK K
        refine walkT_do rfl (inKA.of (Keep.refl _ U)) (fun K hK => ?_)
        go_simp
        refine hK _ _ ?_; clear hK K
        refine walkT_do rfl (inKA.of (Keep.refl _ U)) (fun K hK => ?_)
        go_simp
        refine hK _ _ ?_; clear hK K
        refine walkT_do rfl (inKA.of (Keep.refl _ U)) (fun K hK => ?_)
        go_simp
        refine hK _ _ ?_; clear hK K
        refine walkT_do rfl (inKA.of HKQ.out) (fun K hK => ?_)
        go_simp
        refine hK _ _ ?_; clear hK K
        refine walkT_do rfl (inKA.of HKQ.out) (fun K hK => ?_)
        go_simp
        refine hK _ _ ?_; clear hK K
        refine ⟨inKA.of HS2.out.2, ?_⟩
        go_wp2_with fail
        clear d0 d1 d2 f0 f1 f2 g0 g1 g2 cf1 cf2
        generalize (((((U.setCell ⟨g, i * 3, none⟩ (.int .i64 y0)).setCell ⟨g, i * 3 + 1, none⟩ (.int .i64 y1)).setCell ⟨g, i * 3 + 2, none⟩ (.int .i64 y2)).setCell ⟨g, j * 3, none⟩ (.int .i64 x0)).setCell ⟨g, j * 3 + 1, none⟩ (.int .i64 x1)).setCell ⟨g, j * 3 + 2, none⟩ (.int .i64 x2) = WF at *
        go_roundg (gk - 1)
      · exact ⟨k + 1, by go_num, by omega, HS2.out.1, HKU.out.trans HS2.out.2⟩
      · omega
      · exact ⟨k + 1, by go_num, by omega, HS2.out.1, HKU.out.trans HS2.out.2⟩
      · omega
    · obtain rfl : k = n := by omega
      have hkz : ¬ (k : Int) < (k : Int) := by omega
      go_wp2_with fail
      go_end0
      refine ⟨rfl, ?_, HK.out⟩
      rw [← swpL_all P X Q Y S HLX.out HLY.out]
      exact HO.out

set_option maxRecDepth 100000 in
set_option maxHeartbeats 4000000 in
theorem rotate_any (lo g c N : Nat) (P A B S : List Mb) (cv : Value) (a m b : Nat) (w : World) (hA : 0 < A.length) (hB : 0 < B.length) (ha : P.length = a) (hm : a + A.length = m) (hb : m + B.length = b) (hN : b + S.length = N) (hN2 : N ≤ 1000)
    (h : w.ownsRow lo 44 3 (.slice (some ⟨g, 0, none⟩) N c) N (flatB (P ++ (A ++ (B ++ S))))) :
    Calls Tryz.prog 113 #[.slice (some ⟨g, 0, none⟩) N c, .int .i64 a, .int .i64 m, .int .i64 b, cv] w (SortedPost lo g c N (P ++ (B ++ (A ++ S))) w) := by
  have HO := Lib.hid h
  obtain ⟨la, hla⟩ : ∃ n, A.length = n := ⟨_, rfl⟩
  obtain ⟨lb, hlb⟩ : ∃ n, B.length = n := ⟨_, rfl⟩
  have e1 : (m : Int) - (a : Int) = (la : Int) := by omega
  have e2 : (b : Int) - (m : Int) = (lb : Int) := by omega
  have hw1 : IntKind.i64.wrap (la : Int) = (la : Int) := wrapI (by unfold I64; omega)
  have hw2 : IntKind.i64.wrap (lb : Int) = (lb : Int) := wrapI (by unfold I64; omega)
  have hmN : m ≤ 1000 := by omega
  have HST : Hid (P.length + la = m ∧ m + lb + S.length = N ∧ A.length = la ∧ B.length = lb) := Lib.hid ⟨by omega, by omega, hla, hlb⟩
  have hla0 : 0 < la := by omega
  have hlb0 : 0 < lb := by omega
  clear h hA hB ha hm hb hN hla hlb
  go_enter Tryz.func113, Tryz.ntmps113
  go_wp2_with fail
  clear e1 e2 hw1 hw2
  go_loopg [10, 11] (la + lb) (fun gh v10 v11 wq => ∃ (i j : Nat) (P' X Y S' : List Mb), v10 = .int .i64 i ∧ v11 = .int .i64 j ∧ 0 < i ∧ 0 < j ∧ i + j ≤ gh ∧ Hid (X.length = i ∧ Y.length = j ∧ P'.length + i = m ∧ m + j + S'.length = N ∧ P' ++ (Y ++ (X ++ S')) = P ++ (B ++ (A ++ S))) ∧ wq.ownsRow lo 44 3 (.slice (some ⟨g, 0, none⟩) N c) N (flatB (P' ++ (X ++ (Y ++ S')))) ∧ Keep (fun j => j = g) w wq)
  case atStart => exact ⟨la, lb, P, A, B, S, rfl, rfl, hla0, hlb0, Nat.le_refl _, Lib.hid ⟨HST.out.2.2.1, HST.out.2.2.2, HST.out.1, HST.out.2.1, rfl⟩, HO.out, Keep.refl _ _⟩
  case round =>
    clear HO HST hla0 hlb0
    obtain ⟨i, j, P', X, Y, S', rfl, rfl, hi0, hj0, hg, HQ, hown, hkeep⟩ := hrel
    have HO := Lib.hid hown
    have HK := Lib.hid hkeep
    clear hown hkeep
    have him : i ≤ m := by have := HQ.out.2.2.1; omega
    have hmj : m + j ≤ N := by have := HQ.out.2.2.2.1; omega
    obtain ⟨p, hp⟩ : ∃ p, m - i = p := ⟨_, rfl⟩
    have hp2 : p + i = m := by omega
    have e1 : (m : Int) - (i : Int) = (p : Int) := by omega
    have hw1 : IntKind.i64.wrap (p : Int) = (p : Int) := wrapI (by unfold I64; omega)
    clear hp
    rcases Nat.lt_trichotomy i j with hij | rfl | hij
    · -- the first part is the shorter one
      obtain ⟨q, hq⟩ : ∃ q, m + j = q := ⟨_, rfl⟩
      obtain ⟨r, hr⟩ : ∃ r, q - i = r := ⟨_, rfl⟩
      obtain ⟨d, hd⟩ : ∃ d, j - i = d := ⟨_, rfl⟩
      have e2 : (m : Int) + (j : Int) = (q : Int) := by omega
      have e3 : (q : Int) - (i : Int) = (r : Int) := by omega
      have e4 : (j : Int) - (i : Int) = (d : Int) := by omega
      have hw2 : IntKind.i64.wrap (q : Int) = (q : Int) := wrapI (by unfold I64; omega)
      have hw3 : IntKind.i64.wrap (r : Int) = (r : Int) := wrapI (by unfold I64; omega)
      have hw4 : IntKind.i64.wrap (d : Int) = (d : Int) := wrapI (by unfold I64; omega)
      have hne : ((i : Int) == (j : Int)) = false := by simp; omega
      have hgt : ¬ (j : Int) < (i : Int) := by omega
      have HY : Hid (Y = Y.take d ++ Y.drop d ∧ (Y.take d).length = d ∧ (Y.drop d).length = i) := Lib.hid ⟨(List.take_append_drop d Y).symm, by rw [List.length_take]; have := HQ.out.2.1; omega, by rw [List.length_drop]; have := HQ.out.2.1; omega⟩
      generalize Y.take d = Y1 at *
      generalize Y.drop d = Y2 at *
      have HSW := Lib.hid (swapRange_any lo g c N P' X Y1 Y2 S' cv i p r wr HQ.out.1 HY.out.2.2 (by have := HQ.out.2.2.1; omega) (by have := HQ.out.1; have := HY.out.2.1; have := HQ.out.2.2.1; omega) (by have := HQ.out.2.2.2.1; have := HQ.out.1; omega) hN2 (by
        have := HO.out
        rw [HY.out.1] at this
        rwa [List.append_assoc] at this))
      clear hq hr hd
      go_wp2_with fail
      with_reducible refine HSW.out.mono ?_
      rintro e W1 ⟨rfl, hown, k1⟩
      have HO1 := Lib.hid hown
      have HK1 := Lib.hid (HK.out.trans k1)
      clear hown k1 HSW HO HK
      go_wp2_with fail
      go_roundg (gk - i)
      case rel => exact ⟨i, d, P', Y2, Y1, X ++ S', rfl, rfl, hi0, by omega, by omega, Lib.hid ⟨HY.out.2.2, HY.out.2.1, HQ.out.2.2.1, by rw [List.length_append]; have := HQ.out.1; have := HQ.out.2.2.2.1; omega, by rw [← HQ.out.2.2.2.2, HY.out.1]; simp only [List.append_assoc]⟩, HO1.out, HK1.out⟩
      case measure => omega
    · -- both have one length
      have HSW := Lib.hid (swapRange_any lo g c N P' X [] Y S' cv i p m wr HQ.out.1 HQ.out.2.1 (by have := HQ.out.2.2.1; omega) (by have := HQ.out.1; have := HQ.out.2.2.1; simp; omega) (by have := HQ.out.2.2.2.1; omega) hN2 HO.out)
      go_wp2_with fail
      with_reducible refine HSW.out.mono ?_
      rintro e W1 ⟨rfl, hown, k1⟩
      have HO1 := Lib.hid hown
      have HK1 := Lib.hid (HK.out.trans k1)
      clear hown k1 HSW HO HK
      go_wp2_with fail
      go_end0
      exact ⟨rfl, by rw [← HQ.out.2.2.2.2]; exact HO1.out, HK1.out⟩
    · obtain ⟨d, hd⟩ : ∃ d, i - j = d := ⟨_, rfl⟩
      have e4 : (i : Int) - (j : Int) = (d : Int) := by omega
      have hw4 : IntKind.i64.wrap (d : Int) = (d : Int) := wrapI (by unfold I64; omega)
      have hne : ((i : Int) == (j : Int)) = false := by simp; omega
      have hgt : (j : Int) < (i : Int) := by omega
      have HX : Hid (X = X.take j ++ X.drop j ∧ (X.take j).length = j ∧ (X.drop j).length = d) := Lib.hid ⟨(List.take_append_drop j X).symm, by rw [List.length_take]; have := HQ.out.1; omega, by rw [List.length_drop]; have := HQ.out.1; omega⟩
      generalize X.take j = X1 at *
      generalize X.drop j = X2 at *
      have HSW := Lib.hid (swapRange_any lo g c N P' X1 X2 Y S' cv j p m wr HX.out.2.1 HQ.out.2.1 (by have := HQ.out.2.2.1; omega) (by have := HX.out.2.1; have := HX.out.2.2; have := HQ.out.2.2.1; omega) (by have := HQ.out.2.2.2.1; omega) hN2 (by
        have := HO.out
        rw [HX.out.1] at this
        rwa [List.append_assoc] at this))
      clear hd
      go_wp2_with fail
      with_reducible refine HSW.out.mono ?_
      rintro e W1 ⟨rfl, hown, k1⟩
      have HO1 := Lib.hid hown
      have HK1 := Lib.hid (HK.out.trans k1)
      clear hown k1 HSW HO HK
      go_wp2_with fail
      go_roundg (gk - j)
      case rel => exact ⟨d, j, P' ++ Y, X2, X1, S', rfl, rfl, by omega, hj0, by omega, Lib.hid ⟨HX.out.2.2, HX.out.2.1, by rw [List.length_append]; have := HQ.out.2.1; have := HQ.out.2.2.1; omega, HQ.out.2.2.2.1, by rw [← HQ.out.2.2.2.2, HX.out.1]; simp only [List.append_assoc]⟩, by rw [List.append_assoc]; exact HO1.out, HK1.out⟩
      case measure => omega
end Go.Proofs.YtiacdkggbnoigaaGreatDoor

/-
  symMerge of the stable sort, over members of a row of its own.
-/
namespace Go.Proofs.YtiacdkggbnoigaaGreatDoor
open Go.RowKit Go.Shelf

/-- One element in a list, at a place. -/
def insL {α : Type} (P : List α) (x : α) (l S : List α) (t : Nat) : List α := P ++ (l.take t ++ x :: (l.drop t ++ S))
theorem insL_len {α : Type} (P : List α) (x : α) (l S : List α) (t : Nat) : (insL P x l S t).length = P.length + l.length + 1 + S.length := by
  unfold insL
  simp only [List.length_append, List.length_take, List.length_drop, List.length_cons]
  omega
theorem insL_zero {α : Type} (P : List α) (x : α) (l S : List α) : insL P x l S 0 = P ++ (x :: (l ++ S)) := by simp [insL]
theorem insL_all {α : Type} (P : List α) (x : α) (l S : List α) {n : Nat} (h : l.length = n) : insL P x l S n = P ++ (l ++ (x :: S)) := by
  unfold insL
  rw [List.take_of_length_le (by omega), List.drop_of_length_le (by omega)]
  rfl
theorem insL_at {α : Type} (P : List α) (x : α) (l S : List α) {t : Nat} {y : α} (hy : l[t]? = some y) :
    (insL P x l S t)[P.length + t]? = some x ∧ (insL P x l S t)[P.length + t + 1]? = some y ∧ ((insL P x l S t).set (P.length + t) y).set (P.length + t + 1) x = insL P x l S (t + 1) ∧
    (insL P x l S (t + 1))[P.length + t + 1]? = some x ∧ (insL P x l S (t + 1))[P.length + t]? = some y ∧ ((insL P x l S (t + 1)).set (P.length + t + 1) y).set (P.length + t) x = insL P x l S t := by
  obtain ⟨hk, rfl⟩ := List.getElem?_eq_some_iff.1 hy
  have e1 : l.drop t = l[t] :: l.drop (t + 1) := List.drop_eq_getElem_cons hk
  have e2 : l.take (t + 1) = l.take t ++ [l[t]] := by rw [List.take_add_one, hy]; rfl
  have l1 : (l.take t).length = t := by rw [List.length_take]; omega
  unfold insL
  rw [e1, e2]
  generalize l.take t = A at *
  generalize l.drop (t + 1) = B at *
  generalize l[t] = y at *
  have a1 : P ++ (A ++ x :: (y :: B ++ S)) = (P ++ A) ++ x :: (y :: (B ++ S)) := by simp
  have a2 : P ++ (A ++ x :: (y :: B ++ S)) = (P ++ A ++ [x]) ++ y :: (B ++ S) := by simp
  have a3 : (P ++ A) ++ y :: (y :: (B ++ S)) = (P ++ A ++ [y]) ++ y :: (B ++ S) := by simp
  have b1 : P ++ (A ++ [y] ++ x :: (B ++ S)) = (P ++ A ++ [y]) ++ x :: (B ++ S) := by simp
  have b2 : P ++ (A ++ [y] ++ x :: (B ++ S)) = (P ++ A) ++ y :: (x :: (B ++ S)) := by simp
  have b3 : (P ++ A ++ [y]) ++ y :: (B ++ S) = (P ++ A) ++ y :: (y :: (B ++ S)) := by simp
  refine ⟨?_, ?_, ?_, ?_, ?_, ?_⟩
  · rw [a1]; exact get_mid (by simp; omega)
  · rw [a2]; exact get_mid (by simp; omega)
  · rw [a1, set_mid (by simp; omega), a3, set_mid (by simp; omega), b1]
  · rw [b1]; exact get_mid (by simp; omega)
  · rw [b2]; exact get_mid (by simp; omega)
  · rw [b1, set_mid (by simp; omega), b3, set_mid (by simp; omega), a1]
theorem ins_asc {l : List Mb} {x : Mb} {t : Nat} (h : AscF Mb.node l) (h1 : ∀ y ∈ l.take t, y.node < x.node) (h2 : ∀ y ∈ l.drop t, x.node < y.node) : AscF Mb.node (l.take t ++ x :: l.drop t) := by
  rw [← List.take_append_drop t l] at h
  refine List.pairwise_append.2 ⟨h.left, List.pairwise_cons.2 ⟨h2, h.right⟩, fun a ha b hb => ?_⟩
  rcases List.mem_cons.1 hb with rfl | hb
  · exact h1 a ha
  · exact h.cross ha hb
theorem insA_perm {l : List Mb} {x : Mb} (t : Nat) : (l.take t ++ x :: l.drop t).Perm (x :: l) := by
  refine List.perm_middle.trans ?_
  rw [List.take_append_drop]
theorem asc_take {l : List Mb} {q : Nat} {y : Mb} (h : AscF Mb.node l) (hy : l[q]? = some y) : ∀ z ∈ l.take (q + 1), z.node ≤ y.node := fun z hz => by
  rw [List.take_add_one, hy] at hz
  rw [← List.take_append_drop q l] at h
  have hd : l.drop q = y :: l.drop (q + 1) := by
    obtain ⟨hk, rfl⟩ := List.getElem?_eq_some_iff.1 hy
    exact List.drop_eq_getElem_cons hk
  rcases List.mem_append.1 hz with hz | hz
  · exact Int.le_of_lt (h.cross hz (by rw [hd]; exact List.mem_cons_self))
  · have : z = y := by simpa using hz
    rw [this]
    exact Int.le_refl _
theorem asc_drop {l : List Mb} {q : Nat} {y : Mb} (h : AscF Mb.node l) (hy : l[q]? = some y) : ∀ z ∈ l.drop q, y.node ≤ z.node := fun z hz => by
  rw [← List.take_append_drop q l] at h
  have hd : l.drop q = y :: l.drop (q + 1) := by
    obtain ⟨hk, rfl⟩ := List.getElem?_eq_some_iff.1 hy
    exact List.drop_eq_getElem_cons hk
  exact h.right.head_le (by rw [hd]; rfl) hz

/-- Two neighbouring parts, merged. -/
def MergePost (lo g c N : Nat) (P A B S : List Mb) (w : World) (e : Ending) (w' : World) : Prop := ∃ C : List Mb, C.Perm (A ++ B) ∧ AscF Mb.node C ∧ SortedPost lo g c N (P ++ (C ++ S)) w e w'

set_option maxRecDepth 100000 in
set_option maxHeartbeats 4000000 in
theorem merge1_any (lo g c N : Nat) (P B S : List Mb) (x : Mb) (a m b : Nat) (w : World) (hB : AscF Mb.node B) (hne : ∀ y ∈ B, x.node ≠ y.node) (ha : P.length = a) (hm : a + 1 = m) (hb : m + B.length = b) (hN : b + S.length = N) (hN2 : N ≤ 1000)
    (h : w.ownsRow lo 44 3 (.slice (some ⟨g, 0, none⟩) N c) N (flatB (P ++ (x :: (B ++ S))))) :
    Calls Tryz.prog 95 #[.slice (some ⟨g, 0, none⟩) N c, .int .i64 a, .int .i64 m, .int .i64 b, byNodeV] w (MergePost lo g c N P [x] B S w) := by
  rw [← insL_zero P x B S] at h
  have HO := Lib.hid h
  have HAS := Lib.hid hB
  have HNE := Lib.hid hne
  have HL : Hid (P.length = a ∧ m + B.length = b ∧ (∀ t, (insL P x B S t).length = N) ∧ a + 1 = m) := Lib.hid ⟨ha, hb, fun t => by rw [insL_len]; omega, hm⟩
  have e1 : (m : Int) - (a : Int) = 1 := by omega
  have hmN : m ≤ b := by omega
  have hbN : b ≤ N := by omega
  have ham : a < m := by omega
  clear h hB hne ha hm hb hN
  go_enter Tryz.func95, Tryz.ntmps95
  go_wp2_with fail
  go_loopg [10, 11, 12] (b - m) (fun gh v10 v11 v12 wq => ∃ (i j : Nat), v10 = .int .i64 i ∧ v11 = .int .i64 j ∧ m ≤ i ∧ i ≤ j ∧ j ≤ b ∧ j - i ≤ gh ∧ Hid ((∀ y ∈ B.take (i - m), y.node < x.node) ∧ ∀ y ∈ B.drop (j - m), x.node < y.node) ∧ Keep (fun _ => False) w wq)
  case atStart => exact ⟨m, b, rfl, rfl, Nat.le_refl _, hmN, Nat.le_refl _, Nat.le_refl _, Lib.hid ⟨by rw [Nat.sub_self]; simp, by rw [List.drop_of_length_le (by have := HL.out.2.1; omega)]; simp⟩, Keep.refl _ _⟩
  case round =>
    obtain ⟨i, j, rfl, rfl, hi, hij, hjb, hg, HQ, hkeep⟩ := hrel
    have HK := Lib.hid hkeep
    clear hkeep
    by_cases hlt : i < j
    · obtain ⟨q, hq⟩ : ∃ q : Nat, (i + j) / 2 = q := ⟨_, rfl⟩
      have hq1 : i ≤ q := by omega
      have hq2 : q < j := by omega
      obtain ⟨r, hr⟩ : ∃ r, q - m = r := ⟨_, rfl⟩
      obtain ⟨y, hy⟩ : ∃ y, B[r]? = some y := ⟨_, List.getElem?_eq_getElem (by have := HL.out.2.1; omega)⟩
      have HR : Hid (q = m + r) := Lib.hid (by omega)
      have HY := Lib.hid hy
      have HOW := Lib.hid (ownsRow_keep HO.out HK.out (fun _ _ h => h))
      have hya : (insL P x B S 0)[q]? = some y := by
        rw [insL_zero, show P ++ x :: (B ++ S) = (P ++ [x]) ++ (B ++ S) by simp, List.getElem?_append_right (by simp; have := HL.out; omega)]
        have e : q - (P ++ [x]).length = r := by simp; have := HL.out; omega
        rw [e, List.getElem?_append_left (by have := (List.getElem?_eq_some_iff.1 hy).1; omega)]
        exact hy
      have hxa : (insL P x B S 0)[a]? = some x := by
        rw [insL_zero]; exact get_mid (by have := HL.out.1; omega)
      have HXC := Lib.hid (row_cells HOW.out (show a < N by omega) hxa)
      have HYC := Lib.hid (row_cells HOW.out (show q < N by omega) hya)
      have HYX := Lib.hid (HNE.out y (List.mem_of_getElem? hy))
      have hlz : (i : Int) < (j : Int) := by omega
      have ez : ((i : Int) + (j : Int)) / 2 = (q : Int) := by omega
      have ha0 : (0 : Int) ≤ (a : Int) := by omega
      have haz : (a : Int) < (N : Int) := by omega
      have hq0 : (0 : Int) ≤ (q : Int) := by omega
      have hqz : (q : Int) < (N : Int) := by omega
      have HBY : Hid (∀ W, Calls Tryz.prog 49 #[mbV y, mbV x] W fun e w' => e = .returned (.int .i64 (cmpI y.node x.node)) ∧ Keep (fun _ => False) W w') := Lib.hid (fun W => byNode_any y x W)
      have HCN := Lib.hid (cmpI_neg y.node x.node)
      clear hq hr hy hya hxa e1
      obtain ⟨x0, x1, x2⟩ := x
      obtain ⟨y0, y1, y2⟩ := y
      simp only [mbV] at HXC HYC HBY HCN
      have ca0 : ∀ p : KW wr, p.val.cell? ⟨g, a * 3, none⟩ = some (.int .i64 x0) := fun p => p.k.cell HXC.out.1 (fun h => h)
      have ca1 : ∀ p : KW wr, p.val.cell? ⟨g, a * 3 + 1, none⟩ = some (.int .i64 x1) := fun p => p.k.cell HXC.out.2.1 (fun h => h)
      have ca2 : ∀ p : KW wr, p.val.cell? ⟨g, a * 3 + 2, none⟩ = some (.int .i64 x2) := fun p => p.k.cell HXC.out.2.2 (fun h => h)
      have cb0 : ∀ p : KW wr, p.val.cell? ⟨g, q * 3, none⟩ = some (.int .i64 y0) := fun p => p.k.cell HYC.out.1 (fun h => h)
      have cb1 : ∀ p : KW wr, p.val.cell? ⟨g, q * 3 + 1, none⟩ = some (.int .i64 y1) := fun p => p.k.cell HYC.out.2.1 (fun h => h)
      have cb2 : ∀ p : KW wr, p.val.cell? ⟨g, q * 3 + 2, none⟩ = some (.int .i64 y2) := fun p => p.k.cell HYC.out.2.2 (fun h => h)
      generalize cmpI y0 x0 = cv at *
      go_upto_region 5 with (fail)
      refine wp_region_quiet_kept (by kernel_rfl) (by kernel_rfl) ?_
      repeat (quiet_step ((go_at_call 49; with_reducible refine Calls.kept_of (HBY.out _))))
      refine wpQuiet_nil ?_
      rintro _ ⟨p, rfl⟩
      have HKP := Lib.hid (HK.out.trans (p.k.mono (fun _ h => h.elim)))
      clear ca0 ca1 ca2 cb0 cb1 cb2
      generalize p.val = V at *
      by_cases hneg : cv < 0
      · have hyx := HCN.out.1 hneg
        have HQ2 : Hid ((∀ z ∈ B.take (q + 1 - m), z.node < x0) ∧ ∀ z ∈ B.drop (j - m), x0 < z.node) := Lib.hid ⟨fun z hz => by
          rw [show q + 1 - m = r + 1 by have := HR.out; omega] at hz
          exact Int.lt_of_le_of_lt (asc_take HAS.out HY.out z hz) hyx, HQ.out.2⟩
        clear hyx
        go_wp2_with fail
        go_roundg (gk - 1)
        case rel => exact ⟨q + 1, j, by go_num, rfl, by omega, by omega, hjb, by omega, HQ2, HKP.out⟩
        case measure => omega
      · have hyx : x0 < y0 := by
          have h1 : ¬ y0 < x0 := fun h => hneg (HCN.out.2 h)
          have h2 := HYX.out
          simp only [] at h2
          omega
        have HQ2 : Hid ((∀ z ∈ B.take (i - m), z.node < x0) ∧ ∀ z ∈ B.drop (q - m), x0 < z.node) := Lib.hid ⟨HQ.out.1, fun z hz => by
          rw [show q - m = r by have := HR.out; omega] at hz
          exact Int.lt_of_lt_of_le hyx (asc_drop HAS.out HY.out z hz)⟩
        clear hyx
        go_wp2_with fail
        go_roundg (gk - 1)
        case rel => exact ⟨i, q, rfl, rfl, hi, by omega, by omega, by omega, HQ2, HKP.out⟩
        case measure => omega
    · obtain rfl : i = j := by omega
      obtain ⟨s, hs⟩ : ∃ s, i - m = s := ⟨_, rfl⟩
      have HS : Hid (i = m + s ∧ s ≤ B.length) := Lib.hid ⟨by omega, by have := HL.out.2.1; omega⟩
      obtain ⟨u, hu⟩ : ∃ u, i - 1 = u := ⟨_, rfl⟩
      have hi1 : 1 ≤ i := by omega
      have ez : (i : Int) - 1 = (u : Int) := by omega
      have hlz : ¬ (i : Int) < (i : Int) := by omega
      have HU : Hid (u = a + s) := Lib.hid (by have := HS.out.1; have := HL.out.2.2.2; omega)
      have hwu : IntKind.i64.wrap (u : Int) = (u : Int) := wrapI (by unfold I64; omega)
      have huN : u < N := by omega
      have HO1 := Lib.hid (ownsRow_keep HO.out HK.out (fun _ _ h => h))
      have HK1 : Hid (Keep (fun j => j = g) w wr) := Lib.hid (HK.out.mono (fun _ h => h.elim))
      clear hs hu HO HK hi hij hjb hg e1 hlt
      go_wp2_with fail
      clear hlz
      go_loopg [13] s (fun gh v13 wq => ∃ (k t : Nat), v13 = .int .i64 k ∧ Hid (k = a + t) ∧ k ≤ u ∧ gh + t = s ∧ wq.ownsRow lo 44 3 (.slice (some ⟨g, 0, none⟩) N c) N (flatB (insL P x B S t)) ∧ Keep (fun j => j = g) w wq)
      case atStart => exact ⟨a, 0, rfl, Lib.hid rfl, by have := HU.out; omega, by omega, HO1.out, HK1.out⟩
      case round =>
        clear HO1 HK1
        obtain ⟨k, t, rfl, HKT, hku, hgt, hown, hkeep⟩ := hrel
        have HO := Lib.hid hown
        have HK := Lib.hid hkeep
        clear hown hkeep
        by_cases hlt : k < u
        · have hts : t < s := by have := HKT.out; have := HU.out; omega
          obtain ⟨y, hy⟩ : ∃ y, B[t]? = some y := ⟨_, List.getElem?_eq_getElem (by have := HS.out.2; omega)⟩
          have hat := insL_at P x B S hy
          rw [HL.out.1, ← HKT.out] at hat
          obtain ⟨j, hj⟩ : ∃ j, k + 1 = j := ⟨_, rfl⟩
          rw [hj] at hat
          have HAT := Lib.hid (And.intro hat.1 (And.intro hat.2.1 hat.2.2.1))
          have e2 : (k : Int) + 1 = (j : Int) := by omega
          have hk1 : k < N := by omega
          have hj1 : j < N := by omega
          have hkj : k ≠ j := by omega
          have HJ : Hid (j = a + (t + 1)) := Lib.hid (by have := HKT.out; omega)
          have hju : j ≤ u := by omega
          have hkz : (k : Int) < (u : Int) := by omega
          have hk0 : (0 : Int) ≤ (k : Int) := by omega
          have hj0 : (0 : Int) ≤ (j : Int) := by omega
          have hkN : (k : Int) < (N : Int) := by omega
          have hjN : (j : Int) < (N : Int) := by omega
          have hwj : IntKind.i64.wrap (j : Int) = (j : Int) := wrapI (by unfold I64; omega)
          have HLN := Lib.hid (HL.out.2.2.1 t)
          clear hy hat hj
          obtain ⟨x0, x1, x2⟩ := x
          obtain ⟨y0, y1, y2⟩ := y
          have HOU : Hid (wr.drew.ownsRow lo 44 3 (.slice (some ⟨g, 0, none⟩) N c) N (flatB (insL P ⟨x0, x1, x2⟩ B S t))) := Lib.hid (ownsRow_keep HO.out (Keep.refl (fun _ => False) wr).drew (fun _ _ h => h))
          have HKU : Hid (Keep (fun j => j = g) w wr.drew) := Lib.hid (HK.out.trans (Keep.refl (fun j => j = g) wr).drew)
          go_upto_region 11 with (fail)
          refine wp_region_walkT (.read 0 (.read 1 (.read 2 (.read 3 (.read 4 (.read 5 (.read 6 (.read 7 (.read 8 (.read 10 (.read 11 (.read 12 (.two 9 (.one 13 (.one 14 (.one 15 (.one 16 (.one 17 .done))))) 13 (.one 9 (.one 14 (.one 15 (.one 16 (.one 17 .done)))))))))))))))))) (inKA (fun j => j = g) wr.drew) (by kernel_rfl) (by kernel_rfl) ?_
          iterate 12 (refine walkT_read rfl (fun K hK => ?_); go_simp; refine hK _ ?_; clear hK K)
          clear HO HK
          generalize wr.drew = U at *
          obtain ⟨d0, d1, d2⟩ := row_cells HOU.out hk1 HAT.out.1
          obtain ⟨f0, f1, f2⟩ := row_cells HOU.out hj1 HAT.out.2.1
          have hs1 := row_swap1 HOU.out HLN.out hk1 hj1 hkj HAT.out.2.1 y0 y1 y2
          obtain ⟨⟨g0, g1, g2⟩, cf2, kq1⟩ := hs1
          have HS2 := Lib.hid (row_swap HOU.out HLN.out hk1 hj1 y0 y1 y2 x0 x1 x2)
          rw [HAT.out.2.2] at HS2
          have cf1 : ∀ o, U.frozen? ⟨g, o, none⟩ = false := fun o => HOU.out.frozenAt o
          have HKQ := Lib.hid kq1
          clear kq1
          simp only [] at d0 d1 d2 f0 f1 f2 g0 g1 g2
          refine walkT_two rfl rfl (inKA.of (Keep.refl _ U)) (fun K hK => ?_) (fun K hK => ?_)
          all_goals
            go_simp
            refine hK _ _ ?_; clear hK K
            refine walkT_do rfl (inKA.of (Keep.refl _ U)) (fun K hK => ?_)
            go_simp
            refine hK _ _ ?_; clear hK K
            refine walkT_do rfl (inKA.of (Keep.refl _ U)) (fun K hK => ?_)
            go_simp
            refine hK _ _ ?_; clear hK K
            refine walkT_do rfl (inKA.of (Keep.refl _ U)) (fun K hK => ?_)
            go_simp
            refine hK _ _ ?_; clear hK K
            refine walkT_do rfl (inKA.of HKQ.out) (fun K hK => ?_)
            go_simp
            refine hK _ _ ?_; clear hK K
            refine walkT_do rfl (inKA.of HKQ.out) (fun K hK => ?_)
            go_simp
            refine hK _ _ ?_; clear hK K
            refine ⟨inKA.of HS2.out.2, ?_⟩
            go_wp2_with fail
            clear d0 d1 d2 f0 f1 f2 g0 g1 g2 cf1 cf2
            generalize (((((U.setCell ⟨g, k * 3, none⟩ (.int .i64 y0)).setCell ⟨g, k * 3 + 1, none⟩ (.int .i64 y1)).setCell ⟨g, k * 3 + 2, none⟩ (.int .i64 y2)).setCell ⟨g, j * 3, none⟩ (.int .i64 x0)).setCell ⟨g, j * 3 + 1, none⟩ (.int .i64 x1)).setCell ⟨g, j * 3 + 2, none⟩ (.int .i64 x2) = WF at *
            go_roundg (gk - 1)
          · exact ⟨j, t + 1, rfl, HJ, hju, by omega, HS2.out.1, HKU.out.trans HS2.out.2⟩
          · omega
          · exact ⟨j, t + 1, rfl, HJ, hju, by omega, HS2.out.1, HKU.out.trans HS2.out.2⟩
          · omega
        · have hts : t = s := by have := HKT.out; have := HU.out; omega
          have HTS := Lib.hid hts
          have hkz : ¬ (k : Int) < (u : Int) := by omega
          clear hts
          go_wp2_with fail
          (try simp only [Exit.inBlock, Exit.then]); refine bodyPost_ret (results_none rfl _ _ _) rfl ?_
          refine ⟨B.take s ++ x :: B.drop s, insA_perm s, ins_asc HAS.out (fun y hy => HQ.out.1 y (by rwa [show i - m = s by have := HS.out; omega])) (fun y hy => HQ.out.2 y (by rwa [show i - m = s by have := HS.out; omega])), rfl, ?_, HK.out⟩
          have := HO.out
          rw [HTS.out] at this
          unfold insL at this
          rw [show P ++ (B.take s ++ x :: B.drop s ++ S) = P ++ (B.take s ++ x :: (B.drop s ++ S)) by simp]
          exact this
end Go.Proofs.YtiacdkggbnoigaaGreatDoor

/-
  symMerge of the stable sort, where the second part has one member.
-/
namespace Go.Proofs.YtiacdkggbnoigaaGreatDoor
open Go.RowKit Go.Shelf

set_option maxRecDepth 100000 in
set_option maxHeartbeats 4000000 in
theorem merge2_any (lo g c N : Nat) (P B S : List Mb) (x : Mb) (a m b : Nat) (w : World) (hB : AscF Mb.node B) (hne : ∀ y ∈ B, x.node ≠ y.node) (h1 : B.length ≠ 1) (ha : P.length = a) (hm : a + B.length = m) (hb : m + 1 = b) (hN : b + S.length = N) (hN2 : N ≤ 1000)
    (h : w.ownsRow lo 44 3 (.slice (some ⟨g, 0, none⟩) N c) N (flatB (P ++ (B ++ (x :: S))))) :
    Calls Tryz.prog 95 #[.slice (some ⟨g, 0, none⟩) N c, .int .i64 a, .int .i64 m, .int .i64 b, byNodeV] w (MergePost lo g c N P B [x] S w) := by
  obtain ⟨lb, hlb⟩ : ∃ n, B.length = n := ⟨_, rfl⟩
  rw [hlb] at h1 hm
  rw [← insL_all P x B S hlb] at h
  have HO := Lib.hid h
  have HAS := Lib.hid hB
  have HNE := Lib.hid hne
  have HL : Hid (P.length = a ∧ a + lb = m ∧ (∀ t, (insL P x B S t).length = N) ∧ B.length = lb) := Lib.hid ⟨ha, hm, fun t => by rw [insL_len]; omega, hlb⟩
  have e1 : (m : Int) - (a : Int) = (lb : Int) := by omega
  have e2 : (b : Int) - (m : Int) = 1 := by omega
  have hlb1 : ((lb : Int) == 1) = false := by simp; omega
  have hwl : IntKind.i64.wrap (lb : Int) = (lb : Int) := wrapI (by unfold I64; omega)
  have hmN : m < N := by omega
  have ham : a ≤ m := by omega
  clear h hB hne ha hm hb hN h1 hlb
  go_enter Tryz.func95, Tryz.ntmps95
  go_wp2_with fail
  clear e1 e2 hlb1 hwl
  go_loopg [14, 15, 16] (m - a) (fun gh v14 v15 v16 wq => ∃ (i j : Nat), v14 = .int .i64 i ∧ v15 = .int .i64 j ∧ a ≤ i ∧ i ≤ j ∧ j ≤ m ∧ j - i ≤ gh ∧ Hid ((∀ y ∈ B.take (i - a), y.node < x.node) ∧ ∀ y ∈ B.drop (j - a), x.node < y.node) ∧ Keep (fun _ => False) w wq)
  case atStart => exact ⟨a, m, rfl, rfl, Nat.le_refl _, ham, Nat.le_refl _, Nat.le_refl _, Lib.hid ⟨by rw [Nat.sub_self]; simp, by rw [List.drop_of_length_le (by have := HL.out; omega)]; simp⟩, Keep.refl _ _⟩
  case round =>
    obtain ⟨i, j, rfl, rfl, hi, hij, hjm, hg, HQ, hkeep⟩ := hrel
    have HK := Lib.hid hkeep
    clear hkeep
    by_cases hlt : i < j
    · obtain ⟨q, hq⟩ : ∃ q : Nat, (i + j) / 2 = q := ⟨_, rfl⟩
      have hq1 : i ≤ q := by omega
      have hq2 : q < j := by omega
      obtain ⟨r, hr⟩ : ∃ r, q - a = r := ⟨_, rfl⟩
      obtain ⟨y, hy⟩ : ∃ y, B[r]? = some y := ⟨_, List.getElem?_eq_getElem (by have := HL.out; omega)⟩
      have HR : Hid (q = a + r) := Lib.hid (by omega)
      have HY := Lib.hid hy
      have HOW := Lib.hid (ownsRow_keep HO.out HK.out (fun _ _ h => h))
      have hya : (insL P x B S lb)[q]? = some y := by
        rw [insL_all P x B S HL.out.2.2.2, List.getElem?_append_right (by have := HL.out; omega)]
        have e : q - P.length = r := by have := HL.out; omega
        rw [e, List.getElem?_append_left (by have := (List.getElem?_eq_some_iff.1 hy).1; omega)]
        exact hy
      have hxa : (insL P x B S lb)[m]? = some x := by
        rw [insL_all P x B S HL.out.2.2.2, ← List.append_assoc]
        exact get_mid (by rw [List.length_append]; have := HL.out; omega)
      have HXC := Lib.hid (row_cells HOW.out (show m < N by omega) hxa)
      have HYC := Lib.hid (row_cells HOW.out (show q < N by omega) hya)
      have HYX := Lib.hid (HNE.out y (List.mem_of_getElem? hy))
      have hlz : (i : Int) < (j : Int) := by omega
      have ez : ((i : Int) + (j : Int)) / 2 = (q : Int) := by omega
      have hm0 : (0 : Int) ≤ (m : Int) := by omega
      have hmz : (m : Int) < (N : Int) := by omega
      have hq0 : (0 : Int) ≤ (q : Int) := by omega
      have hqz : (q : Int) < (N : Int) := by omega
      have HBY : Hid (∀ W, Calls Tryz.prog 49 #[mbV x, mbV y] W fun e w' => e = .returned (.int .i64 (cmpI x.node y.node)) ∧ Keep (fun _ => False) W w') := Lib.hid (fun W => byNode_any x y W)
      have HCN := Lib.hid (cmpI_neg x.node y.node)
      clear hq hr hy hya hxa
      obtain ⟨x0, x1, x2⟩ := x
      obtain ⟨y0, y1, y2⟩ := y
      simp only [mbV] at HXC HYC HBY HCN
      have ca0 : ∀ p : KW wr, p.val.cell? ⟨g, m * 3, none⟩ = some (.int .i64 x0) := fun p => p.k.cell HXC.out.1 (fun h => h)
      have ca1 : ∀ p : KW wr, p.val.cell? ⟨g, m * 3 + 1, none⟩ = some (.int .i64 x1) := fun p => p.k.cell HXC.out.2.1 (fun h => h)
      have ca2 : ∀ p : KW wr, p.val.cell? ⟨g, m * 3 + 2, none⟩ = some (.int .i64 x2) := fun p => p.k.cell HXC.out.2.2 (fun h => h)
      have cb0 : ∀ p : KW wr, p.val.cell? ⟨g, q * 3, none⟩ = some (.int .i64 y0) := fun p => p.k.cell HYC.out.1 (fun h => h)
      have cb1 : ∀ p : KW wr, p.val.cell? ⟨g, q * 3 + 1, none⟩ = some (.int .i64 y1) := fun p => p.k.cell HYC.out.2.1 (fun h => h)
      have cb2 : ∀ p : KW wr, p.val.cell? ⟨g, q * 3 + 2, none⟩ = some (.int .i64 y2) := fun p => p.k.cell HYC.out.2.2 (fun h => h)
      generalize cmpI x0 y0 = cv at *
      obtain ⟨bn, hbn⟩ : ∃ b : Bool, decide (cv < 0) = b := ⟨_, rfl⟩
      have HBN := Lib.hid hbn
      go_upto_region 17 with (fail)
      refine wp_region_quiet_kept (by kernel_rfl) (by kernel_rfl) ?_
      repeat (quiet_step ((go_at_call 49; with_reducible refine Calls.kept_of (HBY.out _))))
      refine wpQuiet_nil ?_
      rintro _ ⟨p, rfl⟩
      have HKP := Lib.hid (HK.out.trans (p.k.mono (fun _ h => h.elim)))
      clear ca0 ca1 ca2 cb0 cb1 cb2 hbn
      generalize p.val = V at *
      cases bn with
      | true =>
        have hneg : cv < 0 := of_decide_eq_true HBN.out
        have hxy := HCN.out.1 hneg
        have HQ2 : Hid ((∀ z ∈ B.take (i - a), z.node < x0) ∧ ∀ z ∈ B.drop (q - a), x0 < z.node) := Lib.hid ⟨HQ.out.1, fun z hz => by
          rw [show q - a = r by have := HR.out; omega] at hz
          exact Int.lt_of_lt_of_le hxy (asc_drop HAS.out HY.out z hz)⟩
        clear hxy hneg
        go_wp2_with fail
        go_roundg (gk - 1)
        case rel => exact ⟨i, q, rfl, rfl, hi, by omega, by omega, by omega, HQ2, HKP.out⟩
        case measure => omega
      | false =>
        have hneg : ¬ cv < 0 := of_decide_eq_false HBN.out
        have hyx : y0 < x0 := by
          have h1 : ¬ x0 < y0 := fun h => hneg (HCN.out.2 h)
          have h2 := HYX.out
          simp only [] at h2
          omega
        have HQ2 : Hid ((∀ z ∈ B.take (q + 1 - a), z.node < x0) ∧ ∀ z ∈ B.drop (j - a), x0 < z.node) := Lib.hid ⟨fun z hz => by
          rw [show q + 1 - a = r + 1 by have := HR.out; omega] at hz
          exact Int.lt_of_le_of_lt (asc_take HAS.out HY.out z hz) hyx, HQ.out.2⟩
        clear hyx hneg
        go_wp2_with fail
        go_roundg (gk - 1)
        case rel => exact ⟨q + 1, j, by go_num, rfl, by omega, by omega, hjm, by omega, HQ2, HKP.out⟩
        case measure => omega
    · obtain rfl : i = j := by omega
      obtain ⟨s, hs⟩ : ∃ s, i - a = s := ⟨_, rfl⟩
      have HS : Hid (i = a + s ∧ s ≤ lb) := Lib.hid ⟨by omega, by have := HL.out.2.1; omega⟩
      have hlz : ¬ (i : Int) < (i : Int) := by omega
      have HO1 := Lib.hid (ownsRow_keep HO.out HK.out (fun _ _ h => h))
      have HK1 : Hid (Keep (fun j => j = g) w wr) := Lib.hid (HK.out.mono (fun _ h => h.elim))
      clear hs HO HK hij hlt hg
      go_wp2_with fail
      clear hlz
      go_loopg [17] (lb - s) (fun gh v17 wq => ∃ (k t : Nat), v17 = .int .i64 k ∧ Hid (k = a + t) ∧ i ≤ k ∧ k ≤ m ∧ t ≤ gh + s ∧ wq.ownsRow lo 44 3 (.slice (some ⟨g, 0, none⟩) N c) N (flatB (insL P x B S t)) ∧ Keep (fun j => j = g) w wq)
      case atStart => exact ⟨m, lb, rfl, Lib.hid (by have := HL.out; omega), hjm, Nat.le_refl _, by omega, HO1.out, HK1.out⟩
      case round =>
        clear HO1 HK1
        obtain ⟨k, t', rfl, HKT, hik, hkm, hgt, hown, hkeep⟩ := hrel
        have HO := Lib.hid hown
        have HK := Lib.hid hkeep
        clear hown hkeep
        by_cases hlt : i < k
        · obtain ⟨t, rfl⟩ : ∃ t, t' = t + 1 := ⟨t' - 1, by have := HKT.out; omega⟩
          obtain ⟨y, hy⟩ : ∃ y, B[t]? = some y := ⟨_, List.getElem?_eq_getElem (by have := HKT.out; have := HL.out; omega)⟩
          have hat := insL_at P x B S hy
          obtain ⟨j, hj⟩ : ∃ j, k - 1 = j := ⟨_, rfl⟩
          have HJ : Hid (j = a + t) := Lib.hid (by have := HKT.out; omega)
          rw [HL.out.1, ← HJ.out, show j + 1 = k by omega] at hat
          have HAT := Lib.hid hat.2.2.2
          have e2 : (k : Int) - 1 = (j : Int) := by omega
          have hk1 : k < N := by omega
          have hj1 : j < N := by omega
          have hkj : k ≠ j := by omega
          have hij' : i ≤ j := by omega
          have hkz : (i : Int) < (k : Int) := by omega
          have hk0 : (0 : Int) ≤ (k : Int) := by omega
          have hj0 : (0 : Int) ≤ (j : Int) := by omega
          have hkN : (k : Int) < (N : Int) := by omega
          have hjN : (j : Int) < (N : Int) := by omega
          have hwj : IntKind.i64.wrap (j : Int) = (j : Int) := wrapI (by unfold I64; omega)
          have HLN := Lib.hid (HL.out.2.2.1 (t + 1))
          have hg1 : t ≤ gk - 1 + s := by omega
          have hg2 : gk - 1 < gk := by have := HKT.out; have := HS.out; omega
          have hjm' : j ≤ m := by omega
          clear hy hat hj
          obtain ⟨x0, x1, x2⟩ := x
          obtain ⟨y0, y1, y2⟩ := y
          have HOU : Hid (wr.drew.ownsRow lo 44 3 (.slice (some ⟨g, 0, none⟩) N c) N (flatB (insL P ⟨x0, x1, x2⟩ B S (t + 1)))) := Lib.hid (ownsRow_keep HO.out (Keep.refl (fun _ => False) wr).drew (fun _ _ h => h))
          have HKU : Hid (Keep (fun j => j = g) w wr.drew) := Lib.hid (HK.out.trans (Keep.refl (fun j => j = g) wr).drew)
          go_upto_region 23 with (fail)
          refine wp_region_walkT (.read 0 (.read 1 (.read 2 (.read 3 (.read 4 (.read 5 (.read 6 (.read 7 (.read 8 (.read 10 (.read 11 (.read 12 (.two 9 (.one 13 (.one 14 (.one 15 (.one 16 (.one 17 .done))))) 13 (.one 9 (.one 14 (.one 15 (.one 16 (.one 17 .done)))))))))))))))))) (inKA (fun j => j = g) wr.drew) (by kernel_rfl) (by kernel_rfl) ?_
          iterate 12 (refine walkT_read rfl (fun K hK => ?_); go_simp; refine hK _ ?_; clear hK K)
          clear HO HK
          generalize wr.drew = U at *
          obtain ⟨d0, d1, d2⟩ := row_cells HOU.out hk1 HAT.out.1
          obtain ⟨f0, f1, f2⟩ := row_cells HOU.out hj1 HAT.out.2.1
          have hs1 := row_swap1 HOU.out HLN.out hk1 hj1 hkj HAT.out.2.1 y0 y1 y2
          obtain ⟨⟨g0, g1, g2⟩, cf2, kq1⟩ := hs1
          have HS2 := Lib.hid (row_swap HOU.out HLN.out hk1 hj1 y0 y1 y2 x0 x1 x2)
          rw [HAT.out.2.2] at HS2
          have cf1 : ∀ o, U.frozen? ⟨g, o, none⟩ = false := fun o => HOU.out.frozenAt o
          have HKQ := Lib.hid kq1
          clear kq1
          simp only [] at d0 d1 d2 f0 f1 f2 g0 g1 g2
          refine walkT_two rfl rfl (inKA.of (Keep.refl _ U)) (fun K hK => ?_) (fun K hK => ?_)
          all_goals
            go_simp
            refine hK _ _ ?_; clear hK K
            refine walkT_do rfl (inKA.of (Keep.refl _ U)) (fun K hK => ?_)
            go_simp
            refine hK _ _ ?_; clear hK K
            refine walkT_do rfl (inKA.of (Keep.refl _ U)) (fun K hK => ?_)
            go_simp
            refine hK _ _ ?_; clear hK K
            refine walkT_do rfl (inKA.of (Keep.refl _ U)) (fun K hK => ?_)
            go_simp
            refine hK _ _ ?_; clear hK K
            refine walkT_do rfl (inKA.of HKQ.out) (fun K hK => ?_)
            go_simp
            refine hK _ _ ?_; clear hK K
            refine walkT_do rfl (inKA.of HKQ.out) (fun K hK => ?_)
            go_simp
            refine hK _ _ ?_; clear hK K
            refine ⟨inKA.of HS2.out.2, ?_⟩
            go_wp2_with fail
            clear d0 d1 d2 f0 f1 f2 g0 g1 g2 cf1 cf2
            generalize (((((U.setCell ⟨g, k * 3, none⟩ (.int .i64 y0)).setCell ⟨g, k * 3 + 1, none⟩ (.int .i64 y1)).setCell ⟨g, k * 3 + 2, none⟩ (.int .i64 y2)).setCell ⟨g, j * 3, none⟩ (.int .i64 x0)).setCell ⟨g, j * 3 + 1, none⟩ (.int .i64 x1)).setCell ⟨g, j * 3 + 2, none⟩ (.int .i64 x2) = WF at *
            go_roundg (gk - 1)
          · exact ⟨j, t, rfl, HJ, hij', hjm', hg1, HS2.out.1, HKU.out.trans HS2.out.2⟩
          · exact hg2
          · exact ⟨j, t, rfl, HJ, hij', hjm', hg1, HS2.out.1, HKU.out.trans HS2.out.2⟩
          · exact hg2
        · have hts : t' = s := by have := HKT.out; have := HS.out; omega
          have HTS := Lib.hid hts
          have hkz : ¬ (i : Int) < (k : Int) := by omega
          clear hts
          go_wp2_with fail
          (try simp only [Exit.inBlock, Exit.then]); refine bodyPost_ret (results_none rfl _ _ _) rfl ?_
          refine ⟨B.take s ++ x :: B.drop s, (insA_perm s).trans (List.perm_append_comm (l₁ := [x])), ins_asc HAS.out (fun y hy => HQ.out.1 y (by rwa [show i - a = s by have := HS.out; omega])) (fun y hy => HQ.out.2 y (by rwa [show i - a = s by have := HS.out; omega])), rfl, ?_, HK.out⟩
          have := HO.out
          rw [HTS.out] at this
          unfold insL at this
          rw [show P ++ (B.take s ++ x :: B.drop s ++ S) = P ++ (B.take s ++ x :: (B.drop s ++ S)) by simp]
          exact this
end Go.Proofs.YtiacdkggbnoigaaGreatDoor

/-
  symMerge of the stable sort: the whole of it.
-/
namespace Go.Proofs.YtiacdkggbnoigaaGreatDoor
open Go.RowKit Go.Shelf

/-- What the search finds: where both parts are cut. -/
theorem sym_split {A B : List Mb} {la lb s e : Nat} (hA : A.length = la) (hB : B.length = lb) (hs : s ≤ la) (he : e ≤ lb)
    (h1 : s = 0 ∨ e = lb ∨ ∃ x y, A[s - 1]? = some x ∧ B[e]? = some y ∧ x.node < y.node) (h2 : e = 0 ∨ s = la ∨ ∃ x y, B[e - 1]? = some x ∧ A[s]? = some y ∧ x.node < y.node) :
    Below2 Mb.node (A.take s) (B.drop e) ∧ Below2 Mb.node (B.take e) (A.drop s) := by
  have lastT : ∀ {l : List Mb} {k : Nat} {x : Mb}, k ≠ 0 → l[k - 1]? = some x → (l.take k).getLast? = some x := fun {l k x} hk hx => by
    obtain ⟨q, rfl⟩ : ∃ q, k = q + 1 := ⟨k - 1, by omega⟩
    rw [show q + 1 - 1 = q by omega] at hx
    rw [List.take_add_one, hx]
    simp
  have headD : ∀ {l : List Mb} {k : Nat} {x : Mb}, l[k]? = some x → (l.drop k).head? = some x := fun {l k x} hx => by
    rw [List.head?_drop]; exact hx
  constructor
  · rcases h1 with rfl | rfl | ⟨x, y, hx, hy, hxy⟩
    · exact .inl (by simp)
    · exact .inr (.inl (List.drop_of_length_le (by omega)))
    · by_cases h0 : s = 0
      · exact .inl (by rw [h0]; simp)
      · exact .inr (.inr ⟨x, y, lastT h0 hx, headD hy, hxy⟩)
  · rcases h2 with rfl | rfl | ⟨x, y, hx, hy, hxy⟩
    · exact .inl (by simp)
    · exact .inr (.inl (List.drop_of_length_le (by omega)))
    · by_cases h0 : e = 0
      · exact .inl (by rw [h0]; simp)
      · exact .inr (.inr ⟨x, y, lastT h0 hx, headD hy, hxy⟩)
/-- A member at a place of the first part, of the second part. -/
theorem get_parts {P A B S : List Mb} {a m : Nat} (ha : P.length = a) (hm : a + A.length = m) (i : Nat) : (a ≤ i → i < m → (P ++ (A ++ (B ++ S)))[i]? = A[i - a]?) ∧ (m ≤ i → i < m + B.length → (P ++ (A ++ (B ++ S)))[i]? = B[i - m]?) := by
  constructor
  · intro h1 h2
    rw [List.getElem?_append_right (by omega), List.getElem?_append_left (by omega), ha]
  · intro h1 h2
    rw [List.getElem?_append_right (by omega), List.getElem?_append_right (by omega), List.getElem?_append_left (by omega), ha]
    congr 1
    omega

set_option maxRecDepth 100000 in
set_option maxHeartbeats 8000000 in
theorem symMerge_any (lo g c N : Nat) (hN2 : N ≤ 1000) : ∀ (z : Nat) (P A B S : List Mb) (a m b : Nat) (w : World), A.length + B.length ≤ z → AscF Mb.node A → AscF Mb.node B → (∀ x ∈ A, ∀ y ∈ B, x.node ≠ y.node) → 0 < A.length → 0 < B.length →
    P.length = a → a + A.length = m → m + B.length = b → b + S.length = N → w.ownsRow lo 44 3 (.slice (some ⟨g, 0, none⟩) N c) N (flatB (P ++ (A ++ (B ++ S)))) →
    Calls Tryz.prog 95 #[.slice (some ⟨g, 0, none⟩) N c, .int .i64 a, .int .i64 m, .int .i64 b, byNodeV] w (MergePost lo g c N P A B S w) := by
  intro z
  induction z with
  | zero => intro P A B S a m b w hz hA hB hne ha0; omega
  | succ z ih =>
  intro P A B S a m b w hz hA hB hne ha0 hb0 ha hm hb hN h
  by_cases h1 : A.length = 1
  · obtain ⟨x, rfl⟩ : ∃ x, A = [x] := List.length_eq_one_iff.1 h1
    exact merge1_any lo g c N P B S x a m b w hB (fun y hy => hne x List.mem_cons_self y hy) ha (by simpa using hm) hb hN hN2 (by simpa using h)
  by_cases h2 : B.length = 1
  · obtain ⟨y, rfl⟩ : ∃ y, B = [y] := List.length_eq_one_iff.1 h2
    exact merge2_any lo g c N P A S y a m b w hA (fun x hx => fun e => hne x hx y List.mem_cons_self e.symm) h1 ha hm (by simpa using hb) hN hN2 (by simpa using h)
  obtain ⟨la, hla⟩ : ∃ n, A.length = n := ⟨_, rfl⟩
  obtain ⟨lb, hlb⟩ : ∃ n, B.length = n := ⟨_, rfl⟩
  rw [hla] at hz ha0 hm h1
  rw [hlb] at hz hb0 hb h2
  have HO := Lib.hid h
  have HIH := Lib.hid ih
  have HA := Lib.hid (And.intro hA (And.intro hB hne))
  have HL : Hid (P.length = a ∧ A.length = la ∧ B.length = lb ∧ a + la = m ∧ m + lb = b ∧ b + S.length = N ∧ la + lb ≤ z + 1) := Lib.hid ⟨ha, hla, hlb, hm, hb, hN, hz⟩
  have e1 : (m : Int) - (a : Int) = (la : Int) := by omega
  have e2 : (b : Int) - (m : Int) = (lb : Int) := by omega
  have hla1 : ((la : Int) == 1) = false := by simp; omega
  have hlb1 : ((lb : Int) == 1) = false := by simp; omega
  have hwa : IntKind.i64.wrap (la : Int) = (la : Int) := wrapI (by unfold I64; omega)
  have hwb : IntKind.i64.wrap (lb : Int) = (lb : Int) := wrapI (by unfold I64; omega)
  obtain ⟨mid, hmid⟩ : ∃ q, (a + b) / 2 = q := ⟨_, rfl⟩
  obtain ⟨n, hn⟩ : ∃ n, mid + m = n := ⟨_, rfl⟩
  have ez : ((a : Int) + (b : Int)) / 2 = (mid : Int) := by omega
  have en : (mid : Int) + (m : Int) = (n : Int) := by omega
  have hwn : IntKind.i64.wrap (n : Int) = (n : Int) := wrapI (by unfold I64; omega)
  obtain ⟨l0, r0, hlr⟩ : ∃ l0 r0 : Nat, (mid < m → n - b = l0 ∧ r0 = mid) ∧ (¬ mid < m → l0 = a ∧ r0 = m) := by
    by_cases hh : mid < m
    · exact ⟨n - b, mid, fun _ => ⟨rfl, rfl⟩, fun h => absurd hh h⟩
    · exact ⟨a, m, fun h => absurd h hh, fun _ => ⟨rfl, rfl⟩⟩
  have HLR := Lib.hid hlr
  have HM : Hid ((a + b) / 2 = mid ∧ mid + m = n ∧ 2 ≤ la ∧ 2 ≤ lb) := Lib.hid ⟨hmid, hn, by omega, by omega⟩
  have hbd : n ≤ 2000 ∧ a ≤ 1000 ∧ b ≤ N ∧ m < b ∧ a < m ∧ mid < b ∧ a < mid ∧ 1 ≤ n := by omega
  have HBD := Lib.hid hbd
  obtain ⟨hn2, haN, hbN, hmb, ham, hmdb, hamd, hn1⟩ := hbd
  obtain ⟨p, hp⟩ : ∃ p, n - 1 = p := ⟨_, rfl⟩
  have ep : (n : Int) - 1 = (p : Int) := by omega
  have hwp : IntKind.i64.wrap (p : Int) = (p : Int) := wrapI (by unfold I64; omega)
  have HP : Hid (p + 1 = n) := Lib.hid (by omega)
  clear h hz hA hB hne ha0 hb0 ha hm hb hN hla hlb h1 h2 hmid hn hlr ih hp
  go_enter Tryz.func95, Tryz.ntmps95
  go_upto_if 140 with (fail)
  clear e1 e2 hla1 hlb1 hwa hwb ez en hwn
  go_cut [20, 21] (fun v20 v21 wc => v20 = .int .i64 l0 ∧ v21 = .int .i64 r0 ∧ w = wc)
  case first =>
    as_aux_lemma =>
    by_cases hh : mid < m
    · obtain ⟨q1, q2⟩ := HLR.out.1 hh
      subst q2
      have el : (n : Int) - (b : Int) = (l0 : Int) := by have := HM.out; have := HL.out; omega
      have hwl : IntKind.i64.wrap (l0 : Int) = (l0 : Int) := wrapI (by unfold I64; omega)
      have hhz : (r0 : Int) < (m : Int) := by omega
      clear q1
      go_wp2_with fail
      go_meet
      exact ⟨rfl, rfl, rfl⟩
    · obtain ⟨q1, q2⟩ := HLR.out.2 hh
      subst q1 q2
      have hhz : ¬ (mid : Int) < (r0 : Int) := by omega
      go_wp2_with fail
      go_meet
      exact ⟨rfl, rfl, rfl⟩
  case rest =>
  as_aux_lemma =>
  obtain ⟨rfl, rfl, rfl⟩ := hcut
  have HR : Hid (a ≤ l0 ∧ l0 ≤ r0 ∧ r0 ≤ m ∧ r0 ≤ mid) := Lib.hid (by
    have := HM.out
    have := HL.out
    by_cases hh : mid < m
    · obtain ⟨q1, q2⟩ := HLR.out.1 hh
      omega
    · obtain ⟨q1, q2⟩ := HLR.out.2 hh
      omega)
  have hr0 : l0 ≤ r0 := HR.out.2.1
  go_wp2_with fail
  clear ep hwp
  go_loopg [20, 21, 23] (r0 - l0) (fun gh v20 v21 v23 wq => ∃ (i j : Nat), v20 = .int .i64 i ∧ v21 = .int .i64 j ∧ l0 ≤ i ∧ i ≤ j ∧ j ≤ r0 ∧ j - i ≤ gh ∧ Hid ((i = l0 ∨ ∃ x y, A[i - 1 - a]? = some x ∧ B[n - i - m]? = some y ∧ x.node < y.node) ∧ (j = r0 ∨ ∃ x y, B[n - j - 1 - m]? = some x ∧ A[j - a]? = some y ∧ x.node < y.node)) ∧ Keep (fun _ => False) w wq)
  case atStart => exact ⟨l0, r0, rfl, rfl, Nat.le_refl _, hr0, Nat.le_refl _, Nat.le_refl _, Lib.hid ⟨.inl rfl, .inl rfl⟩, Keep.refl _ _⟩
  case round =>
    obtain ⟨i, j, rfl, rfl, hi, hij, hjr, hg, HQ, hkeep⟩ := hrel
    have HK := Lib.hid hkeep
    clear hkeep
    by_cases hlt : i < j
    · obtain ⟨q, hq⟩ : ∃ q : Nat, (i + j) / 2 = q := ⟨_, rfl⟩
      have hq1 : i ≤ q := by omega
      have hq2 : q < j := by omega
      obtain ⟨u, hu⟩ : ∃ u, p - q = u := ⟨_, rfl⟩
      have hbds : a ≤ q ∧ q < m ∧ m ≤ u ∧ u < b ∧ q + u + 1 = n := by
        have := HM.out
        have := HL.out
        have := HR.out
        have := HP.out
        by_cases hh : mid < m
        · obtain ⟨t1, t2⟩ := HLR.out.1 hh
          omega
        · obtain ⟨t1, t2⟩ := HLR.out.2 hh
          omega
      obtain ⟨haq, hqm, hmu, hub, hqu⟩ := hbds
      obtain ⟨y, hy⟩ : ∃ y, A[q - a]? = some y := ⟨_, List.getElem?_eq_getElem (by have := HL.out; omega)⟩
      obtain ⟨x, hx⟩ : ∃ x, B[u - m]? = some x := ⟨_, List.getElem?_eq_getElem (by have := HL.out; omega)⟩
      have HXY := Lib.hid (And.intro hx hy)
      have HOW := Lib.hid (ownsRow_keep HO.out HK.out (fun _ _ h => h))
      have hya := ((get_parts (P := P) (A := A) (B := B) (S := S) HL.out.1 (by have := HL.out; omega) q).1 haq hqm).trans hy
      have hxa := ((get_parts (P := P) (A := A) (B := B) (S := S) HL.out.1 (show a + A.length = m by have := HL.out; omega) u).2 hmu (by have := HL.out; omega)).trans hx
      have HXC := Lib.hid (row_cells HOW.out (show u < N by omega) hxa)
      have HYC := Lib.hid (row_cells HOW.out (show q < N by omega) hya)
      have HYX := Lib.hid (HA.out.2.2 y (List.mem_of_getElem? hy) x (List.mem_of_getElem? hx))
      have hlz : (i : Int) < (j : Int) := by omega
      have ez : ((i : Int) + (j : Int)) / 2 = (q : Int) := by omega
      have eu : (p : Int) - (q : Int) = (u : Int) := by omega
      have hwu : IntKind.i64.wrap (u : Int) = (u : Int) := wrapI (by unfold I64; omega)
      have hu0 : (0 : Int) ≤ (u : Int) := by omega
      have huz : (u : Int) < (N : Int) := by omega
      have hq0 : (0 : Int) ≤ (q : Int) := by omega
      have hqz : (q : Int) < (N : Int) := by omega
      have HBY : Hid (∀ W, Calls Tryz.prog 49 #[mbV x, mbV y] W fun e w' => e = .returned (.int .i64 (cmpI x.node y.node)) ∧ Keep (fun _ => False) W w') := Lib.hid (fun W => byNode_any x y W)
      have HCN := Lib.hid (cmpI_neg x.node y.node)
      have HQU : Hid (q + u + 1 = n) := Lib.hid hqu
      clear hq hu hy hx hya hxa hqu
      obtain ⟨x0, x1, x2⟩ := x
      obtain ⟨y0, y1, y2⟩ := y
      simp only [mbV] at HXC HYC HBY HCN
      have ca0 : ∀ p : KW wr, p.val.cell? ⟨g, u * 3, none⟩ = some (.int .i64 x0) := fun p => p.k.cell HXC.out.1 (fun h => h)
      have ca1 : ∀ p : KW wr, p.val.cell? ⟨g, u * 3 + 1, none⟩ = some (.int .i64 x1) := fun p => p.k.cell HXC.out.2.1 (fun h => h)
      have ca2 : ∀ p : KW wr, p.val.cell? ⟨g, u * 3 + 2, none⟩ = some (.int .i64 x2) := fun p => p.k.cell HXC.out.2.2 (fun h => h)
      have cb0 : ∀ p : KW wr, p.val.cell? ⟨g, q * 3, none⟩ = some (.int .i64 y0) := fun p => p.k.cell HYC.out.1 (fun h => h)
      have cb1 : ∀ p : KW wr, p.val.cell? ⟨g, q * 3 + 1, none⟩ = some (.int .i64 y1) := fun p => p.k.cell HYC.out.2.1 (fun h => h)
      have cb2 : ∀ p : KW wr, p.val.cell? ⟨g, q * 3 + 2, none⟩ = some (.int .i64 y2) := fun p => p.k.cell HYC.out.2.2 (fun h => h)
      generalize cmpI x0 y0 = cv at *
      obtain ⟨bn, hbn⟩ : ∃ b : Bool, decide (cv < 0) = b := ⟨_, rfl⟩
      have HBN := Lib.hid hbn
      go_upto_region 35 with (fail)
      refine wp_region_quiet_kept (by decide +kernel) (by decide +kernel) ?_
      repeat (quiet_step ((go_at_call 49; with_reducible refine Calls.kept_of (HBY.out _))))
      refine wpQuiet_nil ?_
      rintro _ ⟨p', rfl⟩
      have HKP := Lib.hid (HK.out.trans (p'.k.mono (fun _ h => h.elim)))
      clear ca0 ca1 ca2 cb0 cb1 cb2 hbn
      generalize p'.val = V at *
      cases bn with
      | true =>
        have hneg : cv < 0 := of_decide_eq_true HBN.out
        have hxy := HCN.out.1 hneg
        have HQ2 : Hid ((i = l0 ∨ ∃ x y, A[i - 1 - a]? = some x ∧ B[n - i - m]? = some y ∧ x.node < y.node) ∧ (q = r0 ∨ ∃ x y, B[n - q - 1 - m]? = some x ∧ A[q - a]? = some y ∧ x.node < y.node)) := Lib.hid ⟨HQ.out.1, .inr ⟨_, _, by rw [show n - q - 1 - m = u - m by have := HQU.out; omega]; exact HXY.out.1, HXY.out.2, hxy⟩⟩
        clear hxy hneg
        go_wp2_with fail
        go_roundg (gk - 1)
        case rel => exact ⟨i, q, rfl, rfl, hi, by omega, by omega, by omega, HQ2, HKP.out⟩
        case measure => omega
      | false =>
        have hneg : ¬ cv < 0 := of_decide_eq_false HBN.out
        have hyx : y0 < x0 := by
          have h1 : ¬ x0 < y0 := fun h => hneg (HCN.out.2 h)
          have h2 := HYX.out
          simp only [] at h2
          omega
        have HQ2 : Hid ((q + 1 = l0 ∨ ∃ x y, A[q + 1 - 1 - a]? = some x ∧ B[n - (q + 1) - m]? = some y ∧ x.node < y.node) ∧ (j = r0 ∨ ∃ x y, B[n - j - 1 - m]? = some x ∧ A[j - a]? = some y ∧ x.node < y.node)) := Lib.hid ⟨.inr ⟨_, _, by rw [show q + 1 - 1 - a = q - a by omega]; exact HXY.out.2, by rw [show n - (q + 1) - m = u - m by have := HQU.out; omega]; exact HXY.out.1, hyx⟩, HQ.out.2⟩
        clear hyx hneg
        go_wp2_with fail
        go_roundg (gk - 1)
        case rel => exact ⟨q + 1, j, by go_num, rfl, by omega, by omega, hjr, by omega, HQ2, HKP.out⟩
        case measure => omega
    · obtain rfl : i = j := by omega
      obtain ⟨en, hen⟩ : ∃ e, n - i = e := ⟨_, rfl⟩
      obtain ⟨s, hs⟩ : ∃ s, i - a = s := ⟨_, rfl⟩
      obtain ⟨e, he⟩ : ∃ e, en - m = e := ⟨_, rfl⟩
      have hfacts : i = a + s ∧ en = m + e ∧ i + en = n ∧ s ≤ la ∧ e ≤ lb ∧ s + e = mid - a := by
        have := HM.out
        have := HL.out
        have := HR.out
        by_cases hh : mid < m
        · obtain ⟨t1, t2⟩ := HLR.out.1 hh
          omega
        · obtain ⟨t1, t2⟩ := HLR.out.2 hh
          omega
      have HF := Lib.hid hfacts
      have HSP : Hid (Below2 Mb.node (A.take s) (B.drop e) ∧ Below2 Mb.node (B.take e) (A.drop s)) := Lib.hid (by
        have hf := HF.out
        have hm := HM.out
        have hl := HL.out
        have hr := HR.out
        refine sym_split hl.2.1 hl.2.2.1 hf.2.2.2.1 hf.2.2.2.2.1 ?_ ?_
        · rcases HQ.out.1 with h | ⟨x, y, h3, h4, h5⟩
          · by_cases hh : mid < m
            · obtain ⟨t1, t2⟩ := HLR.out.1 hh
              exact .inr (.inl (by omega))
            · obtain ⟨t1, t2⟩ := HLR.out.2 hh
              exact .inl (by omega)
          · by_cases h0 : s = 0
            · exact .inl h0
            · exact .inr (.inr ⟨x, y, by rw [show s - 1 = i - 1 - a by omega]; exact h3, by rw [show e = n - i - m by omega]; exact h4, h5⟩)
        · rcases HQ.out.2 with h | ⟨x, y, h3, h4, h5⟩
          · by_cases hh : mid < m
            · obtain ⟨t1, t2⟩ := HLR.out.1 hh
              exact .inl (by omega)
            · obtain ⟨t1, t2⟩ := HLR.out.2 hh
              exact .inr (.inl (by omega))
          · by_cases h0 : e = 0
            · exact .inl h0
            · exact .inr (.inr ⟨x, y, by rw [show e - 1 = n - i - 1 - m by omega]; exact h3, by rw [show s = i - a by omega]; exact h4, h5⟩))
      have HAB : Hid (A = A.take s ++ A.drop s ∧ B = B.take e ++ B.drop e ∧ (A.take s).length = s ∧ (B.take e).length = e ∧ (A.drop s).length + s = la ∧ (B.drop e).length + e = lb) := Lib.hid (by
        have := HF.out
        have := HL.out
        refine ⟨(List.take_append_drop _ _).symm, (List.take_append_drop _ _).symm, ?_, ?_, ?_, ?_⟩
        · rw [List.length_take]; omega
        · rw [List.length_take]; omega
        · rw [List.length_drop]; omega
        · rw [List.length_drop]; omega)
      have HO1 := Lib.hid (ownsRow_keep HO.out HK.out (fun _ _ h => h))
      have HK1 : Hid (Keep (fun j => j = g) w wr) := Lib.hid (HK.out.mono (fun _ h => h.elim))
      have hlz : ¬ (i : Int) < (i : Int) := by omega
      have ee : (n : Int) - (i : Int) = (en : Int) := by omega
      have hwe : IntKind.i64.wrap (en : Int) = (en : Int) := wrapI (by unfold I64; omega)
      clear hen hs he hfacts HO HK hg hij
      generalize A.take s = A1 at *
      generalize A.drop s = A2 at *
      generalize B.take e = B1 at *
      generalize B.drop e = B2 at *
      obtain ⟨eA, eB, g1, g2, g3, g4⟩ := HAB.out
      subst eA eB
      have HG := Lib.hid (And.intro g1 (And.intro g2 (And.intro g3 g4)))
      clear g1 g2 g3 g4 HAB
      go_upto_region 39 with (fail)
      clear ee hwe hlz
      generalize wr = W0 at *
      -- the rotation
      go_cut [185] (fun v wc => ∃ bb : Bool, v = .bool bb ∧ Hid (bb = true ↔ (i < m ∧ m < en)) ∧ W0 = wc)
      case first =>
        as_aux_lemma =>
        by_cases q1 : i < m
        · have q1z : (i : Int) < (m : Int) := by omega
          by_cases q2 : m < en
          · have q2z : (m : Int) < (en : Int) := by omega
            go_wp2_with fail
            go_meet
            exact ⟨true, rfl, Lib.hid ⟨fun _ => ⟨q1, q2⟩, fun _ => rfl⟩, rfl⟩
          · have q2z : ¬ (m : Int) < (en : Int) := by omega
            go_wp2_with fail
            go_meet
            exact ⟨false, rfl, Lib.hid ⟨(fun h => by cases h), fun h => absurd h.2 q2⟩, rfl⟩
        · have q1z : ¬ (i : Int) < (m : Int) := by omega
          go_wp2_with fail
          go_meet
          exact ⟨false, rfl, Lib.hid ⟨(fun h => by cases h), fun h => absurd h.1 q1⟩, rfl⟩
      case rest =>
      as_aux_lemma =>
      obtain ⟨bb, rfl, HBB, rfl⟩ := hcut
      go_upto_if 185 with (fail)
      go_cut [] (fun wc => wc.ownsRow lo 44 3 (.slice (some ⟨g, 0, none⟩) N c) N (flatB (P ++ (A1 ++ (B1 ++ (A2 ++ (B2 ++ S)))))) ∧ Keep (fun j => j = g) w wc)
      case first =>
        as_aux_lemma =>
        cases bb with
        | true =>
          have HRO := Lib.hid (rotate_any lo g c N (P ++ A1) A2 B1 (B2 ++ S) byNodeV i m en W0 (by have := HBB.out.1 rfl; have := HG.out; have := HF.out; have := HL.out; omega) (by have := HBB.out.1 rfl; have := HG.out; have := HF.out; omega) (by rw [List.length_append]; have := HG.out; have := HF.out; have := HL.out; omega) (by have := HG.out; have := HF.out; have := HL.out; omega) (by have := HG.out; have := HF.out; omega) (by rw [List.length_append]; have := HG.out; have := HF.out; have := HL.out; omega) hN2 (by have := HO1.out; simpa only [List.append_assoc] using this))
          go_wp2_with fail
          with_reducible refine HRO.out.mono ?_
          rintro e' W1 ⟨rfl, hown, k1⟩
          have HO2 := Lib.hid hown
          have HK2 := Lib.hid (HK1.out.trans k1)
          clear hown k1 HRO
          go_wp2_with fail
          go_meet
          exact ⟨by have := HO2.out; simpa only [List.append_assoc] using this, HK2.out⟩
        | false =>
          have HO2 : Hid (W0.ownsRow lo 44 3 (.slice (some ⟨g, 0, none⟩) N c) N (flatB (P ++ (A1 ++ (B1 ++ (A2 ++ (B2 ++ S))))))) := Lib.hid (by
            have hd : A2 = [] ∨ B1 = [] := by
              have hg := HG.out
              have hf := HF.out
              have hl := HL.out
              by_cases q1 : i < m
              · by_cases q2 : m < en
                · exact absurd (HBB.out.2 ⟨q1, q2⟩) (by decide)
                · exact .inr (List.eq_nil_of_length_eq_zero (by omega))
              · exact .inl (List.eq_nil_of_length_eq_zero (by omega))
            have := HO1.out
            rcases hd with rfl | rfl
            · simpa only [List.append_assoc, List.append_nil, List.nil_append] using this
            · simpa only [List.append_assoc, List.append_nil, List.nil_append] using this)
          go_wp2_with fail
          go_meet
          exact ⟨HO2.out, HK1.out⟩
      case rest =>
      as_aux_lemma =>
      clear HO1 HK1 HBB
      obtain ⟨hown, hkeep⟩ := hcut
      have HO2 := Lib.hid hown
      have HK2 := Lib.hid hkeep
      clear hown hkeep
      generalize wc = W1 at *
      -- the first half
      go_upto_region 41 with (fail)
      go_cut [199] (fun v wd => ∃ bb : Bool, v = .bool bb ∧ Hid (bb = true ↔ (a < i ∧ i < mid)) ∧ W1 = wd)
      case first =>
        as_aux_lemma =>
        by_cases q1 : a < i
        · have q1z : (a : Int) < (i : Int) := by omega
          by_cases q2 : i < mid
          · have q2z : (i : Int) < (mid : Int) := by omega
            go_wp2_with fail
            go_meet
            exact ⟨true, rfl, Lib.hid ⟨fun _ => ⟨q1, q2⟩, fun _ => rfl⟩, rfl⟩
          · have q2z : ¬ (i : Int) < (mid : Int) := by omega
            go_wp2_with fail
            go_meet
            exact ⟨false, rfl, Lib.hid ⟨(fun h => by cases h), fun h => absurd h.2 q2⟩, rfl⟩
        · have q1z : ¬ (a : Int) < (i : Int) := by omega
          go_wp2_with fail
          go_meet
          exact ⟨false, rfl, Lib.hid ⟨(fun h => by cases h), fun h => absurd h.1 q1⟩, rfl⟩
      case rest =>
      as_aux_lemma =>
      obtain ⟨bb, rfl, HBB, rfl⟩ := hcut
      go_upto_if 199 with (fail)
      go_cut [] (fun wd => ∃ C1 : List Mb, Hid (C1.Perm (A1 ++ B1) ∧ AscF Mb.node C1) ∧ wd.ownsRow lo 44 3 (.slice (some ⟨g, 0, none⟩) N c) N (flatB (P ++ (C1 ++ (A2 ++ (B2 ++ S))))) ∧ Keep (fun j => j = g) w wd)
      case first =>
        as_aux_lemma =>
        cases bb with
        | true =>
          have HRE := Lib.hid (HIH.out P A1 B1 (A2 ++ (B2 ++ S)) a i mid W1 (by have := HG.out; have := HF.out; have := HL.out; have := HM.out; have := HBD.out; omega) HA.out.1.left HA.out.2.1.left (fun x hx y hy => HA.out.2.2 x (List.mem_append_left _ hx) y (List.mem_append_left _ hy)) (by have := HBB.out.1 rfl; have := HG.out; have := HF.out; omega) (by have := HBB.out.1 rfl; have := HG.out; have := HF.out; omega) HL.out.1 (by have := HG.out; have := HF.out; omega) (by have := HG.out; have := HF.out; have := HBD.out; omega) (by rw [List.length_append, List.length_append]; have := HG.out; have := HF.out; have := HL.out; have := HBD.out; omega) HO2.out)
          go_wp2_with fail
          with_reducible refine HRE.out.mono ?_
          rintro e' W2 ⟨C1, hp, hs, rfl, hown, k1⟩
          have HO3 := Lib.hid hown
          have HC1 := Lib.hid (And.intro hp hs)
          have HK3 := Lib.hid (HK2.out.trans k1)
          clear hown k1 hp hs HRE
          go_wp2_with fail
          go_meet
          exact ⟨C1, HC1, HO3.out, HK3.out⟩
        | false =>
          have HC1 : Hid ((A1 ++ B1).Perm (A1 ++ B1) ∧ AscF Mb.node (A1 ++ B1)) := Lib.hid ⟨List.Perm.refl _, by
            have hd : A1 = [] ∨ B1 = [] := by
              have hg := HG.out
              have hf := HF.out
              by_cases q1 : a < i
              · by_cases q2 : i < mid
                · exact absurd (HBB.out.2 ⟨q1, q2⟩) (by decide)
                · exact .inr (List.eq_nil_of_length_eq_zero (by omega))
              · exact .inl (List.eq_nil_of_length_eq_zero (by omega))
            rcases hd with rfl | rfl
            · exact HA.out.2.1.left
            · rw [List.append_nil]; exact HA.out.1.left⟩
          go_wp2_with fail
          go_meet
          exact ⟨A1 ++ B1, HC1, by have := HO2.out; simpa only [List.append_assoc] using this, HK2.out⟩
      case rest =>
      as_aux_lemma =>
      clear HO2 HK2 HBB
      obtain ⟨C1, HC1, hown, hkeep⟩ := hcut
      have HO3 := Lib.hid hown
      have HK3 := Lib.hid hkeep
      have HCL : Hid (C1.length = s + e) := Lib.hid (by rw [HC1.out.1.length_eq, List.length_append]; have := HG.out; omega)
      clear hown hkeep
      generalize wc = W2 at *
      -- the second half
      by_cases q : mid < en ∧ en < b
      · obtain ⟨q1, q2⟩ := q
        have q1z : (mid : Int) < (en : Int) := by omega
        have q2z : (en : Int) < (b : Int) := by omega
        have HRE := Lib.hid (HIH.out (P ++ C1) A2 B2 S mid en b W2 (by have := HG.out; have := HF.out; have := HL.out; have := HM.out; have := HBD.out; omega) HA.out.1.right HA.out.2.1.right (fun x hx y hy => HA.out.2.2 x (List.mem_append_right _ hx) y (List.mem_append_right _ hy)) (by have := HG.out; have := HF.out; have := HL.out; have := HBD.out; omega) (by have := HG.out; have := HF.out; have := HL.out; omega) (by rw [List.length_append]; have := HCL.out; have := HF.out; have := HL.out; have := HBD.out; omega) (by have := HG.out; have := HF.out; have := HL.out; have := HBD.out; omega) (by have := HG.out; have := HF.out; have := HL.out; omega) HL.out.2.2.2.2.2.1 (by have := HO3.out; simpa only [List.append_assoc] using this))
        go_wp2_with fail
        with_reducible refine HRE.out.mono ?_
        rintro e' W3 ⟨C2, hp, hs, rfl, hown, k1⟩
        have HO4 := Lib.hid hown
        have HC2 := Lib.hid (And.intro hp hs)
        have HK4 := Lib.hid (HK3.out.trans k1)
        clear hown k1 hp hs HRE
        go_wp2_with fail
        go_end0
        obtain ⟨j1, j2⟩ := merge_join HA.out.1 HA.out.2.1 HSP.out.1 HSP.out.2 HC1.out.1 HC2.out.1 HC1.out.2 HC2.out.2
        exact ⟨C1 ++ C2, j2, j1, rfl, by have := HO4.out; simpa only [List.append_assoc] using this, HK4.out⟩
      · have HC2 : Hid ((A2 ++ B2).Perm (A2 ++ B2) ∧ AscF Mb.node (A2 ++ B2)) := Lib.hid ⟨List.Perm.refl _, by
          have hd : A2 = [] ∨ B2 = [] := by
            have hg := HG.out
            have hf := HF.out
            have hl := HL.out
            have hbd := HBD.out
            by_cases q1 : mid < en
            · by_cases q2 : en < b
              · exact absurd ⟨q1, q2⟩ q
              · exact .inr (List.eq_nil_of_length_eq_zero (by omega))
            · exact .inl (List.eq_nil_of_length_eq_zero (by omega))
          rcases hd with rfl | rfl
          · exact HA.out.2.1.right
          · rw [List.append_nil]; exact HA.out.1.right⟩
        have HEND : Hid (MergePost lo g c N P (A1 ++ A2) (B1 ++ B2) S w (.returned (.tuple #[])) W2) := Lib.hid (by
          obtain ⟨j1, j2⟩ := merge_join HA.out.1 HA.out.2.1 HSP.out.1 HSP.out.2 HC1.out.1 HC2.out.1 HC1.out.2 HC2.out.2
          exact ⟨C1 ++ (A2 ++ B2), j2, j1, rfl, by have := HO3.out; simpa only [List.append_assoc] using this, HK3.out⟩)
        by_cases q1 : mid < en
        · have q1z : (mid : Int) < (en : Int) := by omega
          have q2z : ¬ (en : Int) < (b : Int) := by omega
          go_wp2_with fail
          go_end0
          exact HEND.out
        · have q1z : ¬ (mid : Int) < (en : Int) := by omega
          go_wp2_with fail
          go_end0
          exact HEND.out
end Go.Proofs.YtiacdkggbnoigaaGreatDoor

/-
  insertionSort on a part of a row: a part in order, or in order but for its last member.
-/
namespace Go.Proofs.YtiacdkggbnoigaaGreatDoor
open Go.RowKit Go.Shelf

/-- A part, sorted. -/
def finM (l : List Mb) : Option Mb → List Mb
  | none => l
  | some m => moreM l m
theorem insL_fin {P l S : List Mb} {m : Mb} {t : Nat} (hs : l.Pairwise (fun a b => a.node < b.node)) (h1 : ∀ x ∈ l.take t, x.node < m.node) (h2 : ∀ x ∈ l.drop t, m.node < x.node) : insL P m l S t = P ++ (finM l (some m) ++ S) := by
  show _ = P ++ (moreM l m ++ S)
  unfold insL
  rw [← lo_hi_at hs h1 h2]
  simp

set_option maxRecDepth 100000 in
set_option maxHeartbeats 4000000 in
theorem insSortG_any (lo g c N a b : Nat) (P l S : List Mb) (om : Option Mb) (w : World) (hs : l.Pairwise (fun a b => a.node < b.node)) (hm : ∀ m, om = some m → ∀ x ∈ l, x.node ≠ m.node) (ha : P.length = a) (hb : a + l.length + om.toList.length = b) (hN : b + S.length = N) (hN2 : N ≤ 1000)
    (h : w.ownsRow lo 44 3 (.slice (some ⟨g, 0, none⟩) N c) N (flatB (P ++ (l ++ (om.toList ++ S))))) :
    Calls Tryz.prog 94 #[.slice (some ⟨g, 0, none⟩) N c, .int .i64 a, .int .i64 b, byNodeV] w (SortedPost lo g c N (P ++ (finM l om ++ S)) w) := by
  have HO := Lib.hid h
  have HS := Lib.hid hs
  have HM := Lib.hid hm
  obtain ⟨ll, hll⟩ : ∃ n, l.length = n := ⟨_, rfl⟩
  obtain ⟨cur0, hcur0⟩ : ∃ x, P ++ (l ++ (om.toList ++ S)) = x := ⟨_, rfl⟩
  have HL : Hid (P.length = a ∧ l.length = ll ∧ a + ll + om.toList.length = b ∧ b + S.length = N ∧ om.toList.length ≤ 1) := Lib.hid ⟨ha, hll, by omega, hN, by cases om <;> simp⟩
  have HC0 := Lib.hid hcur0
  rw [hcur0] at HO
  have hbN : b ≤ N := by omega
  have hab : a ≤ b := by omega
  have HFIN0 : Hid (b ≤ a + 1 → cur0 = P ++ (finM l om ++ S)) := Lib.hid (fun hle => by
    have hl := HL.out
    rw [← hcur0]
    cases om with
    | none => simp [finM]
    | some m =>
      have : l = [] := List.eq_nil_of_length_eq_zero (by simp at hl; omega)
      subst this
      simp [finM, moreM, loM, hiM])
  clear h hs hm ha hb hN hll hcur0
  have ea : (a : Int) + 1 = ((a + 1 : Nat) : Int) := by omega
  obtain ⟨a1, ha1⟩ : ∃ x, a + 1 = x := ⟨_, rfl⟩
  rw [ha1] at ea HFIN0
  have hw0 : IntKind.i64.wrap (a1 : Int) = (a1 : Int) := wrapI (by unfold I64; omega)
  have HA1 : Hid (a1 = a + 1) := Lib.hid ha1.symm
  have haa : a < a1 := by omega
  clear ha1
  go_enter Tryz.func94, Tryz.ntmps94
  go_wp2_with fail
  clear ea hw0
  go_loopg [8] N (fun gh v8 wq => ∃ (i : Nat) (cur : List Mb), v8 = .int .i64 i ∧ a1 ≤ i ∧ i ≤ N + 1 ∧ N ≤ gh + i ∧ Hid (i < b → cur = cur0) ∧ Hid (b ≤ i → cur = P ++ (finM l om ++ S)) ∧ wq.ownsRow lo 44 3 (.slice (some ⟨g, 0, none⟩) N c) N (flatB cur) ∧ Keep (fun j => j = g) w wq)
  case atStart => exact ⟨a1, cur0, rfl, Nat.le_refl _, by have := HA1.out; omega, by omega, Lib.hid (fun _ => rfl), HFIN0, HO.out, Keep.refl _ _⟩
  case round =>
    clear HO
    obtain ⟨i, cur, rfl, hi1, hi2, hg, HC1, HC2, hown, hkeep⟩ := hrel
    have HO := Lib.hid hown
    have HK := Lib.hid hkeep
    clear hown hkeep
    by_cases hlt : i < b
    · have HCE := Lib.hid (HC1.out hlt)
      have hiz : (i : Int) < (b : Int) := by omega
      have hi0 : (0 : Int) ≤ (i : Int) := by omega
      clear HC1 HC2
      go_wp2_with fail
      go_loopg [9] (N + 1) (fun gq v9 wz => ∃ (j : Nat) (cu : List Mb), v9 = .int .i64 j ∧ a ≤ j ∧ j ≤ i ∧ j < gq ∧ Hid ((i < a + ll ∧ j = i ∧ cu = cur0) ∨ (i = a + ll ∧ ∃ (m : Mb) (t : Nat), om = some m ∧ j = a + t ∧ cu = insL P m l S t ∧ ∀ x ∈ l.drop t, m.node < x.node)) ∧ wz.ownsRow lo 44 3 (.slice (some ⟨g, 0, none⟩) N c) N (flatB cu) ∧ Keep (fun j => j = g) w wz)
      case atStart => exact ⟨i, cur, rfl, by omega, Nat.le_refl _, by omega, Lib.hid (by
        have hl := HL.out
        by_cases e : i < a + ll
        · exact .inl ⟨e, rfl, HCE.out⟩
        · have h1 : i = a + ll := by omega
          cases om with
          | none => simp at hl; omega
          | some m => exact .inr ⟨h1, m, ll, rfl, h1, by rw [insL_all P m l S hl.2.1, HCE.out, ← HC0.out]; simp, by rw [List.drop_of_length_le (by omega)]; simp⟩), HO.out, HK.out⟩
      case round =>
        clear HO HK HCE
        obtain ⟨j, cu, rfl, haj, hj, hjg, HST, hown, hkeep⟩ := hrel
        have HO := Lib.hid hown
        have HK := Lib.hid hkeep
        clear hown hkeep
        have HCUL : Hid (cu.length = N) := Lib.hid (by
          have hl := HL.out
          rcases HST.out with ⟨_, _, rfl⟩ | ⟨_, m, t, rfl, _, rfl, _⟩
          · rw [← HC0.out]; simp only [List.length_append]; omega
          · rw [insL_len]; simp at hl; omega)
        -- what holds when the inner loop ends
        have HNX : Hid ((∀ m t, om = some m → cu = insL P m l S t → j = a + t → ∀ x ∈ l.take t, x.node < m.node) → (i + 1 < b → cu = cur0) ∧ (b ≤ i + 1 → cu = P ++ (finM l om ++ S))) := Lib.hid (fun hend => by
          have hl := HL.out
          rcases HST.out with ⟨h1, h2, h3⟩ | ⟨h1, m, t, h2, h3, h4, h5⟩
          · refine ⟨fun _ => h3, fun h => ?_⟩
            cases om with
            | none => rw [h3, ← HC0.out]; simp [finM]
            | some m => simp at hl; omega
          · refine ⟨fun h => ?_, fun _ => ?_⟩
            · subst h2; simp at hl; omega
            · rw [h4, h2]
              exact insL_fin HS.out (hend m t h2 h4 h3) h5)
        have hi2' : i + 1 ≤ N + 1 := by omega
        by_cases hj0 : j = a
        · have HEND := Lib.hid (HNX.out (fun m t h2 h4 h1 => by
            have ht : t = 0 := by omega
            subst ht
            intro x hx
            simp at hx))
          have hjz : ¬ (a : Int) < (j : Int) := by omega
          subst hj0
          go_upto_region 4 with (fail)
          go_quiet (fail)
          have HOP := Lib.hid (fun k => ownsRow_keep HO.out ((Keep.refl (fun _ => False) wr).drewN k) (fun _ _ h => h))
          have HKP := Lib.hid (fun k => HK.out.trans ((Keep.refl (fun j => j = g) wr).drewN k))
          go_wp2_with fail
          go_roundg (N - (i + 1))
          case rel => exact ⟨i + 1, cu, by go_num, by omega, hi2', by omega, Lib.hid HEND.out.1, Lib.hid HEND.out.2, HOP.out _, HKP.out _⟩
          case measure => omega
        · obtain ⟨q, hjq⟩ : ∃ q, j = q + 1 := ⟨j - 1, by omega⟩
          have HJQ := Lib.hid hjq
          obtain ⟨x, hx⟩ : ∃ x, cu[j]? = some x := ⟨_, List.getElem?_eq_getElem (by have := HCUL.out; omega)⟩
          obtain ⟨y, hy⟩ : ∃ y, cu[q]? = some y := ⟨_, List.getElem?_eq_getElem (by have := HCUL.out; omega)⟩
          have HX := Lib.hid hx
          have HY := Lib.hid hy
          have hxc := row_cells HO.out (show j < N by omega) hx
          have hyc := row_cells HO.out (show q < N by omega) hy
          have HXC := Lib.hid hxc
          have HYC := Lib.hid hyc
          have HYL : Hid (l[q - a]? = some y ∧ a ≤ q) := Lib.hid ⟨by
            have hl := HL.out
            rcases HST.out with ⟨h1, h2, h3⟩ | ⟨h1, m, t, h2, h3, h4, h5⟩
            · rw [h3, ← HC0.out, (get_parts hl.1 (show a + l.length = a + ll by omega) q).1 (by omega) (by omega)] at hy
              exact hy
            · obtain ⟨t', rfl⟩ : ∃ t', t = t' + 1 := ⟨t - 1, by omega⟩
              obtain ⟨u, hu⟩ : ∃ u, l[t']? = some u := ⟨_, List.getElem?_eq_getElem (by omega)⟩
              have := (insL_at P m l S hu).2.2.2.2.1
              rw [h4, show q = P.length + t' by omega, this] at hy
              rw [show q - a = t' by omega, hu]
              exact hy, by omega⟩
          clear hx hy hxc hyc
          have HBY : Hid (∀ W, Calls Tryz.prog 49 #[mbV x, mbV y] W fun e w' => e = .returned (.int .i64 (cmpI x.node y.node)) ∧ Keep (fun _ => False) W w') := Lib.hid (fun W => byNode_any x y W)
          have HCN := Lib.hid (cmpI_neg x.node y.node)
          obtain ⟨x0, x1, x2⟩ := x
          obtain ⟨y0, y1, y2⟩ := y
          simp only [mbV] at HXC HYC HBY HCN
          have ek : (j : Int) - 1 = (q : Int) := by omega
          have hgt : (a : Int) < (j : Int) := by omega
          have hw1 : IntKind.i64.wrap (q : Int) = (q : Int) := wrapI (by unfold I64; omega)
          have hq0 : (0 : Int) ≤ (q : Int) := by omega
          have hqN : q < N := by omega
          have hqz : (q : Int) < (N : Int) := by omega
          have hjN : j < N := by omega
          have hqz1 : (j : Int) < (N : Int) := by omega
          have hj0' : (0 : Int) ≤ (j : Int) := by omega
          have ca0 : ∀ p : KW wr, p.val.cell? ⟨g, j * 3, none⟩ = some (.int .i64 x0) := fun p => p.k.cell HXC.out.1 (fun h => h)
          have ca1 : ∀ p : KW wr, p.val.cell? ⟨g, j * 3 + 1, none⟩ = some (.int .i64 x1) := fun p => p.k.cell HXC.out.2.1 (fun h => h)
          have ca2 : ∀ p : KW wr, p.val.cell? ⟨g, j * 3 + 2, none⟩ = some (.int .i64 x2) := fun p => p.k.cell HXC.out.2.2 (fun h => h)
          have cb0 : ∀ p : KW wr, p.val.cell? ⟨g, q * 3, none⟩ = some (.int .i64 y0) := fun p => p.k.cell HYC.out.1 (fun h => h)
          have cb1 : ∀ p : KW wr, p.val.cell? ⟨g, q * 3 + 1, none⟩ = some (.int .i64 y1) := fun p => p.k.cell HYC.out.2.1 (fun h => h)
          have cb2 : ∀ p : KW wr, p.val.cell? ⟨g, q * 3 + 2, none⟩ = some (.int .i64 y2) := fun p => p.k.cell HYC.out.2.2 (fun h => h)
          generalize cmpI x0 y0 = cv at *
          clear hjq
          go_upto_region 4 with (fail)
          refine wp_region_quiet_kept (by kernel_rfl) (by kernel_rfl) ?_
          repeat (quiet_step ((go_at_call 49; with_reducible refine Calls.kept_of (HBY.out _))))
          refine wpQuiet_nil ?_
          rintro _ ⟨p, rfl⟩
          have HOP := Lib.hid (ownsRow_keep HO.out p.k (fun _ _ h => h))
          have HKP := Lib.hid (HK.out.trans (p.k.mono (fun _ h => h.elim)))
          clear ca0 ca1 ca2 cb0 cb1 cb2
          generalize p.val = V at *
          by_cases hneg : cv < 0
          · -- the last member moves down
            have HSW : Hid (∃ m t, om = some m ∧ i = a + ll ∧ q = a + t ∧ l[t]? = some ⟨y0, y1, y2⟩ ∧ cu = insL P m l S (t + 1) ∧ m = ⟨x0, x1, x2⟩ ∧ (∀ z ∈ l.drop (t + 1), m.node < z.node)) := Lib.hid (by
              have hjq := HJQ.out
              have hl := HL.out
              rcases HST.out with ⟨h1, h2, h3⟩ | ⟨h1, m, t, h2, h3, h4, h5⟩
              · exfalso
                have h4 := HX.out
                rw [h3, ← HC0.out, (get_parts hl.1 (show a + l.length = a + ll by omega) j).1 (by omega) (by omega)] at h4
                obtain ⟨a1, a2⟩ := List.getElem?_eq_some_iff.1 h4
                obtain ⟨b1, b2⟩ := List.getElem?_eq_some_iff.1 HYL.out.1
                have h8 := List.pairwise_iff_getElem.1 HS.out (q - a) (j - a) b1 a1 (by have := HYL.out.2; omega)
                rw [a2, b2] at h8
                have h9 := HCN.out.1 hneg
                simp only [] at h8
                omega
              · obtain ⟨t', rfl⟩ : ∃ t', t = t' + 1 := ⟨t - 1, by have := HYL.out.2; omega⟩
                have hu : l[t']? = some ⟨y0, y1, y2⟩ := by rw [← HYL.out.1]; congr 1; omega
                have h6 := (insL_at P m l S hu).2.2.2.1
                have h7 := HX.out
                rw [h4, show j = P.length + t' + 1 by omega, h6] at h7
                exact ⟨m, t', h2, h1, by omega, hu, h4, by simpa using h7, h5⟩)
            obtain ⟨m, t, HT⟩ : ∃ m t, Hid (om = some m ∧ i = a + ll ∧ q = a + t ∧ l[t]? = some ⟨y0, y1, y2⟩ ∧ cu = insL P m l S (t + 1) ∧ m = ⟨x0, x1, x2⟩ ∧ (∀ z ∈ l.drop (t + 1), m.node < z.node)) := by
              obtain ⟨m, t, h⟩ := HSW.out
              exact ⟨m, t, Lib.hid h⟩
            have HAT : Hid ((insL P m l S (t + 1))[j]? = some ⟨x0, x1, x2⟩ ∧ (insL P m l S (t + 1))[q]? = some ⟨y0, y1, y2⟩ ∧ ((insL P m l S (t + 1)).set j ⟨y0, y1, y2⟩).set q ⟨x0, x1, x2⟩ = insL P m l S t) := Lib.hid (by
              have h1 := HT.out
              have h2 := (insL_at P m l S h1.2.2.2.1).2.2.2
              rw [HL.out.1, ← h1.2.2.1, ← HJQ.out] at h2
              rw [h1.2.2.2.2.2.1] at h2 ⊢
              exact h2)
            have HLN : Hid ((insL P m l S (t + 1)).length = N) := Lib.hid (by rw [← HT.out.2.2.2.2.1]; exact HCUL.out)
            have HOU : Hid (V.drew.ownsRow lo 44 3 (.slice (some ⟨g, 0, none⟩) N c) N (flatB (insL P m l S (t + 1)))) := Lib.hid (by rw [← HT.out.2.2.2.2.1]; exact ownsRow_keep HOP.out (Keep.refl (fun _ => False) V).drew (fun _ _ h => h))
            have HKU : Hid (Keep (fun j => j = g) w V.drew) := Lib.hid (HKP.out.trans (Keep.refl (fun j => j = g) V).drew)
            have hjne : j ≠ q := by have := HJQ.out; omega
            have hqg : q < gk - 1 := by have := HJQ.out; omega
            have haq : a ≤ q := HYL.out.2
            have hqi : q ≤ i := by have := HJQ.out; omega
            have hgg : gk - 1 < gk := by omega
            have HNS : Hid ((i < a + ll ∧ q = i ∧ insL P m l S t = cur0) ∨ (i = a + ll ∧ ∃ (m' : Mb) (t' : Nat), om = some m' ∧ q = a + t' ∧ insL P m l S t = insL P m' l S t' ∧ ∀ x ∈ l.drop t', m'.node < x.node)) := Lib.hid (by
              obtain ⟨h1, h2, h3, h4, h5, h6, h7⟩ := HT.out
              refine .inr ⟨h2, m, t, h1, h3, rfl, fun z hz => ?_⟩
              obtain ⟨hk, hk2⟩ := List.getElem?_eq_some_iff.1 h4
              rw [List.drop_eq_getElem_cons hk] at hz
              rcases List.mem_cons.1 hz with h | h
              · rw [h, hk2, h6]
                exact HCN.out.1 hneg
              · exact h7 z h)
            clear HSW HOP HKP HST HNX
            go_upto_region 6 with (fail)
            refine wp_region_walkT (.read 0 (.read 1 (.read 2 (.read 3 (.read 4 (.read 5 (.read 6 (.read 7 (.read 8 (.read 10 (.read 11 (.read 12 (.two 9 (.one 13 (.one 14 (.one 15 (.one 16 (.one 17 .done))))) 13 (.one 9 (.one 14 (.one 15 (.one 16 (.one 17 .done)))))))))))))))))) (inKA (fun j => j = g) V.drew) (by kernel_rfl) (by kernel_rfl) ?_
            iterate 12 (refine walkT_read rfl (fun K hK => ?_); go_simp; refine hK _ ?_; clear hK K)
            clear HO HK
            generalize V.drew = U at *
            obtain ⟨d0, d1, d2⟩ := row_cells HOU.out hjN HAT.out.1
            obtain ⟨f0, f1, f2⟩ := row_cells HOU.out hqN HAT.out.2.1
            have hs1 := row_swap1 HOU.out HLN.out hjN hqN hjne HAT.out.2.1 y0 y1 y2
            obtain ⟨⟨g0, g1, g2⟩, cf2, kq1⟩ := hs1
            have HS2 := Lib.hid (row_swap HOU.out HLN.out hjN hqN y0 y1 y2 x0 x1 x2)
            rw [HAT.out.2.2] at HS2
            have cf1 : ∀ o, U.frozen? ⟨g, o, none⟩ = false := fun o => HOU.out.frozenAt o
            have HKQ := Lib.hid kq1
            clear kq1
            simp only [] at d0 d1 d2 f0 f1 f2 g0 g1 g2
            refine walkT_two rfl rfl (inKA.of (Keep.refl _ U)) (fun K hK => ?_) (fun K hK => ?_)
            all_goals
              go_simp
              refine hK _ _ ?_; clear hK K
              refine walkT_do rfl (inKA.of (Keep.refl _ U)) (fun K hK => ?_)
              go_simp
              refine hK _ _ ?_; clear hK K
              refine walkT_do rfl (inKA.of (Keep.refl _ U)) (fun K hK => ?_)
              go_simp
              refine hK _ _ ?_; clear hK K
              refine walkT_do rfl (inKA.of (Keep.refl _ U)) (fun K hK => ?_)
              go_simp
              refine hK _ _ ?_; clear hK K
              refine walkT_do rfl (inKA.of HKQ.out) (fun K hK => ?_)
              go_simp
              refine hK _ _ ?_; clear hK K
              refine walkT_do rfl (inKA.of HKQ.out) (fun K hK => ?_)
              go_simp
              refine hK _ _ ?_; clear hK K
              refine ⟨inKA.of HS2.out.2, ?_⟩
              go_wp2_with fail
              clear d0 d1 d2 f0 f1 f2 g0 g1 g2 cf1 cf2
              generalize (((((U.setCell ⟨g, j * 3, none⟩ (.int .i64 y0)).setCell ⟨g, j * 3 + 1, none⟩ (.int .i64 y1)).setCell ⟨g, j * 3 + 2, none⟩ (.int .i64 y2)).setCell ⟨g, q * 3, none⟩ (.int .i64 x0)).setCell ⟨g, q * 3 + 1, none⟩ (.int .i64 x1)).setCell ⟨g, q * 3 + 2, none⟩ (.int .i64 x2) = WF at *
              go_roundg (gk - 1)
            · exact ⟨q, _, rfl, haq, hqi, hqg, HNS, HS2.out.1, HKU.out.trans HS2.out.2⟩
            · exact hgg
            · exact ⟨q, _, rfl, haq, hqi, hqg, HNS, HS2.out.1, HKU.out.trans HS2.out.2⟩
            · exact hgg
          · have HEND := Lib.hid (HNX.out (fun m t h2 h4 h1 => by
              have hjq := HJQ.out
              have hl := HL.out
              obtain ⟨u, rfl⟩ : ∃ u, t = u + 1 := ⟨t - 1, by have := HYL.out.2; omega⟩
              have hu : l[u]? = some ⟨y0, y1, y2⟩ := by rw [← HYL.out.1]; congr 1; omega
              have hxm : (⟨x0, x1, x2⟩ : Mb) = m := by
                have h7 := HX.out
                rw [h4, show j = P.length + u + 1 by omega, (insL_at P m l S hu).2.2.2.1] at h7
                simpa using h7.symm
              have h8 : ¬ x0 < y0 := fun h => hneg (HCN.out.2 h)
              have h9 := HM.out m h2 _ (List.mem_of_getElem? hu)
              rw [← hxm] at h9
              simp only [] at h9
              intro z hz
              have h10 := asc_take (show AscF Mb.node l from HS.out) hu z hz
              rw [← hxm]
              simp only [] at h10 ⊢
              omega))
            go_wp2_with fail
            go_roundg (N - (i + 1))
            case rel => exact ⟨i + 1, cu, by go_num, by omega, hi2', by omega, Lib.hid HEND.out.1, Lib.hid HEND.out.2, HOP.out, HKP.out⟩
            case measure => omega
    · have HCE := Lib.hid (HC2.out (by omega))
      have hiz : ¬ ((i : Int) < (b : Int)) := by omega
      go_wp2_with fail
      go_end0
      exact ⟨rfl, by rw [← HCE.out]; exact HO.out, HK.out⟩
end Go.Proofs.YtiacdkggbnoigaaGreatDoor

/-
  stableCmpFunc on members that are in order but for the last one: up to 25 of them.
-/
namespace Go.Proofs.YtiacdkggbnoigaaGreatDoor
open Go.RowKit Go.Shelf

theorem moreM_perm {l : List Mb} {m : Mb} (hs : l.Pairwise (fun a b => a.node < b.node)) (hm : ∀ x ∈ l, x.node ≠ m.node) : (moreM l m).Perm (m :: l) := by
  have h := split_lo_hi hs m.node hm
  unfold moreM
  refine List.perm_middle.trans ?_
  rw [← h]
theorem moreM_asc {l : List Mb} {m : Mb} (hs : l.Pairwise (fun a b => a.node < b.node)) : AscF Mb.node (moreM l m) := by
  unfold moreM loM hiM
  refine List.pairwise_append.2 ⟨hs.sublist List.filter_sublist, List.pairwise_cons.2 ⟨fun x hx => by simpa using (List.mem_filter.1 hx).2, hs.sublist List.filter_sublist⟩, fun a ha b hb => ?_⟩
  have h1 : a.node < m.node := by simpa using (List.mem_filter.1 ha).2
  rcases List.mem_cons.1 hb with rfl | hb
  · exact h1
  · have h2 : m.node < b.node := by simpa using (List.mem_filter.1 hb).2
    omega
theorem moreM_len {l : List Mb} {m : Mb} (hs : l.Pairwise (fun a b => a.node < b.node)) (hm : ∀ x ∈ l, x.node ≠ m.node) : (moreM l m).length = l.length + 1 := by
  rw [(moreM_perm hs hm).length_eq]
  rfl

abbrev insCall (lo g c n : Nat) (a b : Int) (R : List Mb) (W : World) : Prop := Calls Tryz.prog 94 #[.slice (some ⟨g, 0, none⟩) n c, .int .i64 a, .int .i64 b, byNodeV] W (SortedPost lo g c n R W)
set_option maxRecDepth 100000 in
set_option maxHeartbeats 2000000 in
theorem stable_small (lo g c n : Nat) (R : List Mb) (w : World) (hn : n ≤ 19) (h : insCall lo g c n 0 n R w) :
    Calls Tryz.prog 78 #[.slice (some ⟨g, 0, none⟩) n c, .int .i64 n, byNodeV] w (SortedPost lo g c n R w) := by
  have HI := Lib.hid h
  clear h
  have hz : ¬ ((20 : Int) ≤ (n : Int)) := by omega
  have hz2 : ¬ ((20 : Int) < (n : Int)) := by omega
  have hz3 : ¬ (20 ≤ n) := by omega
  have hz4 : ¬ (20 < n) := by omega
  go_enter Tryz.func78, Tryz.ntmps78
  go_wp2_with fail
  go_loopg [7, 8] 1 (fun gh v7 v8 wr => v7 = .int .i64 0 ∧ v8 = .int .i64 20 ∧ wr = w)
  case atStart => exact ⟨rfl, rfl, rfl⟩
  case round =>
    obtain ⟨rfl, rfl, rfl⟩ := hrel
    go_wp2_with fail
    with_reducible refine HI.out.mono ?_
    rintro e W1 ⟨rfl, hown, k1⟩
    have HO := Lib.hid hown
    have HK := Lib.hid k1
    clear hown k1 HI
    go_wp2_with fail
    go_loopg [6] 1 (fun gh v6 wr => v6 = .int .i64 20 ∧ wr = W1)
    case atStart => exact ⟨rfl, rfl⟩
    case round =>
      obtain ⟨rfl, rfl⟩ := hrel
      go_wp2_with fail
      go_end0
      exact ⟨rfl, HO.out, HK.out⟩
set_option maxRecDepth 100000 in
set_option maxHeartbeats 2000000 in
theorem stable_big (lo g c n : Nat) (R1 R2 R3 : List Mb) (w : World) (hn : 20 ≤ n) (hn2 : n ≤ 39) (h1 : insCall lo g c n 0 20 R1 w)
    (h2 : ∀ W, W.ownsRow lo 44 3 (.slice (some ⟨g, 0, none⟩) n c) n (flatB R1) → insCall lo g c n 20 n R2 W)
    (h3 : 20 < n → ∀ W, W.ownsRow lo 44 3 (.slice (some ⟨g, 0, none⟩) n c) n (flatB R2) → Calls Tryz.prog 95 #[.slice (some ⟨g, 0, none⟩) n c, .int .i64 0, .int .i64 20, .int .i64 n, byNodeV] W (SortedPost lo g c n R3 W)) (h4 : n = 20 → R2 = R3) :
    Calls Tryz.prog 78 #[.slice (some ⟨g, 0, none⟩) n c, .int .i64 n, byNodeV] w (SortedPost lo g c n R3 w) := by
  have H1 := Lib.hid h1
  have H2 := Lib.hid h2
  have H3 := Lib.hid h3
  have H4 := Lib.hid h4
  clear h1 h2 h3 h4
  have hz1 : (20 : Int) ≤ (n : Int) := by omega
  have hz2 : ¬ ((40 : Int) ≤ (n : Int)) := by omega
  have hz3 : ¬ ((40 : Int) < (n : Int)) := by omega
  have hy3 : ¬ (40 ≤ n) := by omega
  have hy4 : ¬ (40 < n) := by omega
  go_enter Tryz.func78, Tryz.ntmps78
  go_wp2_with fail
  go_loopg [7, 8] 1 (fun gh v7 v8 wr => (gh = 1 ∧ v7 = .int .i64 0 ∧ v8 = .int .i64 20 ∧ wr = w) ∨ (v7 = .int .i64 20 ∧ v8 = .int .i64 40 ∧ wr.ownsRow lo 44 3 (.slice (some ⟨g, 0, none⟩) n c) n (flatB R1) ∧ Keep (fun j => j = g) w wr))
  case atStart => exact .inl ⟨rfl, rfl, rfl, rfl⟩
  case round =>
    rcases hrel with ⟨hgk, rfl, rfl, rfl⟩ | ⟨rfl, rfl, hown, hkeep⟩
    · have HG := Lib.hid hgk
      clear hgk
      go_wp2_with fail
      with_reducible refine H1.out.mono ?_
      rintro e W1 ⟨rfl, hown, k1⟩
      have HO := Lib.hid hown
      have HK := Lib.hid k1
      clear hown k1 H1
      go_wp2_with fail
      go_roundg 0
      case rel => exact .inr ⟨rfl, rfl, HO.out, HK.out⟩
      case measure => have := HG.out; omega
    · have HO := Lib.hid hown
      have HK := Lib.hid hkeep
      clear hown hkeep
      go_wp2_with fail
      with_reducible refine (H2.out wr HO.out).mono ?_
      rintro e W2 ⟨rfl, hown, k1⟩
      have HO2 := Lib.hid hown
      have HK2 := Lib.hid (HK.out.trans k1)
      clear hown k1 H1 H2 HO HK
      go_wp2_with fail
      go_loopg [6] 1 (fun gh v6 wr => (gh = 1 ∧ v6 = .int .i64 20 ∧ wr = W2) ∨ (v6 = .int .i64 40 ∧ wr.ownsRow lo 44 3 (.slice (some ⟨g, 0, none⟩) n c) n (flatB R3) ∧ Keep (fun j => j = g) w wr))
      case atStart => exact .inl ⟨rfl, rfl, rfl⟩
      case round =>
        rcases hrel with ⟨hgk, rfl, rfl⟩ | ⟨rfl, hown, hkeep⟩
        · have HG := Lib.hid hgk
          clear hgk
          by_cases hlt : 20 < n
          · have hlz : (20 : Int) < (n : Int) := by omega
            have H3W := Lib.hid (H3.out hlt wr HO2.out)
            go_wp2_with fail
            go_loopg [7, 8] 1 (fun gh v7 v8 wq => v7 = .int .i64 0 ∧ v8 = .int .i64 40 ∧ wq = wr)
            case atStart => exact ⟨rfl, rfl, rfl⟩
            case round =>
              obtain ⟨rfl, rfl, rfl⟩ := hrel
              go_wp2_with fail
              with_reducible refine H3W.out.mono ?_
              rintro e W3 ⟨rfl, hown, k1⟩
              have HO3 := Lib.hid hown
              have HK3 := Lib.hid (HK2.out.trans k1)
              clear hown k1 H3W
              go_wp2_with fail
              go_roundg 0
              case rel => exact .inr ⟨rfl, HO3.out, HK3.out⟩
              case measure => have := HG.out; omega
          · have hlz : ¬ (20 : Int) < (n : Int) := by omega
            have HO3 : Hid (wr.ownsRow lo 44 3 (.slice (some ⟨g, 0, none⟩) n c) n (flatB R3)) := Lib.hid (by rw [← H4.out (by omega)]; exact HO2.out)
            go_wp2_with fail
            go_end0
            exact ⟨rfl, HO3.out, HK2.out⟩
        · have HO3 := Lib.hid hown
          have HK3 := Lib.hid hkeep
          clear hown hkeep
          go_wp2_with fail
          go_end0
          exact ⟨rfl, HO3.out, HK3.out⟩

theorem stable_any (lo g c : Nat) (l : List Mb) (m : Mb) (w : World) (hs : l.Pairwise (fun a b => a.node < b.node)) (hm : ∀ x ∈ l, x.node ≠ m.node) (hl : l.length ≤ 30) (h : w.ownsRow lo 44 3 (.slice (some ⟨g, 0, none⟩) (l.length + 1) c) (l.length + 1) (flatB (l ++ [m]))) :
    Calls Tryz.prog 78 #[.slice (some ⟨g, 0, none⟩) (l.length + 1) c, .int .i64 (l.length + 1 : Nat), byNodeV] w (SortedPost lo g c (l.length + 1) (moreM l m) w) := by
  rcases Nat.lt_trichotomy l.length 19 with hlt | heq | hgt
  · refine stable_small lo g c (l.length + 1) (moreM l m) w (by omega) ?_
    have := insSortG_any lo g c (l.length + 1) 0 (l.length + 1) [] l [] (some m) w hs (fun m' e => by cases e; exact hm) rfl (by simp) (by simp) (by omega) (by simpa using h)
    rw [show [] ++ (finM l (some m) ++ []) = moreM l m by simp [finM]] at this
    exact this
  · have hle := moreM_len hs hm
    refine stable_big lo g c (l.length + 1) (moreM l m) (moreM l m) (moreM l m) w (by omega) (by omega) ?_ (fun W hW => ?_) (fun h => by omega) (fun _ => rfl)
    · have := insSortG_any lo g c (l.length + 1) 0 20 [] l [] (some m) w hs (fun m' e => by cases e; exact hm) rfl (by simp; omega) (by simp; omega) (by omega) (by simpa using h)
      rw [show [] ++ (finM l (some m) ++ []) = moreM l m by simp [finM]] at this
      exact this
    · have := insSortG_any lo g c (l.length + 1) 20 (l.length + 1) (moreM l m) [] [] none W List.Pairwise.nil (fun m' e => by cases e) (by omega) (by simp; omega) (by simp) (by omega) (by simpa using hW)
      rw [show moreM l m ++ (finM [] none ++ []) = moreM l m by simp [finM]] at this
      exact this
  · have hsp : l.take 20 ++ l.drop 20 = l := List.take_append_drop 20 l
    have hl1 : (l.take 20).length = 20 := by rw [List.length_take]; omega
    have hl2 : (l.drop 20).length + 20 = l.length := by rw [List.length_drop]; omega
    have hs1 : (l.take 20).Pairwise (fun a b => a.node < b.node) := hs.sublist (List.take_sublist _ _)
    have hs2 : (l.drop 20).Pairwise (fun a b => a.node < b.node) := hs.sublist (List.drop_sublist _ _)
    have hm2 : ∀ x ∈ l.drop 20, x.node ≠ m.node := fun x hx => hm x (List.mem_of_mem_drop hx)
    have hle := moreM_len hs2 hm2
    have hpm := moreM_perm hs2 hm2
    have hcross : ∀ x ∈ l.take 20, ∀ y ∈ moreM (l.drop 20) m, x.node ≠ y.node := fun x hx y hy => by
      rcases List.mem_cons.1 (hpm.mem_iff.1 hy) with rfl | hy
      · exact hm x (List.mem_of_mem_take hx)
      · have h5 : AscF Mb.node (l.take 20 ++ l.drop 20) := by rw [hsp]; exact hs
        have := h5.cross hx hy
        omega
    refine stable_big lo g c (l.length + 1) (l ++ [m]) (l.take 20 ++ moreM (l.drop 20) m) (moreM l m) w (by omega) (by omega) ?_ (fun W hW => ?_) (fun _ W hW => ?_) (fun h => by omega)
    · have := insSortG_any lo g c (l.length + 1) 0 20 [] (l.take 20) (l.drop 20 ++ [m]) none w hs1 (fun m' e => by cases e) rfl (by simp; omega) (by simp; omega) (by omega) (by
        simp only [Option.toList_none, List.nil_append]
        rw [← List.append_assoc, hsp]
        exact h)
      simp only [finM, List.nil_append] at this
      rw [← List.append_assoc, hsp] at this
      exact this
    · have := insSortG_any lo g c (l.length + 1) 20 (l.length + 1) (l.take 20) (l.drop 20) [] (some m) W hs2 (fun m' e => by cases e; exact hm2) hl1 (by simp; omega) (by simp) (by omega) (by
        simp only [Option.toList_some, List.append_nil]
        rw [← List.append_assoc, hsp]
        exact hW)
      simp only [finM, List.append_nil] at this
      exact this
    · refine (symMerge_any lo g c (l.length + 1) (by omega) (l.length + 1) [] (l.take 20) (moreM (l.drop 20) m) [] 0 20 (l.length + 1) W (by omega) hs1 (moreM_asc hs2) hcross (by omega) (by omega) rfl (by omega) (by omega) (by simp) (by simpa using hW)).mono ?_
      rintro e w' ⟨C, hp, hs', h1, h2, h3⟩
      have hC : C = moreM l m := asc_unique hs' (moreM_asc hs) (by
        refine hp.trans ((List.Perm.append_left _ hpm).trans ?_)
        refine (List.perm_middle).trans ?_
        rw [hsp]
        exact (moreM_perm hs hm).symm)
      subst hC
      exact ⟨h1, by simpa using h2, h3⟩
end Go.Proofs.YtiacdkggbnoigaaGreatDoor

/-
  SortStableFunc, edited.
-/
namespace Go.Proofs.YtiacdkggbnoigaaGreatDoor
open Go.RowKit Go.Shelf

set_option maxRecDepth 100000 in
set_option maxHeartbeats 1000000 in
theorem sortStable_any (lo g c : Nat) (l : List Mb) (m : Mb) (w : World) (hs : l.Pairwise (fun a b => a.node < b.node)) (hm : ∀ x ∈ l, x.node ≠ m.node) (hl : l.length ≤ 30) (h : w.ownsRow lo 44 3 (.slice (some ⟨g, 0, none⟩) (l.length + 1) c) (l.length + 1) (flatB (l ++ [m]))) :
    Calls Tryz.prog 69 #[.slice (some ⟨g, 0, none⟩) (l.length + 1) c, byNodeV] w (SortedPost lo g c (l.length + 1) (moreM l m) w) := by
  have HI := Lib.hid (stable_any lo g c l m w hs hm hl h)
  clear hs hm h
  obtain ⟨n, hn⟩ : ∃ n, l.length + 1 = n := ⟨_, rfl⟩
  rw [hn] at HI ⊢
  go_enter Tryz.func69, Tryz.ntmps69
  go_wp2_with fail
  with_reducible refine HI.out.mono ?_
  rintro e W1 ⟨rfl, hown, k1⟩
  have HO := Lib.hid hown
  have HK := Lib.hid k1
  clear hown k1 HI
  go_wp2_with fail
  go_end0
  exact ⟨rfl, HO.out, HK.out⟩

/-- The function that tells nobody. -/
abbrev noneV : Value := .func (.func 53) #[] #[]
set_option maxRecDepth 100000 in
theorem none1_any (m : Mb) (w : World) : Calls Tryz.prog 53 #[mbV m] w fun e w' => e = .returned (.bool false) ∧ Keep (fun _ => False) w w' := by
  obtain ⟨x, y, z⟩ := m
  have HK : Hid (Keep (fun _ => False) w (w.alloc (.cells #[.int .i64 x, .int .i64 y, .int .i64 z] 44))) := Lib.hid ((Keep.refl _ w).alloc _)
  go_enter Tryz.func53, Tryz.ntmps53
  go_wp2_with fail
  go_ret
  exact ⟨rfl, HK.out⟩
set_option maxRecDepth 100000 in
set_option maxHeartbeats 1000000 in
theorem indexNone_any (v : Value) (l : List Mb) (w : World) (h : Mbs w v l) (hl : l.length ≤ 100000) : Calls Tryz.prog 45 #[v, noneV] w fun e w' => e = .returned (.int .i64 (-1)) ∧ Keep (fun _ => False) w w' := by
  obtain ⟨hn, -, a, c, bb, off, rfl, hc, ha, hcell⟩ := h
  have HC := Lib.hid hcell
  have HA := Lib.hid ha
  clear hcell ha hn
  obtain ⟨ln, hn'⟩ : ∃ n, l.length = n := ⟨_, rfl⟩
  have HL := Lib.hid hn'
  rw [hn'] at hc hl ⊢
  clear hn'
  go_enter Tryz.func45, Tryz.ntmps45
  go_wp2_with fail
  go_loopg [8] ln (fun gh v wr => ∃ k : Nat, gh + k = ln ∧ v = .int .i64 k ∧ Keep (fun _ => False) w wr)
  case atStart => exact ⟨0, by omega, rfl, Keep.refl _ _⟩
  case round =>
    obtain ⟨k, hk, rfl, hkeep⟩ := hrel
    have HK := Lib.hid hkeep
    clear hkeep
    by_cases hlt : k < ln
    · obtain ⟨m, hm⟩ : ∃ m, l[k]? = some m := ⟨_, List.getElem?_eq_getElem (by have := HL.out; omega)⟩
      obtain rfl := HA.out (by have := HL.out; omega)
      have c0 := HK.out.cell (HC.out k m hm).1 (fun h => h)
      have c1 := HK.out.cell (HC.out k m hm).2.1 (fun h => h)
      have c2 := HK.out.cell (HC.out k m hm).2.2 (fun h => h)
      have hkz : (k : Int) < (ln : Int) := by omega
      have hk0 : (0 : Int) ≤ (k : Int) := by omega
      have HIS := Lib.hid (none1_any m wr)
      clear hm
      obtain ⟨x, y, z⟩ := m
      simp only [] at c0 c1 c2
      go_wp2_with fail
      clear c0 c1 c2
      refine HIS.out.mono ?_
      rintro e W2 ⟨rfl, k2⟩
      have HK2 := Lib.hid (HK.out.trans k2)
      clear k2 HIS
      go_wp2_with fail
      go_roundg (gk - 1)
      case rel => exact ⟨k + 1, by omega, by go_num, HK2.out⟩
      case measure => omega
    · go_wp2_with fail
      go_ret
      exact ⟨rfl, HK.out⟩
set_option maxRecDepth 100000 in
set_option maxHeartbeats 1000000 in
theorem deleteNone_any (a : Option Addr) (n c : Nat) (l : List Mb) (w : World) (h : Mbs w (.slice a n c) l) (hl : l.length ≤ 100000) : Calls Tryz.prog 52 #[.slice a n c, noneV] w fun e w' => e = .returned (.slice a n c) ∧ Keep (fun _ => False) w w' := by
  have HI := Lib.hid (indexNone_any _ l w h hl)
  clear h hl
  go_enter Tryz.func52, Tryz.ntmps52
  go_wp2_with fail
  with_reducible refine HI.out.mono ?_
  rintro e W1 ⟨rfl, k1⟩
  have HK := Lib.hid k1
  clear k1 HI
  go_wp2_with fail
  go_ret
  exact ⟨rfl, HK.out⟩

/-- A list with one more at its place, as a row of its own. -/
def EditPost (l : List Mb) (w : World) (e : Ending) (w' : World) : Prop := ∃ g c, e = .returned (.slice (some ⟨g, 0, none⟩) l.length c) ∧ w'.ownsRow w.heap.size 44 3 (.slice (some ⟨g, 0, none⟩) l.length c) l.length (flatB l) ∧ Keep (fun _ => False) w w'
/-- From the row without those that go, on. -/
theorem edited_rest {w W : World} {lo : Nat} (hlo : w.heap.size = lo) {a : Option Addr} {c : Nat} {l : List Mb} {m : Mb} {vm : Value} (hs : l.Pairwise (fun a b => a.node < b.node)) (hm : ∀ x ∈ l, x.node ≠ m.node) (hl : l.length ≤ 30)
    (h : W.ownsRow lo 44 3 (.slice a l.length c) l.length (flatB l)) (k : Keep (fun _ => False) w W) (hv : Mbs W vm [m]) :
    ∃ g c' W', (Builtin.append_ #[22, 22] 22 #[.slice a l.length c, vm]).run Tryz.prog W = .ok (.slice (some ⟨g, 0, none⟩) (l.length + 1) c') W' ∧
      Calls Tryz.prog 69 #[.slice (some ⟨g, 0, none⟩) (l.length + 1) c', byNodeV] W' fun e w' => e = .returned (.tuple #[]) ∧ EditPost (moreM l m) w (.returned (.slice (some ⟨g, 0, none⟩) (l.length + 1) c')) w' := by
  obtain ⟨v', W', r1, r2, r3⟩ := app_mbs0 W 22 lo (.slice a l.length c) vm l [m] h hv (by simp; omega) (by rw [← hlo]; exact k.size)
  rw [List.length_append] at r2
  change W'.ownsRow lo 44 3 v' (l.length + 1) (flatB (l ++ [m])) at r2
  obtain ⟨a', c', rfl⟩ := own_form r2
  obtain ⟨g, rfl⟩ := own_some' r2 (by omega)
  refine ⟨g, c', W', r1, ?_⟩
  refine (sortStable_any lo g c' l m W' hs hm hl r2).mono ?_
  rintro e w' ⟨rfl, ho, kk⟩
  have hg := (r2.lt g rfl).1
  have hle := moreM_len hs hm
  refine ⟨rfl, g, c', by rw [hle], by rw [hle, hlo]; exact ho, ?_⟩
  refine (k.trans' r3 (fun j e => .inr ?_)).trans' kk (fun j e => .inr ?_)
  · rw [hlo]; exact (h.lt j e).1
  · rw [hlo, show j = g from e]; exact hg
set_option maxRecDepth 100000 in
set_option maxHeartbeats 1000000 in
theorem editedJ_any (v vm : Value) (l : List Mb) (m : Mb) (w : World) (h : Mbs w v l) (hv : Mbs w vm [m]) (hs : l.Pairwise (fun a b => a.node < b.node)) (hm : ∀ x ∈ l, x.node ≠ m.node) (hl : l.length ≤ 30) :
    Calls Tryz.prog 48 #[v, noneV, byNodeV, vm] w (EditPost (moreM l m) w) := by
  have HC := Lib.hid (cloneM_any v l w h (by omega))
  have HV := Lib.hid hv
  have HS := Lib.hid hs
  have HM := Lib.hid hm
  have HBD := Lib.hid h.bd
  clear h hv hs hm
  go_enter Tryz.func48, Tryz.ntmps48
  go_wp2_with fail
  with_reducible refine HC.out.mono ?_
  rintro e W1 ⟨a, c, rfl, hown, k1⟩
  have HO := Lib.hid hown
  have HK := Lib.hid k1
  clear hown k1 HC
  go_wp2_with fail
  with_reducible refine (deleteNone_any a l.length c l W1 (mbs_owns HO.out (by omega) HBD.out) (by omega)).mono ?_
  rintro e W2 ⟨rfl, k2⟩
  obtain ⟨g, c', W3, hr, hsort⟩ := edited_rest rfl HS.out HM.out hl (ownsRow_keep HO.out k2 (fun _ _ h => h)) (HK.out.trans k2) (HV.out.kept (HK.out.trans k2))
  have HR := Lib.hid hr
  have HSO := Lib.hid hsort
  clear hr hsort k2 HK HO
  go_wp2_with (at_builtin; refine wpList_app rfl (.tmp 13) (.tmp 14) 22 rfl rfl rfl HR.out ?_)
  with_reducible refine HSO.out.mono ?_
  rintro e W4 ⟨rfl, hp⟩
  have HP := Lib.hid hp
  clear hp HSO HR
  go_wp2_with fail
  go_ret
  exact HP.out
set_option maxRecDepth 100000 in
set_option maxHeartbeats 1000000 in
theorem editedR_any (v vm : Value) (b : Nat) (n : Int) (l : List Mb) (m : Mb) (w : World) (h : Mbs w v l) (hb : w.cell? ⟨b, 0, none⟩ = some (.int .i64 n)) (hv : Mbs w vm [m]) (hs : l.Pairwise (fun a b => a.node < b.node)) (hm : ∀ x ∈ l, x.node ≠ m.node) (hl : l.length ≤ 30) :
    Calls Tryz.prog 48 #[v, isV b, byNodeV, vm] w (EditPost (moreM (l.filter (notN n)) m) w) := by
  have HC := Lib.hid (cloneM_any v l w h (by omega))
  have HV := Lib.hid hv
  have HS := Lib.hid hs
  have HM := Lib.hid hm
  have HB := Lib.hid hb
  have HBD := Lib.hid h.bd
  have HBL : Hid (b < w.heap.size) := Lib.hid (World.block_lt_of_cell? _ _ hb)
  clear h hv hs hm hb
  go_enter Tryz.func48, Tryz.ntmps48
  go_wp2_with fail
  with_reducible refine HC.out.mono ?_
  rintro e W1 ⟨a, c, rfl, hown, k1⟩
  have HO := Lib.hid hown
  have HK := Lib.hid k1
  clear hown k1 HC
  go_wp2_with fail
  with_reducible refine (deleteIs_any w.heap.size a c l b n W1 HO.out HBD.out (by omega) (HK.out.cell HB.out (fun h => h)) (fun e => by have := (HO.out.lt b e).1; have := HBL.out; omega)).mono ?_
  rintro e W2 ⟨rfl, hown2, k2⟩
  have hfl : (l.filter (notN n)).length ≤ 30 := Nat.le_trans (List.length_filter_le _ _) hl
  obtain ⟨g, c', W3, hr, hsort⟩ := edited_rest rfl (HS.out.sublist List.filter_sublist) (fun x hx => HM.out x (List.mem_filter.1 hx).1) hfl hown2 (HK.out.trans' k2 (fun j e => .inr (hown2.lt j e).1)) (HV.out.kept (HK.out.trans' k2 (fun j e => .inr (hown2.lt j e).1)))
  have HR := Lib.hid hr
  have HSO := Lib.hid hsort
  clear hr hsort k2 HK HO hown2
  go_wp2_with (at_builtin; refine wpList_app rfl (.tmp 13) (.tmp 14) 22 rfl rfl rfl HR.out ?_)
  with_reducible refine HSO.out.mono ?_
  rintro e W4 ⟨rfl, hp⟩
  have HP := Lib.hid hp
  clear hp HSO HR
  go_wp2_with fail
  go_ret
  exact HP.out
end Go.Proofs.YtiacdkggbnoigaaGreatDoor

/-
  Join of package reshard.
-/
namespace Go.Proofs.YtiacdkggbnoigaaGreatDoor
open Go.RowKit Go.Shelf

/-- A ring and OK, or none and ErrRing. -/
def RingRes (ok : Bool) (ep : Int) (l : List Mb) (ow : List Int) (w : World) (e : Ending) (w' : World) : Prop := ∃ (ep' : Int) (l' : List Mb) (ow' : List Int) (err : Int) (am : Option Addr) (nm cm : Nat) (ao : Option Addr) (no co : Nat),
  (ok = true → ep' = ep ∧ l' = l ∧ ow' = ow ∧ err = 0) ∧ (ok = false → ep' = 0 ∧ l' = [] ∧ ow' = [] ∧ err = 120) ∧ nm = l'.length ∧ no = ow'.length ∧
  e = .returned (.tuple #[.agg #[.int .i64 ep', .slice am nm cm, .slice ao no co], .int .i64 err]) ∧ w'.ownsRow w.heap.size 44 3 (.slice am nm cm) nm (flatB l') ∧ w'.ownsRow w.heap.size 3 1 (.slice ao no co) no (ow'.map (fun x => Value.int .i64 x)) ∧ Keep (fun _ => False) w w'
theorem RingRes.bad {ep : Int} {l : List Mb} {ow : List Int} {w : World} {e : Ending} {w' : World} (h : NewBad w e w') : RingRes false ep l ow w e w' :=
  ⟨0, [], [], 120, none, 0, 0, none, 0, 0, (fun h => by cases h), fun _ => ⟨rfl, rfl, rfl, rfl⟩, rfl, rfl, h.1, World.ownsRow_nil _ _ _ _, World.ownsRow_nil _ _ _ _, h.2⟩
theorem RingRes.ok' {ep : Int} {l : List Mb} {ow : List Int} {w : World} {e : Ending} {w' : World} (h : RingPost ep l ow w e w') : RingRes true ep l ow w e w' := by
  obtain ⟨am, cm, ao, co, h1, h2, h3, h4⟩ := h
  exact ⟨ep, l, ow, 0, am, _, cm, ao, _, co, fun _ => ⟨rfl, rfl, rfl, rfl⟩, (fun h => by cases h), rfl, rfl, h1, h2, h3, h4⟩
/-- Whether Change accepts. -/
def chOk (ep : Int) (lr l : List Mb) (ow : List Int) : Bool := validRB ep lr ow && (validL l && decide (ep < 1000000))
theorem changeU (v vl : Value) (ep : Int) (lr l : List Mb) (ow : List Int) (w : World) (h : Rng w v ep lr ow) (hl : Mbs w vl l) (hT : Tab w) : Calls Tryz.prog 8 #[v, vl] w (RingRes (chOk ep lr l ow) (ep + 1) l (changeL PN QS l ow) w) := by
  unfold chOk
  cases h1 : validRB ep lr ow with
  | false => exact (changeR_bad v vl ep lr l ow w h hl (.inl h1)).mono (fun _ _ => RingRes.bad)
  | true =>
    cases h2 : validL l with
    | false => exact (changeR_bad v vl ep lr l ow w h hl (.inr (.inl h2))).mono (fun _ _ => RingRes.bad)
    | true =>
      by_cases h3 : ep < 1000000
      · rw [decide_eq_true h3]
        exact (changeR_ok v vl ep lr l ow w h h1 h3 hl ((validL_iff l).1 h2) hT).mono (fun _ _ => RingRes.ok')
      · rw [decide_eq_false h3]
        exact (changeR_bad v vl ep lr l ow w h hl (.inr (.inr (by omega)))).mono (fun _ _ => RingRes.bad)
def hasN (l : List Mb) (n : Int) : Bool := l.any (fun m => decide (m.node = n))
theorem hasN_false {l : List Mb} {n : Int} (h : hasN l n = false) : ∀ x ∈ l, x.node ≠ n := fun x hx => by
  unfold hasN at h
  rw [List.any_eq_false] at h
  simpa using h x hx
/-- Whether Join accepts. -/
def joinOk (ep : Int) (lr : List Mb) (ow : List Int) (m : Mb) : Bool := !hasN lr m.node && chOk ep lr (moreM lr m) ow

set_option maxRecDepth 100000 in
set_option maxHeartbeats 8000000 in
theorem join_any (v : Value) (ep : Int) (lr : List Mb) (ow : List Int) (m : Mb) (w : World) (h : Rng w v ep lr ow) (hm : I64 m.node ∧ I64 m.region ∧ I64 m.weight) (hl : lr.length ≤ 30) (hT : Tab w) : Calls Tryz.prog 21 #[v, mbV m] w (RingRes (joinOk ep lr ow m) (ep + 1) (moreM lr m) (changeL PN QS (moreM lr m) ow) w) := by
  have HRG := Lib.hid h
  have HT := Lib.hid hT
  have HMI := Lib.hid hm
  obtain ⟨hb0, vm, vo, rfl, hm0, ho0⟩ := h
  have HML := Lib.hid hm0
  obtain ⟨ma, mn, mc, rfl⟩ : ∃ a n c, vm = .slice a n c := by obtain ⟨a, c, b, off, h, _⟩ := hm0.at_; exact ⟨_, _, _, h⟩
  obtain ⟨oa, on, oc, rfl⟩ : ∃ a n c, vo = .slice a n c := by obtain ⟨a, c, b, off, h, _⟩ := ho0.at_; exact ⟨_, _, _, h⟩
  clear hm0 hb0 ho0 hT hm
  obtain ⟨m0, m1, m2⟩ := m
  simp only [mbV] at HMI ⊢
  obtain ⟨mb, hmb⟩ : ∃ mb : Mb, (⟨m0, m1, m2⟩ : Mb) = mb := ⟨_, rfl⟩
  have HMB := Lib.hid hmb
  have HX := Lib.hid (Box3.new w (.int .i64 ep) (.slice ma mn mc) (.slice oa on oc) 25)
  have HY := Lib.hid (Box3.new (w.alloc (.cells #[.int .i64 ep, .slice ma mn mc, .slice oa on oc] 25)) (.int .i64 m0) (.int .i64 m1) (.int .i64 m2) 44)
  have HU := Lib.hid (Box3.new ((w.alloc (.cells #[.int .i64 ep, .slice ma mn mc, .slice oa on oc] 25)).alloc (.cells #[.int .i64 m0, .int .i64 m1, .int .i64 m2] 44)) (.int .i64 0) (.slice none 0 0) (.slice none 0 0) 25)
  have k1 : Keep (fun _ => False) w (w.alloc (.cells #[.int .i64 ep, .slice ma mn mc, .slice oa on oc] 25)) := (Keep.refl _ w).alloc _
  have k2 : Keep (fun _ => False) (w.alloc (.cells #[.int .i64 ep, .slice ma mn mc, .slice oa on oc] 25)) ((w.alloc (.cells #[.int .i64 ep, .slice ma mn mc, .slice oa on oc] 25)).alloc (.cells #[.int .i64 m0, .int .i64 m1, .int .i64 m2] 44)) := (Keep.refl _ _).alloc _
  have k3 : Keep (fun _ => False) ((w.alloc (.cells #[.int .i64 ep, .slice ma mn mc, .slice oa on oc] 25)).alloc (.cells #[.int .i64 m0, .int .i64 m1, .int .i64 m2] 44)) (((w.alloc (.cells #[.int .i64 ep, .slice ma mn mc, .slice oa on oc] 25)).alloc (.cells #[.int .i64 m0, .int .i64 m1, .int .i64 m2] 44)).alloc (.cells #[.int .i64 0, .slice none 0 0, .slice none 0 0] 25)) := (Keep.refl _ _).alloc _
  have HX0 := Lib.hid (HX.out.kept (k2.trans k3))
  have HY0 := Lib.hid (HY.out.kept k3)
  have HK0 := Lib.hid (k1.trans (k2.trans k3))
  simp only [World.size_alloc] at HY0 HU
  clear k1 k2 k3 HX HY
  go_enter Tryz.func21, Tryz.ntmps21
  go_wp2_with fail
  generalize ((w.alloc (.cells #[.int .i64 ep, .slice ma mn mc, .slice oa on oc] 25)).alloc (.cells #[.int .i64 m0, .int .i64 m1, .int .i64 m2] 44)).alloc (.cells #[.int .i64 0, .slice none 0 0, .slice none 0 0] 25) = W0 at *
  generalize hz : w.heap.size = z at HX0 HY0 HU ⊢
  have HZ := Lib.hid hz
  clear hz
  obtain ⟨hc, hhc⟩ : ∃ b, hasN lr m0 = b := ⟨_, rfl⟩
  have HHC := Lib.hid hhc
  clear hhc
  have x1 : ∀ p : KA (fun _ => False) W0, p.val.cell? ⟨z, 1, none⟩ = some (.slice ma mn mc) := fun p => (HX0.out.kept p.k).2.1
  have y0 : ∀ p : KA (fun _ => False) W0, p.val.cell? ⟨z + 1, 0, none⟩ = some (.int .i64 m0) := fun p => (HY0.out.kept p.k).1
  refine wp_region_walk [(true, 0), (true, 1), (true, 2), (true, 3), (false, 4), (false, 5), (false, 6), (false, 7), (false, 8), (false, 9), (false, 10)] (inKA (fun _ => False) W0) (by kernel_rfl) (by kernel_rfl) ?_
  iterate 4 (refine walkW_read rfl (fun K hK => ?_); go_simp; refine hK _ ?_; clear hK K)
  clear x1 y0
  have HKD : Hid (Keep (fun _ => False) W0 W0.drew) := Lib.hid (Keep.refl _ W0).drew
  have HIS := Lib.hid (is_any m0 W0.drew)
  generalize W0.drew = W1 at *
  refine walkW_do rfl (inKA.of HKD.out) (fun K hK => ?_)
  go_simp
  refine HIS.out.mono ?_
  rintro e W2 ⟨rfl, hcell, k2, -⟩
  refine hK _ _ ?_; clear hK K
  have HK2 := Lib.hid (HKD.out.trans k2)
  have hci := containsIs_any _ lr W1.heap.size m0 W2 (HML.out.kept (HK0.out.trans HK2.out)) hcell (by omega)
  rw [show (lr.any fun m => decide (m.node = m0)) = hc from HHC.out] at hci
  have HCI := Lib.hid hci
  clear hci hcell k2 HIS
  generalize W1.heap.size = b1 at *
  refine walkW_do rfl (inKA.of HK2.out) (fun K hK => ?_)
  go_simp
  refine HCI.out.mono ?_
  rintro e W3 ⟨rfl, k3⟩
  refine hK _ _ ?_; clear hK K
  have HK3 := Lib.hid (HK2.out.trans k3)
  clear k3 HCI
  refine walkW_do rfl (inKA.of HK3.out) (fun K hK => ?_)
  go_simp
  refine hK _ _ ?_; clear hK K
  have FIN : Hid (∀ W, Hid (Keep (fun _ => False) W0 W) → Hid (Box3 (((W.setCell ⟨z + 1 + 1, 0, none⟩ (.int .i64 0)).setCell ⟨z + 1 + 1, 1, none⟩ (.slice none 0 0)).setCell ⟨z + 1 + 1, 2, none⟩ (.slice none 0 0)) (z + 1 + 1) (.int .i64 0) (.slice none 0 0) (.slice none 0 0) ∧ Keep (fun _ => False) w (((W.setCell ⟨z + 1 + 1, 0, none⟩ (.int .i64 0)).setCell ⟨z + 1 + 1, 1, none⟩ (.slice none 0 0)).setCell ⟨z + 1 + 1, 2, none⟩ (.slice none 0 0)))) := Lib.hid (fun W k =>
    Lib.hid ⟨(((HU.out.kept k.out).set0 _).set1 _).set2 _, (HK0.out.trans k.out).trans' ((((Keep.refl (fun j => j = z + 1 + 1) W).setCell (p := ⟨z + 1 + 1, 0, none⟩) _ (.inl rfl)).setCell (p := ⟨z + 1 + 1, 1, none⟩) _ (.inl rfl)).setCell (p := ⟨z + 1 + 1, 2, none⟩) _ (.inl rfl)) (fun j e => .inr (by have h5 : j = z + 1 + 1 := e; have := HZ.out; omega))⟩)
  cases hc with
  | true =>
    have HJ : Hid (joinOk ep lr ow ⟨m0, m1, m2⟩ = false) := Lib.hid (by unfold joinOk; rw [show hasN lr (⟨m0, m1, m2⟩ : Mb).node = true from HHC.out]; rfl)
    iterate 4 (refine walkW_do rfl (inKA.of HK3.out) (fun K hK => ?_); go_simp; refine hK _ _ ?_; clear hK K)
    refine ⟨inKA.of HK3.out, ?_⟩
    obtain ⟨u0, u1, u2, uf⟩ := (HU.out.kept HK3.out)
    go_upto_region 2 with (fail)
    go_wp2_with fail
    clear u0 u1 u2 uf
    obtain ⟨⟨g0, g1, g2, -⟩, kf⟩ := (FIN.out W3 HK3).out
    generalize ((W3.setCell ⟨z + 1 + 1, 0, none⟩ (.int .i64 0)).setCell ⟨z + 1 + 1, 1, none⟩ (.slice none 0 0)).setCell ⟨z + 1 + 1, 2, none⟩ (.slice none 0 0) = WF at *
    refine bodyPost_ret (v := .tuple #[ringV 0 (.slice none 0 0) (.slice none 0 0), .int .i64 120]) (by simp [results, Tryz.results21, go_sem, g0, g1, g2]) rfl ?_
    rw [← HMB.out, HJ.out]
    exact RingRes.bad ⟨rfl, kf⟩
  | false =>
    obtain ⟨vr, hvr⟩ : ∃ b, validRB ep lr ow = b := ⟨_, rfl⟩
    have HVR := Lib.hid hvr
    have hvc := validRing_any _ ep lr ow W3 (HRG.out.kept (HK0.out.trans HK3.out))
    rw [hvr] at hvc
    have HVC := Lib.hid hvc
    clear hvc hvr
    obtain ⟨x0, x1, x2, -⟩ := HX0.out.kept HK3.out
    refine walkW_do rfl (inKA.of HK3.out) (fun K hK => ?_)
    go_simp
    refine hK _ _ ?_; clear hK K
    clear x0 x1 x2
    refine walkW_do rfl (inKA.of HK3.out) (fun K hK => ?_)
    go_simp
    refine HVC.out.mono ?_
    rintro e W4 ⟨rfl, k4⟩
    refine hK _ _ ?_; clear hK K
    have HK4 := Lib.hid (HK3.out.trans k4)
    clear k4 HVC
    iterate 2 (refine walkW_do rfl (inKA.of HK4.out) (fun K hK => ?_); go_simp; refine hK _ _ ?_; clear hK K)
    refine ⟨inKA.of HK4.out, ?_⟩
    cases vr with
    | false =>
      have HJ : Hid (joinOk ep lr ow ⟨m0, m1, m2⟩ = false) := Lib.hid (by
        unfold joinOk chOk
        rw [HVR.out]
        simp)
      obtain ⟨u0, u1, u2, uf⟩ := (HU.out.kept HK4.out)
      go_upto_region 2 with (fail)
      go_wp2_with fail
      clear u0 u1 u2 uf
      obtain ⟨⟨g0, g1, g2, -⟩, kf⟩ := (FIN.out W4 HK4).out
      generalize ((W4.setCell ⟨z + 1 + 1, 0, none⟩ (.int .i64 0)).setCell ⟨z + 1 + 1, 1, none⟩ (.slice none 0 0)).setCell ⟨z + 1 + 1, 2, none⟩ (.slice none 0 0) = WF at *
      refine bodyPost_ret (v := .tuple #[ringV 0 (.slice none 0 0) (.slice none 0 0), .int .i64 120]) (by simp [results, Tryz.results21, go_sem, g0, g1, g2]) rfl ?_
      rw [← HMB.out, HJ.out]
      exact RingRes.bad ⟨rfl, kf⟩
    | true =>
      have HOK := Lib.hid ((validRB_iff ep lr ow).1 HVR.out)
      have HJ : Hid (joinOk ep lr ow ⟨m0, m1, m2⟩ = chOk ep lr (moreM lr mb) ow) := Lib.hid (by
        unfold joinOk
        rw [show hasN lr (⟨m0, m1, m2⟩ : Mb).node = false from HHC.out, HMB.out]
        rfl)
      have HNM : Hid (∀ x ∈ lr, x.node ≠ mb.node) := Lib.hid (by rw [← HMB.out]; exact hasN_false HHC.out)
      have HX4 := Lib.hid (HX0.out.kept HK4.out)
      have HY4 := Lib.hid (HY0.out.kept HK4.out)
      have HU4 := Lib.hid (HU.out.kept HK4.out)
      have HKW4 := Lib.hid (HK0.out.trans HK4.out)
      clear HX0 HY0 HU HK3 HK4 HK2 HKD FIN
      have x0 : ∀ p : KA (fun j => j = z + 1 + 1) W4, p.val.cell? ⟨z, 0, none⟩ = some (.int .i64 ep) := fun p => (HX4.out.keep p.k (by omega)).1
      have x1 : ∀ p : KA (fun j => j = z + 1 + 1) W4, p.val.cell? ⟨z, 1, none⟩ = some (.slice ma mn mc) := fun p => (HX4.out.keep p.k (by omega)).2.1
      have x2 : ∀ p : KA (fun j => j = z + 1 + 1) W4, p.val.cell? ⟨z, 2, none⟩ = some (.slice oa on oc) := fun p => (HX4.out.keep p.k (by omega)).2.2.1
      go_upto_region 3 with (fail)
      refine wp_region_walk [(true, 0), (true, 1), (true, 2), (false, 3), (false, 4), (false, 5), (false, 6), (true, 7), (false, 8), (false, 9), (false, 10)] (inKA (fun j => j = z + 1 + 1) W4) (by kernel_rfl) (by kernel_rfl) ?_
      iterate 3 (refine walkW_read rfl (fun K hK => ?_); go_simp; refine hK _ ?_; clear hK K)
      clear x0 x1 x2
      have HKD : Hid (Keep (fun _ => False) W4 W4.drew) := Lib.hid (Keep.refl _ W4).drew
      obtain ⟨y0, y1, y2, -⟩ := HY4.out.kept HKD.out
      generalize W4.drew = W5 at *
      refine walkW_do rfl (inKA.of (HKD.out.mono (fun _ h => h.elim))) (fun K hK => ?_)
      go_simp
      refine hK _ _ ?_; clear hK K
      clear y0 y1 y2
      have HVM : Hid (Mbs (W5.alloc (.cells #[.int .i64 m0, .int .i64 m1, .int .i64 m2] 44)) (.slice (some ⟨W5.heap.size, 0, none⟩) 1 1) [mb]) := Lib.hid (by
        obtain ⟨t0, t1, t2, -⟩ := Box3.new W5 (.int .i64 m0) (.int .i64 m1) (.int .i64 m2) 44
        refine ⟨by simp, fun x hx => ?_, some ⟨W5.heap.size, 0, none⟩, 1, W5.heap.size, 0, rfl, by simp, fun _ => rfl, fun j x hj => ?_⟩
        · simp only [List.mem_singleton] at hx
          rw [hx, ← HMB.out]
          exact HMI.out
        · rcases j with _ | j
          · simp only [List.getElem?_cons_zero, Option.some.injEq] at hj
            rw [← hj, ← HMB.out]
            exact ⟨t0, t1, t2⟩
          · simp at hj)
      have HKA : Hid (Keep (fun _ => False) W4 (W5.alloc (.cells #[.int .i64 m0, .int .i64 m1, .int .i64 m2] 44))) := Lib.hid (HKD.out.alloc _)
      refine walkW_do rfl (inKA.of (HKD.out.mono (fun _ h => h.elim))) (fun K hK => ?_)
      go_simp
      refine hK _ _ ?_; clear hK K
      generalize W5.alloc (.cells #[.int .i64 m0, .int .i64 m1, .int .i64 m2] 44) = W6 at *
      generalize W5.heap.size = zv at *
      have HED := Lib.hid (editedJ_any _ _ lr mb W6 (HML.out.kept (HKW4.out.trans HKA.out)) HVM.out HOK.out.2.2.1.asc HNM.out hl)
      refine walkW_do rfl (inKA.of (HKA.out.mono (fun _ h => h.elim))) (fun K hK => ?_)
      go_simp
      refine HED.out.mono ?_
      rintro e W7 ⟨g, c, rfl, hown, k7⟩
      refine hK _ _ ?_; clear hK K
      have HK7 := Lib.hid (HKA.out.trans k7)
      have HMM : Hid (Mbs W7 (.slice (some ⟨g, 0, none⟩) (moreM lr mb).length c) (moreM lr mb)) := Lib.hid (mbs_owns hown (by rw [moreM_len HOK.out.2.2.1.asc HNM.out]; omega) (by
        intro x hx
        unfold moreM at hx
        rcases List.mem_append.1 hx with hx | hx
        · exact HML.out.bd x (List.mem_filter.1 hx).1
        · rcases List.mem_cons.1 hx with hx | hx
          · rw [hx, ← HMB.out]; exact HMI.out
          · exact HML.out.bd x (List.mem_filter.1 hx).1))
      clear hown k7 HED HVM HKA HKD
      have HCH := Lib.hid (changeU _ _ ep lr (moreM lr mb) ow W7 (HRG.out.kept (HKW4.out.trans HK7.out)) HMM.out (HT.out.kept (HKW4.out.trans HK7.out)))
      generalize (moreM lr mb).length = nl at *
      refine walkW_do rfl (inKA.of (HK7.out.mono (fun _ h => h.elim))) (fun K hK => ?_)
      go_simp
      refine HCH.out.mono ?_
      rintro e W8 ⟨ep', l', ow', err, am, nm, cm, ao, no, co, q1, q2, q3, q4, rfl, r1, r2, k8⟩
      refine hK _ _ ?_; clear hK K
      have HK8 := Lib.hid (HK7.out.trans k8)
      have HR1 := Lib.hid r1
      have HR2 := Lib.hid r2
      have HQ := Lib.hid (And.intro q1 (And.intro q2 (And.intro q3 q4)))
      have HS7 : Hid (w.heap.size ≤ W7.heap.size ∧ z + 1 + 1 < W7.heap.size) := Lib.hid ⟨Nat.le_trans HKW4.out.size HK7.out.size, Nat.lt_of_lt_of_le HU4.out.lt HK7.out.size⟩
      clear q1 q2 q3 q4 r1 r2 k8 HCH
      refine walkW_read rfl (fun K hK => ?_)
      go_simp
      refine hK _ ?_; clear hK K
      refine walkW_do rfl (inKA.of (HK8.out.mono (fun _ h => h.elim))) (fun K hK => ?_)
      go_simp
      refine hK _ _ ?_; clear hK K
      have HU8 := Lib.hid (HU4.out.kept HK8.out)
      obtain ⟨u0, u1, u2, uf⟩ := HU8.out
      refine walkW_do rfl (inKA.of (HK8.out.mono (fun _ h => h.elim))) (fun K hK => ?_)
      go_simp
      refine hK _ _ ?_; clear hK K
      clear u0 u1 u2 uf
      have kq : Keep (fun j => j = z + 1 + 1) W8 (((W8.setCell ⟨z + 1 + 1, 0, none⟩ (.int .i64 ep')).setCell ⟨z + 1 + 1, 1, none⟩ (.slice am nm cm)).setCell ⟨z + 1 + 1, 2, none⟩ (.slice ao no co)) := (((Keep.refl (fun j => j = z + 1 + 1) W8).setCell (p := ⟨z + 1 + 1, 0, none⟩) _ (.inl rfl)).setCell (p := ⟨z + 1 + 1, 1, none⟩) _ (.inl rfl)).setCell (p := ⟨z + 1 + 1, 2, none⟩) _ (.inl rfl)
      have HU9 := Lib.hid (((HU8.out.set0 (.int .i64 ep')).set1 (.slice am nm cm)).set2 (.slice ao no co))
      have HR19 := Lib.hid (ownsRow_keep HR1.out kq (fun b hb e => by have h5 : b = z + 1 + 1 := e; have := (HR1.out.lt b hb).1; have := HS7.out; omega))
      have HR29 := Lib.hid (ownsRow_keep HR2.out kq (fun b hb e => by have h5 : b = z + 1 + 1 := e; have := (HR2.out.lt b hb).1; have := HS7.out; omega))
      have HK9 : Hid (Keep (fun j => j = z + 1 + 1) W4 (((W8.setCell ⟨z + 1 + 1, 0, none⟩ (.int .i64 ep')).setCell ⟨z + 1 + 1, 1, none⟩ (.slice am nm cm)).setCell ⟨z + 1 + 1, 2, none⟩ (.slice ao no co))) := Lib.hid ((HK8.out.mono (fun _ h => h.elim)).trans kq)
      have HF9 : Hid (Keep (fun _ => False) w (((W8.setCell ⟨z + 1 + 1, 0, none⟩ (.int .i64 ep')).setCell ⟨z + 1 + 1, 1, none⟩ (.slice am nm cm)).setCell ⟨z + 1 + 1, 2, none⟩ (.slice ao no co))) := Lib.hid ((HKW4.out.trans HK8.out).trans' kq (fun j e => .inr (by have h5 : j = z + 1 + 1 := e; have := HZ.out; omega)))
      clear kq
      generalize ((W8.setCell ⟨z + 1 + 1, 0, none⟩ (.int .i64 ep')).setCell ⟨z + 1 + 1, 1, none⟩ (.slice am nm cm)).setCell ⟨z + 1 + 1, 2, none⟩ (.slice ao no co) = W9 at *
      refine walkW_do rfl (inKA.of HK9.out) (fun K hK => ?_)
      go_simp
      refine hK _ _ ?_; clear hK K
      refine ⟨inKA.of HK9.out, ?_⟩
      go_wp2_with fail
      obtain ⟨g0, g1, g2, -⟩ := HU9.out
      refine bodyPost_ret (v := .tuple #[.agg #[.int .i64 ep', .slice am nm cm, .slice ao no co], .int .i64 err]) (by simp [results, Tryz.results21, go_sem, g0, g1, g2]) rfl ?_
      rw [HJ.out, HMB.out]
      exact ⟨ep', l', ow', err, am, nm, cm, ao, no, co, HQ.out.1, HQ.out.2.1, HQ.out.2.2.1, HQ.out.2.2.2, rfl, ownsRow_lo HR19.out HS7.out.1, ownsRow_lo HR29.out HS7.out.1, HF9.out⟩
end Go.Proofs.YtiacdkggbnoigaaGreatDoor

/-
  Leave of package reshard.
-/
namespace Go.Proofs.YtiacdkggbnoigaaGreatDoor
open Go.RowKit Go.Shelf

/-- Whether Leave accepts. -/
def leaveOk (ep : Int) (lr : List Mb) (ow : List Int) (n : Int) : Bool := hasN lr n && chOk ep lr (lr.filter (notN n)) ow
set_option maxRecDepth 100000 in
set_option maxHeartbeats 8000000 in
theorem leave_any (v : Value) (ep : Int) (lr : List Mb) (ow : List Int) (n : Int) (w : World) (h : Rng w v ep lr ow) (hl : lr.length ≤ 1000) (hT : Tab w) : Calls Tryz.prog 12 #[v, .int .i64 n] w (RingRes (leaveOk ep lr ow n) (ep + 1) (lr.filter (notN n)) (changeL PN QS (lr.filter (notN n)) ow) w) := by
  have HRG := Lib.hid h
  have HT := Lib.hid hT
  obtain ⟨hb0, vm, vo, rfl, hm0, ho0⟩ := h
  have HML := Lib.hid hm0
  obtain ⟨ma, mn, mc, rfl⟩ : ∃ a n c, vm = .slice a n c := by obtain ⟨a, c, b, off, h, _⟩ := hm0.at_; exact ⟨_, _, _, h⟩
  obtain ⟨oa, on, oc, rfl⟩ : ∃ a n c, vo = .slice a n c := by obtain ⟨a, c, b, off, h, _⟩ := ho0.at_; exact ⟨_, _, _, h⟩
  clear hm0 hb0 ho0 hT
  have HX := Lib.hid (Box3.new w (.int .i64 ep) (.slice ma mn mc) (.slice oa on oc) 25)
  have HU := Lib.hid (Box3.new (w.alloc (.cells #[.int .i64 ep, .slice ma mn mc, .slice oa on oc] 25)) (.int .i64 0) (.slice none 0 0) (.slice none 0 0) 25)
  have k1 : Keep (fun _ => False) w (w.alloc (.cells #[.int .i64 ep, .slice ma mn mc, .slice oa on oc] 25)) := (Keep.refl _ w).alloc _
  have k3 : Keep (fun _ => False) (w.alloc (.cells #[.int .i64 ep, .slice ma mn mc, .slice oa on oc] 25)) ((w.alloc (.cells #[.int .i64 ep, .slice ma mn mc, .slice oa on oc] 25)).alloc (.cells #[.int .i64 0, .slice none 0 0, .slice none 0 0] 25)) := (Keep.refl _ _).alloc _
  have HX0 := Lib.hid (HX.out.kept k3)
  have HK0 := Lib.hid (k1.trans k3)
  simp only [World.size_alloc] at HU
  clear k1 k3 HX
  go_enter Tryz.func12, Tryz.ntmps12
  go_wp2_with fail
  generalize (w.alloc (.cells #[.int .i64 ep, .slice ma mn mc, .slice oa on oc] 25)).alloc (.cells #[.int .i64 0, .slice none 0 0, .slice none 0 0] 25) = W0 at *
  generalize hz : w.heap.size = z at HX0 HU ⊢
  have HZ := Lib.hid hz
  clear hz
  obtain ⟨hc, hhc⟩ : ∃ b, hasN lr n = b := ⟨_, rfl⟩
  have HHC := Lib.hid hhc
  clear hhc
  have x1 : ∀ p : KA (fun _ => False) W0, p.val.cell? ⟨z, 1, none⟩ = some (.slice ma mn mc) := fun p => (HX0.out.kept p.k).2.1
  refine wp_region_walk [(true, 0), (true, 1), (false, 2), (false, 3), (false, 4), (false, 5)] (inKA (fun _ => False) W0) (by kernel_rfl) (by kernel_rfl) ?_
  iterate 2 (refine walkW_read rfl (fun K hK => ?_); go_simp; refine hK _ ?_; clear hK K)
  clear x1
  have HKD : Hid (Keep (fun _ => False) W0 W0.drew) := Lib.hid (Keep.refl _ W0).drew
  have HIS := Lib.hid (is_any n W0.drew)
  generalize W0.drew = W1 at *
  refine walkW_do rfl (inKA.of HKD.out) (fun K hK => ?_)
  go_simp
  refine hK _ _ ?_; clear hK K
  refine walkW_do rfl (inKA.of HKD.out) (fun K hK => ?_)
  go_simp
  refine HIS.out.mono ?_
  rintro e W2 ⟨rfl, hcell, k2, -⟩
  refine hK _ _ ?_; clear hK K
  have HK2 := Lib.hid (HKD.out.trans k2)
  have hci := containsIs_any _ lr W1.heap.size n W2 (HML.out.kept (HK0.out.trans HK2.out)) hcell (by omega)
  rw [show (lr.any fun m => decide (m.node = n)) = hc from HHC.out] at hci
  have HCI := Lib.hid hci
  clear hci hcell k2 HIS
  generalize W1.heap.size = b1 at *
  refine walkW_do rfl (inKA.of HK2.out) (fun K hK => ?_)
  go_simp
  refine HCI.out.mono ?_
  rintro e W3 ⟨rfl, k3⟩
  refine hK _ _ ?_; clear hK K
  have HK3 := Lib.hid (HK2.out.trans k3)
  clear k3 HCI
  refine walkW_do rfl (inKA.of HK3.out) (fun K hK => ?_)
  go_simp
  refine hK _ _ ?_; clear hK K
  refine ⟨inKA.of HK3.out, ?_⟩
  cases hc with
  | false =>
    have HJ : Hid (leaveOk ep lr ow n = false) := Lib.hid (by unfold leaveOk; rw [HHC.out]; rfl)
    have HU3 := Lib.hid (HU.out.kept HK3.out)
    obtain ⟨u0, u1, u2, uf⟩ := HU3.out
    go_upto_region 2 with (fail)
    go_wp2_with fail
    clear u0 u1 u2 uf
    have HU9 := Lib.hid (((HU3.out.set0 (.int .i64 0)).set1 (.slice none 0 0)).set2 (.slice none 0 0))
    have HF9 : Hid (Keep (fun _ => False) w (((W3.setCell ⟨z + 1, 0, none⟩ (.int .i64 0)).setCell ⟨z + 1, 1, none⟩ (.slice none 0 0)).setCell ⟨z + 1, 2, none⟩ (.slice none 0 0))) := Lib.hid ((HK0.out.trans HK3.out).trans' ((((Keep.refl (fun j => j = z + 1) W3).setCell (p := ⟨z + 1, 0, none⟩) _ (.inl rfl)).setCell (p := ⟨z + 1, 1, none⟩) _ (.inl rfl)).setCell (p := ⟨z + 1, 2, none⟩) _ (.inl rfl)) (fun j e => .inr (by have h5 : j = z + 1 := e; have := HZ.out; omega)))
    generalize ((W3.setCell ⟨z + 1, 0, none⟩ (.int .i64 0)).setCell ⟨z + 1, 1, none⟩ (.slice none 0 0)).setCell ⟨z + 1, 2, none⟩ (.slice none 0 0) = WF at *
    obtain ⟨g0, g1, g2, -⟩ := HU9.out
    refine bodyPost_ret (v := .tuple #[ringV 0 (.slice none 0 0) (.slice none 0 0), .int .i64 120]) (by simp [results, Tryz.results12, go_sem, g0, g1, g2]) rfl ?_
    rw [HJ.out]
    exact RingRes.bad ⟨rfl, HF9.out⟩
  | true =>
    have HJ : Hid (leaveOk ep lr ow n = chOk ep lr (lr.filter (notN n)) ow) := Lib.hid (by unfold leaveOk; rw [HHC.out]; rfl)
    have HX4 := Lib.hid (HX0.out.kept HK3.out)
    have HU4 := Lib.hid (HU.out.kept HK3.out)
    have HKW4 := Lib.hid (HK0.out.trans HK3.out)
    clear HX0 HU HK3 HK2 HKD
    have x0 : ∀ p : KA (fun j => j = z + 1) W3, p.val.cell? ⟨z, 0, none⟩ = some (.int .i64 ep) := fun p => (HX4.out.keep p.k (by omega)).1
    have x1 : ∀ p : KA (fun j => j = z + 1) W3, p.val.cell? ⟨z, 1, none⟩ = some (.slice ma mn mc) := fun p => (HX4.out.keep p.k (by omega)).2.1
    have x2 : ∀ p : KA (fun j => j = z + 1) W3, p.val.cell? ⟨z, 2, none⟩ = some (.slice oa on oc) := fun p => (HX4.out.keep p.k (by omega)).2.2.1
    go_upto_region 3 with (fail)
    refine wp_region_walk [(true, 0), (true, 1), (true, 2), (true, 4), (false, 3), (false, 5), (false, 6), (false, 7), (true, 8), (false, 9), (false, 10), (false, 11)] (inKA (fun j => j = z + 1) W3) (by kernel_rfl) (by kernel_rfl) ?_
    iterate 4 (refine walkW_read rfl (fun K hK => ?_); go_simp; refine hK _ ?_; clear hK K)
    clear x0 x1 x2
    have HKD : Hid (Keep (fun _ => False) W3 W3.drew) := Lib.hid (Keep.refl _ W3).drew
    generalize W3.drew = W5 at *
    have HCL := Lib.hid (cloneM_any _ lr W5 (HML.out.kept (HKW4.out.trans HKD.out)) hl)
    refine walkW_do rfl (inKA.of (HKD.out.mono (fun _ h => h.elim))) (fun K hK => ?_)
    go_simp
    refine HCL.out.mono ?_
    rintro e W6 ⟨ca, cc, rfl, hown, k6⟩
    refine hK _ _ ?_; clear hK K
    have HO6 := Lib.hid hown
    have HK6 := Lib.hid (HKD.out.trans k6)
    clear hown k6 HCL
    have HI6 := Lib.hid (is_any n W6)
    refine walkW_do rfl (inKA.of (HK6.out.mono (fun _ h => h.elim))) (fun K hK => ?_)
    go_simp
    refine HI6.out.mono ?_
    rintro e W7 ⟨rfl, hcell, k7, -⟩
    refine hK _ _ ?_; clear hK K
    have HK7 := Lib.hid (HK6.out.trans k7)
    have HDL := Lib.hid (deleteIs_any W5.heap.size ca cc lr W6.heap.size n W7 (ownsRow_keep HO6.out k7 (fun _ _ h => h)) HML.out.bd (by omega) hcell (fun e => by have := (HO6.out.lt _ e).2; omega))
    clear hcell k7 HI6
    generalize W6.heap.size = b6 at *
    have hff : (lr.filter (notN n)).length ≤ lr.length := List.length_filter_le _ _
    refine walkW_do rfl (inKA.of (HK7.out.mono (fun _ h => h.elim))) (fun K hK => ?_)
    go_simp
    refine HDL.out.mono ?_
    rintro e W8 ⟨rfl, hown8, k8⟩
    refine hK _ _ ?_; clear hK K
    have HK8 := Lib.hid (HK7.out.trans' k8 (fun j e => .inr (by have := (hown8.lt j e).1; have := HKD.out.size; omega)))
    have HM8 : Hid (Mbs W8 (.slice ca (lr.filter (notN n)).length cc) (lr.filter (notN n))) := Lib.hid (mbs_owns hown8 (by omega) (fun x hx => HML.out.bd x (List.mem_filter.1 hx).1))
    clear hown8 k8 HDL HK7 HK6 HO6
    have HCH := Lib.hid (changeU _ _ ep lr (lr.filter (notN n)) ow W8 (HRG.out.kept (HKW4.out.trans HK8.out)) HM8.out (HT.out.kept (HKW4.out.trans HK8.out)))
    generalize (lr.filter (notN n)).length = nl at *
    refine walkW_do rfl (inKA.of (HK8.out.mono (fun _ h => h.elim))) (fun K hK => ?_)
    go_simp
    refine HCH.out.mono ?_
    rintro e W9 ⟨ep', l', ow', err, am, nm, cm, ao, no, co, q1, q2, q3, q4, rfl, r1, r2, k9⟩
    refine hK _ _ ?_; clear hK K
    have HK9 := Lib.hid (HK8.out.trans k9)
    have HR1 := Lib.hid r1
    have HR2 := Lib.hid r2
    have HQ := Lib.hid (And.intro q1 (And.intro q2 (And.intro q3 q4)))
    have HS7 : Hid (w.heap.size ≤ W8.heap.size ∧ z + 1 < W8.heap.size) := Lib.hid ⟨Nat.le_trans HKW4.out.size HK8.out.size, Nat.lt_of_lt_of_le HU4.out.lt HK8.out.size⟩
    clear q1 q2 q3 q4 r1 r2 k9 HCH
    refine walkW_read rfl (fun K hK => ?_)
    go_simp
    refine hK _ ?_; clear hK K
    refine walkW_do rfl (inKA.of (HK9.out.mono (fun _ h => h.elim))) (fun K hK => ?_)
    go_simp
    refine hK _ _ ?_; clear hK K
    have HU8 := Lib.hid (HU4.out.kept HK9.out)
    obtain ⟨u0, u1, u2, uf⟩ := HU8.out
    refine walkW_do rfl (inKA.of (HK9.out.mono (fun _ h => h.elim))) (fun K hK => ?_)
    go_simp
    refine hK _ _ ?_; clear hK K
    clear u0 u1 u2 uf
    have kq : Keep (fun j => j = z + 1) W9 (((W9.setCell ⟨z + 1, 0, none⟩ (.int .i64 ep')).setCell ⟨z + 1, 1, none⟩ (.slice am nm cm)).setCell ⟨z + 1, 2, none⟩ (.slice ao no co)) := (((Keep.refl (fun j => j = z + 1) W9).setCell (p := ⟨z + 1, 0, none⟩) _ (.inl rfl)).setCell (p := ⟨z + 1, 1, none⟩) _ (.inl rfl)).setCell (p := ⟨z + 1, 2, none⟩) _ (.inl rfl)
    have HU9 := Lib.hid (((HU8.out.set0 (.int .i64 ep')).set1 (.slice am nm cm)).set2 (.slice ao no co))
    have HR19 := Lib.hid (ownsRow_keep HR1.out kq (fun b hb e => by have h5 : b = z + 1 := e; have := (HR1.out.lt b hb).1; have := HS7.out; omega))
    have HR29 := Lib.hid (ownsRow_keep HR2.out kq (fun b hb e => by have h5 : b = z + 1 := e; have := (HR2.out.lt b hb).1; have := HS7.out; omega))
    have HKX : Hid (Keep (fun j => j = z + 1) W3 (((W9.setCell ⟨z + 1, 0, none⟩ (.int .i64 ep')).setCell ⟨z + 1, 1, none⟩ (.slice am nm cm)).setCell ⟨z + 1, 2, none⟩ (.slice ao no co))) := Lib.hid ((HK9.out.mono (fun _ h => h.elim)).trans kq)
    have HF9 : Hid (Keep (fun _ => False) w (((W9.setCell ⟨z + 1, 0, none⟩ (.int .i64 ep')).setCell ⟨z + 1, 1, none⟩ (.slice am nm cm)).setCell ⟨z + 1, 2, none⟩ (.slice ao no co))) := Lib.hid ((HKW4.out.trans HK9.out).trans' kq (fun j e => .inr (by have h5 : j = z + 1 := e; have := HZ.out; omega)))
    clear kq
    generalize ((W9.setCell ⟨z + 1, 0, none⟩ (.int .i64 ep')).setCell ⟨z + 1, 1, none⟩ (.slice am nm cm)).setCell ⟨z + 1, 2, none⟩ (.slice ao no co) = WX at *
    refine walkW_do rfl (inKA.of HKX.out) (fun K hK => ?_)
    go_simp
    refine hK _ _ ?_; clear hK K
    refine ⟨inKA.of HKX.out, ?_⟩
    go_wp2_with fail
    obtain ⟨g0, g1, g2, -⟩ := HU9.out
    refine bodyPost_ret (v := .tuple #[.agg #[.int .i64 ep', .slice am nm cm, .slice ao no co], .int .i64 err]) (by simp [results, Tryz.results12, go_sem, g0, g1, g2]) rfl ?_
    rw [HJ.out]
    exact ⟨ep', l', ow', err, am, nm, cm, ao, no, co, HQ.out.1, HQ.out.2.1, HQ.out.2.2.1, HQ.out.2.2.2, rfl, ownsRow_lo HR19.out HS7.out.1, ownsRow_lo HR29.out HS7.out.1, HF9.out⟩
end Go.Proofs.YtiacdkggbnoigaaGreatDoor

/-
  Replace of package reshard, where it accepts.
-/
namespace Go.Proofs.YtiacdkggbnoigaaGreatDoor
open Go.RowKit Go.Shelf

/-- One owner for another. -/
def repF (n s x : Int) : Int := if x = n then s else x
/-- What the free operations of Replace's region answer. -/
def replS (ep n : Int) (m : Mb) (l : List Mb) (ow : List Int) (ln B : Nat) (t : Nat) (v : Value) (W : World) : Prop :=
  (t = 59 → ∃ b, v = isV b ∧ W.cell? ⟨b, 0, none⟩ = some (.int .i64 n)) ∧
  (t = 61 → ∃ b, v = .slice (some ⟨b, 0, none⟩) 1 1 ∧ Mbs W v [m]) ∧
  (t = 62 → ∃ a c, v = .slice a ln c ∧ W.ownsRow B 44 3 (.slice a ln c) ln (flatB l)) ∧
  (t = 65 → ∃ a c, v = .slice a 64 c ∧ W.ownsRow B 3 1 (.slice a 64 c) 64 (ow.map (fun x => Value.int .i64 x))) ∧
  (t = 66 → ∃ a c a' c', v = .agg #[.int .i64 ep, .slice a ln c, .slice a' 64 c'] ∧ W.ownsRow B 44 3 (.slice a ln c) ln (flatB l) ∧ W.ownsRow B 3 1 (.slice a' 64 c') 64 (ow.map (fun x => Value.int .i64 x))) ∧
  (t = 10 → ∃ z, v = ptr z ∧ B ≤ z ∧ Box3 W z (.int .i64 0) (.slice none 0 0) (.slice none 0 0) ∧ BoxT W z 25)
section
variable {ep n : Int} {m : Mb} {l : List Mb} {ow : List Int} {ln B : Nat} {v : Value} {W : World}
theorem replS_59 (h : ∃ b, v = isV b ∧ W.cell? ⟨b, 0, none⟩ = some (.int .i64 n)) : replS ep n m l ow ln B 59 v W := ⟨fun _ => h, fun e => absurd e (by decide), fun e => absurd e (by decide), fun e => absurd e (by decide), fun e => absurd e (by decide), fun e => absurd e (by decide)⟩
theorem replS_61 (h : ∃ b, v = .slice (some ⟨b, 0, none⟩) 1 1 ∧ Mbs W v [m]) : replS ep n m l ow ln B 61 v W := ⟨fun e => absurd e (by decide), fun _ => h, fun e => absurd e (by decide), fun e => absurd e (by decide), fun e => absurd e (by decide), fun e => absurd e (by decide)⟩
theorem replS_62 (h : ∃ a c, v = .slice a ln c ∧ W.ownsRow B 44 3 (.slice a ln c) ln (flatB l)) : replS ep n m l ow ln B 62 v W := ⟨fun e => absurd e (by decide), fun e => absurd e (by decide), fun _ => h, fun e => absurd e (by decide), fun e => absurd e (by decide), fun e => absurd e (by decide)⟩
theorem replS_65 (h : ∃ a c, v = .slice a 64 c ∧ W.ownsRow B 3 1 (.slice a 64 c) 64 (ow.map (fun x => Value.int .i64 x))) : replS ep n m l ow ln B 65 v W := ⟨fun e => absurd e (by decide), fun e => absurd e (by decide), fun e => absurd e (by decide), fun _ => h, fun e => absurd e (by decide), fun e => absurd e (by decide)⟩
theorem replS_66 (h : ∃ a c a' c', v = .agg #[.int .i64 ep, .slice a ln c, .slice a' 64 c'] ∧ W.ownsRow B 44 3 (.slice a ln c) ln (flatB l) ∧ W.ownsRow B 3 1 (.slice a' 64 c') 64 (ow.map (fun x => Value.int .i64 x))) : replS ep n m l ow ln B 66 v W := ⟨fun e => absurd e (by decide), fun e => absurd e (by decide), fun e => absurd e (by decide), fun e => absurd e (by decide), fun _ => h, fun e => absurd e (by decide)⟩
theorem replS_10 (h : ∃ z, v = ptr z ∧ B ≤ z ∧ Box3 W z (.int .i64 0) (.slice none 0 0) (.slice none 0 0) ∧ BoxT W z 25) : replS ep n m l ow ln B 10 v W := ⟨fun e => absurd e (by decide), fun e => absurd e (by decide), fun e => absurd e (by decide), fun e => absurd e (by decide), fun e => absurd e (by decide), fun _ => h⟩
end
theorem replS_keep {ep n : Int} {m : Mb} {l : List Mb} {ow : List Int} {ln B : Nat} (t : Nat) (v : Value) (w w' : World) (h : replS ep n m l ow ln B t v w) (k : Keep (fun _ => False) w w') : replS ep n m l ow ln B t v w' := by
  obtain ⟨h1, h2, h3, h4, h5, h6⟩ := h
  refine ⟨fun e => ?_, fun e => ?_, fun e => ?_, fun e => ?_, fun e => ?_, fun e => ?_⟩
  · obtain ⟨b, q1, q2⟩ := h1 e
    exact ⟨b, q1, k.cell q2 (fun h => h)⟩
  · obtain ⟨b, q1, q2⟩ := h2 e
    exact ⟨b, q1, q2.kept k⟩
  · obtain ⟨a, c, q1, q2⟩ := h3 e
    exact ⟨a, c, q1, ownsRow_keep q2 k (fun _ _ h => h)⟩
  · obtain ⟨a, c, q1, q2⟩ := h4 e
    exact ⟨a, c, q1, ownsRow_keep q2 k (fun _ _ h => h)⟩
  · obtain ⟨a, c, a', c', q1, q2, q3⟩ := h5 e
    exact ⟨a, c, a', c', q1, ownsRow_keep q2 k (fun _ _ h => h), ownsRow_keep q3 k (fun _ _ h => h)⟩
  · obtain ⟨z, q1, q2, q3, q4⟩ := h6 e
    exact ⟨z, q1, q2, q3.kept k, q4.kept k⟩
/-- The first i owners changed. -/
def repL (f : Int → Int) (ow : List Int) (i : Nat) : List Int := (ow.take i).map f ++ ow.drop i
theorem repL_zero (f : Int → Int) (ow : List Int) : repL f ow 0 = ow := by simp [repL]
theorem repL_all {f : Int → Int} {ow : List Int} {i : Nat} (h : ow.length = i) : repL f ow i = ow.map f := by
  unfold repL
  rw [← h, List.take_length, List.drop_length, List.append_nil]
theorem repL_len (f : Int → Int) (ow : List Int) (i : Nat) : (repL f ow i).length = ow.length := by
  unfold repL
  simp
  omega
theorem repL_get {f : Int → Int} {ow : List Int} {i : Nat} (h : i < ow.length) : (repL f ow i)[i]? = ow[i]? := by
  unfold repL
  rw [List.getElem?_append_right (by simp; omega)]
  simp [Nat.min_eq_left (Nat.le_of_lt h)]
theorem repL_next {f : Int → Int} {ow : List Int} {i : Nat} {x : Int} (h : ow[i]? = some x) : (repL f ow i).set i (f x) = repL f ow (i + 1) := by
  obtain ⟨hi, hx⟩ := List.getElem?_eq_some_iff.1 h
  have e1 : ow.drop i = x :: ow.drop (i + 1) := by rw [List.drop_eq_getElem_cons hi, hx]
  have e2 : ow.take (i + 1) = ow.take i ++ [x] := by rw [List.take_add_one, h]; rfl
  have e3 : i = ((ow.take i).map f).length := by simp; omega
  unfold repL
  rw [e1, e2, List.set_append]
  rw [if_neg (by rw [← e3]; exact Nat.lt_irrefl i), ← e3, Nat.sub_self]
  simp
theorem repL_same {f : Int → Int} {ow : List Int} {i : Nat} {x : Int} (h : ow[i]? = some x) (hf : f x = x) : repL f ow (i + 1) = repL f ow i := by
  rw [← repL_next h, hf]
  obtain ⟨hi, hx⟩ := List.getElem?_eq_some_iff.1 h
  apply List.ext_getElem?
  intro j
  rw [List.getElem?_set]
  by_cases e : i = j
  · subst e
    rw [if_pos rfl, repL_get hi, h, if_pos (by rw [repL_len]; exact hi)]
  · rw [if_neg e]
theorem mbs_one (W : World) (x y u : Int) (h : I64 x ∧ I64 y ∧ I64 u) : Mbs (W.alloc (.cells #[.int .i64 x, .int .i64 y, .int .i64 u] 44)) (.slice (some ⟨W.heap.size, 0, none⟩) 1 1) [⟨x, y, u⟩] := by
  obtain ⟨t0, t1, t2, -⟩ := Box3.new W (.int .i64 x) (.int .i64 y) (.int .i64 u) 44
  refine ⟨by simp, fun a ha => ?_, some ⟨W.heap.size, 0, none⟩, 1, W.heap.size, 0, rfl, by simp, fun _ => rfl, fun j a hj => ?_⟩
  · simp only [List.mem_singleton] at ha
    rw [ha]
    exact h
  · rcases j with _ | j
    · simp only [List.getElem?_cons_zero, Option.some.injEq] at hj
      rw [← hj]
      exact ⟨t0, t1, t2⟩
    · simp at hj
set_option maxRecDepth 100000 in
set_option maxHeartbeats 8000000 in
theorem replace_ok (v : Value) (ep : Int) (lr : List Mb) (ow : List Int) (nd sp : Int) (m : Mb) (k : Nat) (w : World) (h : Rng w v ep lr ow) (hvr : validRB ep lr ow = true) (he : ep < 1000000) (hk : lr[k]? = some m) (hmn : m.node = nd) (hsp : hasN lr sp = false) (hsb : 0 ≤ sp ∧ sp < 24) (hl : lr.length ≤ 30) (hT : Tab w) :
    Calls Tryz.prog 10 #[v, .int .i64 nd, .int .i64 sp] w (RingPost (ep + 1) (moreM (lr.filter (notN nd)) ⟨sp, m.region, m.weight⟩) (ow.map (repF nd sp)) w) := by
  have HRG := Lib.hid h
  have HT := Lib.hid hT
  have HVR := Lib.hid hvr
  have HHS : Hid ((lr.any fun m => decide (m.node = sp)) = false) := Lib.hid hsp
  have HOK := Lib.hid ((validRB_iff ep lr ow).1 hvr)
  have HKM := Lib.hid hk
  have HMN := Lib.hid hmn
  have HSP := Lib.hid hsp
  obtain ⟨hb0, vm, vo, rfl, hm0, ho0⟩ := h
  have HML := Lib.hid hm0
  have HIO := Lib.hid ho0
  obtain ⟨-, hmbd, ma, mc, mb, mo, rfl, hmc, hma, hmcell⟩ := hm0
  obtain ⟨-, -, oa, oc, ob, oo, rfl, hoc, hoa, hocell⟩ := ho0
  have hol : ow.length = 64 := HOK.out.2.2.2.1
  have hep1 : 1 ≤ ep := HOK.out.1
  have HOL := Lib.hid hol
  obtain ⟨mn, hmn'⟩ : ∃ n, lr.length = n := ⟨_, rfl⟩
  have HLN := Lib.hid hmn'
  have hkl : k < mn := by have := (List.getElem?_eq_some_iff.1 hk).1; omega
  obtain rfl := hma (by omega)
  obtain rfl := hoa (by omega)
  have HMC := Lib.hid (hmcell k m hk)
  have HMBD := Lib.hid (hmbd m (List.mem_of_getElem? hk))
  rw [hmn'] at hmc HRG HML hl ⊢
  rw [hol] at hoc HRG HIO ⊢
  have HLL := Lib.hid hl
  -- its index is found
  have HIX : Hid (∀ r, IdxOf lr nd r → r = (k : Int)) := Lib.hid (fun r hr => by
    rcases hr with ⟨rfl, h1⟩ | ⟨k', m', rfl, h1, h2, h3⟩
    · exact absurd hmn (h1 m (List.mem_of_getElem? hk))
    · have hasc := HOK.out.2.2.1.asc
      obtain ⟨a1, a2⟩ := List.getElem?_eq_some_iff.1 hk
      obtain ⟨b1, b2⟩ := List.getElem?_eq_some_iff.1 h1
      rcases Nat.lt_trichotomy k k' with h4 | h4 | h4
      · exact absurd hmn (h3 k m h4 hk)
      · rw [h4]
      · have h5 := List.pairwise_iff_getElem.1 hasc k' k b1 a1 h4
        rw [a2, b2] at h5
        omega)
  clear hT hvr hk hmn hsp hb0 hmbd hma hmcell hoa hocell hol hmn'
  obtain ⟨m0, m1, m2⟩ := m
  simp only [] at HMC HMBD HMN
  have HX := Lib.hid (Box3.new w (.int .i64 ep) (.slice (some ⟨mb, mo, none⟩) mn mc) (.slice (some ⟨ob, oo, none⟩) 64 oc) 25)
  have HU := Lib.hid (Box3.new (w.alloc (.cells #[.int .i64 ep, .slice (some ⟨mb, mo, none⟩) mn mc, .slice (some ⟨ob, oo, none⟩) 64 oc] 25)) (.int .i64 0) (.slice none 0 0) (.slice none 0 0) 25)
  have k1 : Keep (fun _ => False) w (w.alloc (.cells #[.int .i64 ep, .slice (some ⟨mb, mo, none⟩) mn mc, .slice (some ⟨ob, oo, none⟩) 64 oc] 25)) := (Keep.refl _ w).alloc _
  have k3 : Keep (fun _ => False) (w.alloc (.cells #[.int .i64 ep, .slice (some ⟨mb, mo, none⟩) mn mc, .slice (some ⟨ob, oo, none⟩) 64 oc] 25)) ((w.alloc (.cells #[.int .i64 ep, .slice (some ⟨mb, mo, none⟩) mn mc, .slice (some ⟨ob, oo, none⟩) 64 oc] 25)).alloc (.cells #[.int .i64 0, .slice none 0 0, .slice none 0 0] 25)) := (Keep.refl _ _).alloc _
  have HX0 := Lib.hid (HX.out.kept k3)
  have HK0 := Lib.hid (k1.trans k3)
  simp only [World.size_alloc] at HU
  clear k1 k3 HX
  go_enter Tryz.func10, Tryz.ntmps10
  go_wp2_with fail
  generalize (w.alloc (.cells #[.int .i64 ep, .slice (some ⟨mb, mo, none⟩) mn mc, .slice (some ⟨ob, oo, none⟩) 64 oc] 25)).alloc (.cells #[.int .i64 0, .slice none 0 0, .slice none 0 0] 25) = W0 at *
  generalize hz : w.heap.size = z at HX0 HU ⊢
  have HZ := Lib.hid hz
  clear hz
  have x1 : ∀ p : KA (fun _ => False) W0, p.val.cell? ⟨z, 1, none⟩ = some (.slice (some ⟨mb, mo, none⟩) mn mc) := fun p => (HX0.out.kept p.k).2.1
  refine wp_region_walk [(true, 0), (true, 1), (false, 2), (false, 3), (false, 4), (false, 5)] (inKA (fun _ => False) W0) (by kernel_rfl) (by kernel_rfl) ?_
  iterate 2 (refine walkW_read rfl (fun K hK => ?_); go_simp; refine hK _ ?_; clear hK K)
  clear x1
  have HKD : Hid (Keep (fun _ => False) W0 W0.drew) := Lib.hid (Keep.refl _ W0).drew
  have HIS := Lib.hid (is_any nd W0.drew)
  generalize W0.drew = W1 at *
  refine walkW_do rfl (inKA.of HKD.out) (fun K hK => ?_)
  go_simp
  refine hK _ _ ?_; clear hK K
  refine walkW_do rfl (inKA.of HKD.out) (fun K hK => ?_)
  go_simp
  refine HIS.out.mono ?_
  rintro e W2 ⟨rfl, hcell, k2, -⟩
  refine hK _ _ ?_; clear hK K
  have HK2 := Lib.hid (HKD.out.trans k2)
  have HCI := Lib.hid (indexIs_any _ lr W1.heap.size nd W2 (HML.out.kept (HK0.out.trans HK2.out)) hcell (by have := HLN.out; omega))
  clear hcell k2 HIS
  generalize W1.heap.size = b1 at *
  refine walkW_do rfl (inKA.of HK2.out) (fun K hK => ?_)
  go_simp
  refine HCI.out.mono ?_
  rintro e W3 ⟨⟨r, rfl, hr⟩, k3⟩
  obtain rfl := HIX.out r hr
  refine hK _ _ ?_; clear hK K
  have HK3 := Lib.hid (HK2.out.trans k3)
  clear k3 HCI hr
  refine walkW_do rfl (inKA.of HK3.out) (fun K hK => ?_)
  go_simp
  refine hK _ _ ?_; clear hK K
  refine ⟨inKA.of HK3.out, ?_⟩
  -- the conditions
  have HX3 := Lib.hid (HX0.out.kept HK3.out)
  have HU3 := Lib.hid (HU.out.kept HK3.out)
  have HKW3 := Lib.hid (HK0.out.trans HK3.out)
  clear HX0 HU HK2 HK3 HK0 HKD
  have x0 : ∀ p : KA (fun _ => False) W3, p.val.cell? ⟨z, 0, none⟩ = some (.int .i64 ep) := fun p => (HX3.out.kept p.k).1
  have x1 : ∀ p : KA (fun _ => False) W3, p.val.cell? ⟨z, 1, none⟩ = some (.slice (some ⟨mb, mo, none⟩) mn mc) := fun p => (HX3.out.kept p.k).2.1
  have x2 : ∀ p : KA (fun _ => False) W3, p.val.cell? ⟨z, 2, none⟩ = some (.slice (some ⟨ob, oo, none⟩) 64 oc) := fun p => (HX3.out.kept p.k).2.2.1
  have hk0 : ¬ ((k : Int) < 0) := by omega
  have hs0 : ¬ (sp < 0) := by omega
  have hs1 : ¬ (24 ≤ sp) := by omega
  have hep2 : ¬ (1000000 ≤ ep) := by omega
  go_wp2_with fail
  have z0 : W3.drew.cell? ⟨z, 0, none⟩ = some (.int .i64 ep) := (HX3.out.kept (Keep.refl _ W3).drew).1
  have z1 : W3.drew.cell? ⟨z, 1, none⟩ = some (.slice (some ⟨mb, mo, none⟩) mn mc) := (HX3.out.kept (Keep.refl _ W3).drew).2.1
  have z2 : W3.drew.cell? ⟨z, 2, none⟩ = some (.slice (some ⟨ob, oo, none⟩) 64 oc) := (HX3.out.kept (Keep.refl _ W3).drew).2.2.1
  refine wp_region_walk [(false, 0), (false, 1), (false, 2), (false, 3), (false, 4), (false, 5), (false, 6), (false, 7), (true, 8), (true, 9), (false, 10), (false, 11), (false, 12), (false, 13), (false, 14), (false, 15), (false, 16), (false, 17), (false, 18), (false, 19), (false, 20), (false, 21), (false, 22), (false, 23), (false, 24), (false, 25), (false, 26)] (inKA (fun _ => False) W3) (by kernel_rfl) (by kernel_rfl) ?_
  have HKD : Hid (Keep (fun _ => False) W3 W3.drew) := Lib.hid (Keep.refl _ W3).drew
  generalize W3.drew = V0 at *
  refine walkW_do rfl (inKA.of HKD.out) (fun K hK => ?_)
  go_simp
  refine hK _ _ ?_; clear hK K
  clear z0 z1 z2
  have hvc := validRing_any _ ep lr ow V0 (HRG.out.kept (HKW3.out.trans HKD.out))
  rw [HVR.out] at hvc
  have HVC := Lib.hid hvc
  clear hvc
  refine walkW_do rfl (inKA.of HKD.out) (fun K hK => ?_)
  go_simp
  refine HVC.out.mono ?_
  rintro e V1 ⟨rfl, k1⟩
  refine hK _ _ ?_; clear hK K
  have HK1 := Lib.hid (HKD.out.trans k1)
  clear k1 HVC HKD
  iterate 6 (refine walkW_do rfl (inKA.of HK1.out) (fun K hK => ?_); go_simp; refine hK _ _ ?_; clear hK K)
  iterate 2 (refine walkW_read rfl (fun K hK => ?_); go_simp; refine hK _ ?_; clear hK K)
  iterate 1 (refine walkW_do rfl (inKA.of HK1.out) (fun K hK => ?_); go_simp; refine hK _ _ ?_; clear hK K)
  have HIS := Lib.hid (is_any sp V1)
  refine walkW_do rfl (inKA.of HK1.out) (fun K hK => ?_)
  go_simp
  refine HIS.out.mono ?_
  rintro e V2 ⟨rfl, hcell, k2, -⟩
  refine hK _ _ ?_; clear hK K
  have HK2 := Lib.hid (HK1.out.trans k2)
  have hci := containsIs_any _ lr V1.heap.size sp V2 (HML.out.kept (HKW3.out.trans HK2.out)) hcell (by have := HLN.out; omega)
  rw [HHS.out] at hci
  have HCI := Lib.hid hci
  clear hci hcell k2 HIS HK1
  generalize V1.heap.size = b2 at *
  refine walkW_do rfl (inKA.of HK2.out) (fun K hK => ?_)
  go_simp
  refine HCI.out.mono ?_
  rintro e V3 ⟨rfl, k3⟩
  refine hK _ _ ?_; clear hK K
  have HK3 := Lib.hid (HK2.out.trans k3)
  clear k3 HCI HK2
  iterate 11 (refine walkW_do rfl (inKA.of HK3.out) (fun K hK => ?_); go_simp; refine hK _ _ ?_; clear hK K)
  have y0 : V3.cell? ⟨z, 0, none⟩ = some (.int .i64 ep) := (HX3.out.kept HK3.out).1
  iterate 3 (refine walkW_do rfl (inKA.of HK3.out) (fun K hK => ?_); go_simp; refine hK _ _ ?_; clear hK K)
  clear x0 x1 x2 y0
  refine ⟨inKA.of HK3.out, ?_⟩
  obtain ⟨x0, x1, x2, xf⟩ := (HX3.out.kept HK3.out)
  have c0 := (HKW3.out.trans HK3.out).cell HMC.out.1 (fun h => h)
  have c1 := (HKW3.out.trans HK3.out).cell HMC.out.2.1 (fun h => h)
  have c2 := (HKW3.out.trans HK3.out).cell HMC.out.2.2 (fun h => h)
  have hkz : (k : Int) < (mn : Int) := by omega
  have hkn : (0 : Int) ≤ (k : Int) := by omega
  go_upto_region 5 with (fail)
  clear c0 c1 c2 x0 x1 x2 xf hkz hkn hk0 hs0 hs1 hep2
  have HB0 := Lib.hid (Box3.new V3 (.int .i64 m0) (.int .i64 m1) (.int .i64 m2) 44)
  have HX4 := Lib.hid (HX3.out.kept (HK3.out.trans ((Keep.refl _ V3).alloc (.cells #[.int .i64 m0, .int .i64 m1, .int .i64 m2] 44))))
  have HU4 := Lib.hid (HU3.out.kept (HK3.out.trans ((Keep.refl _ V3).alloc (.cells #[.int .i64 m0, .int .i64 m1, .int .i64 m2] 44))))
  have HKW4 := Lib.hid ((HKW3.out.trans HK3.out).trans ((Keep.refl _ V3).alloc (.cells #[.int .i64 m0, .int .i64 m1, .int .i64 m2] 44)))
  have HZV : Hid (z + 1 < V3.heap.size) := Lib.hid (HU3.out.kept HK3.out).lt
  clear HX3 HU3 HKW3 HK3
  generalize V3.alloc (.cells #[.int .i64 m0, .int .i64 m1, .int .i64 m2] 44) = V4 at *
  generalize V3.heap.size = b9 at *
  obtain ⟨x0, x1, x2, xf⟩ := HB0.out
  go_upto_region 6 with (fail)
  clear x0 x1 x2 xf
  have kq : Keep (fun j => j = b9) V4 (V4.setCell ⟨b9, 0, none⟩ (.int .i64 sp)) := (Keep.refl (fun j => j = b9) V4).setCell (p := ⟨b9, 0, none⟩) _ (.inl rfl)
  have HB5 := Lib.hid (HB0.out.set0 (.int .i64 sp))
  have HX5 := Lib.hid (HX4.out.keep kq (by have := HZV.out; omega))
  have HU5 := Lib.hid (HU4.out.keep kq (by have := HZV.out; omega))
  have HKW5 := Lib.hid (HKW4.out.trans' kq (fun j e => .inr (by have h5 : j = b9 := e; have := HZ.out; have := HZV.out; omega)))
  clear kq HX4 HU4 HKW4 HB0
  generalize V4.setCell ⟨b9, 0, none⟩ (.int .i64 sp) = V5 at *
  generalize (decide ((k : Int) < 0) || decide (sp < 0) || decide (24 ≤ sp) || decide (1000000 ≤ ep)) = q1 at *
  generalize (decide ((k : Int) < 0) || decide (sp < 0) || decide (24 ≤ sp)) = q2 at *
  generalize (decide ((k : Int) < 0) || decide (sp < 0)) = q3 at *
  generalize decide ((k : Int) < 0) = q4 at *
  generalize decide (sp < 0) = q5 at *
  generalize decide (24 ≤ sp) = q6 at *
  generalize decide (1000000 ≤ ep) = q7 at *
  -- the new ring
  obtain ⟨lq, hlq⟩ : ∃ l, moreM (lr.filter (notN nd)) ⟨sp, m1, m2⟩ = l := ⟨_, rfl⟩
  rw [hlq]
  obtain ⟨ln, hln⟩ : ∃ n, lq.length = n := ⟨_, rfl⟩
  have HLQ := Lib.hid hlq
  have HLNQ := Lib.hid hln
  have HSB := Lib.hid hsb
  clear hlq hln hsb
  have hw1 : IntKind.i64.wrap (ep + 1) = ep + 1 := wrapI (by unfold I64; omega)
  have x0 : ∀ p : KA (fun _ => False) V5, p.val.cell? ⟨z, 0, none⟩ = some (.int .i64 ep) := fun p => (HX5.out.kept p.k).1
  have x1 : ∀ p : KA (fun _ => False) V5, p.val.cell? ⟨z, 1, none⟩ = some (.slice (some ⟨mb, mo, none⟩) mn mc) := fun p => (HX5.out.kept p.k).2.1
  have x2 : ∀ p : KA (fun _ => False) V5, p.val.cell? ⟨z, 2, none⟩ = some (.slice (some ⟨ob, oo, none⟩) 64 oc) := fun p => (HX5.out.kept p.k).2.2.1
  have c0 : ∀ p : KA (fun _ => False) V5, p.val.cell? ⟨b9, 0, none⟩ = some (.int .i64 sp) := fun p => (HB5.out.kept p.k).1
  have c1 : ∀ p : KA (fun _ => False) V5, p.val.cell? ⟨b9, 1, none⟩ = some (.int .i64 m1) := fun p => (HB5.out.kept p.k).2.1
  have c2 : ∀ p : KA (fun _ => False) V5, p.val.cell? ⟨b9, 2, none⟩ = some (.int .i64 m2) := fun p => (HB5.out.kept p.k).2.2.1
  refine wp_region_free [0, 1, 2, 3, 4, 5, 7, 10, 11] [⟨6, 59, []⟩, ⟨8, 61, []⟩, ⟨9, 62, [59, 61]⟩, ⟨12, 65, []⟩, ⟨14, 10, []⟩, ⟨13, 66, [62, 65]⟩] [(false, 15)] (inKA (fun _ => False) V5) (replS (ep + 1) nd ⟨sp, m1, m2⟩ lq ow ln V5.heap.size) (Keep (fun _ => False)) (by kernel_rfl) (by kernel_rfl) (inKA.of (Keep.refl _ V5).drew) replS_keep (fun w w' hw hk => by obtain ⟨p, rfl⟩ := hw; exact inKA.of (p.k.trans hk)) ?_
  iterate 9 (refine headW_step rfl (fun K hK => ?_); go_simp; refine hK _ ?_; clear hK K)
  clear x0 x1 x2 c0 c1 c2 hw1
  refine ⟨?_, ?_, ?_⟩
  · intro h hh
    simp only [List.mem_cons, List.not_mem_nil, or_false] at hh
    rcases hh with rfl | rfl | rfl | rfl | rfl | rfl <;> simp
  · refine freeW_step rfl (fun vs W hC hS K hK => ?_) (freeW_step rfl (fun vs W hC hS K hK => ?_) (freeW_step rfl (fun vs W hC hS K hK => ?_) (freeW_step rfl (fun vs W hC hS K hK => ?_) (freeW_step rfl (fun vs W hC hS K hK => ?_) (freeW_step rfl (fun vs W hC hS K hK => ?_) trivial)))))
    · obtain ⟨p, rfl⟩ := hC
      simp only [putL, List.foldl]
      have HI := Lib.hid (is_any nd p.val)
      go_simp
      refine HI.out.mono ?_
      rintro e W2 ⟨rfl, hcell, kk, -⟩
      exact hK _ _ (replS_59 ⟨_, rfl, hcell⟩) kk
    · obtain ⟨p, rfl⟩ := hC
      simp only [putL, List.foldl]
      go_simp
      exact hK _ _ (replS_61 ⟨_, rfl, mbs_one p.val sp m1 m2 ⟨by unfold I64; have := HSB.out; omega, HMBD.out.2.1, HMBD.out.2.2⟩⟩) ((Keep.refl _ p.val).alloc _)
    · obtain ⟨p, rfl⟩ := hC
      obtain ⟨b, e1, h1⟩ := (hS 59 (by simp)).1 rfl
      obtain ⟨b', e2, h2⟩ := (hS 61 (by simp)).2.1 rfl
      simp only [putL, List.foldl]
      generalize vs 59 = v59 at *
      generalize vs 61 = v61 at *
      subst e1 e2
      have HE := Lib.hid (editedR_any _ _ b nd lr ⟨sp, m1, m2⟩ p.val (HML.out.kept (HKW5.out.trans p.k)) h1 h2 HOK.out.2.2.1.asc (fun x hx e => by
        have := List.any_eq_false.1 HHS.out x hx
        simp only [decide_eq_true_eq] at this
        exact this e) (by rw [HLN.out]; exact HLL.out))
      have hsz := p.k.size
      go_simp
      refine HE.out.mono ?_
      rintro e W2 ⟨g, c, rfl, hown, kk⟩
      rw [HLQ.out, HLNQ.out] at hown ⊢
      exact hK _ _ (replS_62 ⟨_, c, rfl, ownsRow_lo hown hsz⟩) kk
    · obtain ⟨p, rfl⟩ := hC
      simp only [putL, List.foldl]
      have HCL := Lib.hid (cloneI_any _ ow p.val (HIO.out.kept (HKW5.out.trans p.k)) (by have := HOL.out; omega))
      have hsz := p.k.size
      go_simp
      refine HCL.out.mono ?_
      rintro e W2 ⟨a, c, rfl, hown, kk⟩
      rw [HOL.out] at hown ⊢
      exact hK _ _ (replS_65 ⟨a, c, rfl, ownsRow_lo hown hsz⟩) kk
    · obtain ⟨p, rfl⟩ := hC
      simp only [putL, List.foldl]
      have hsz := p.k.size
      go_simp
      exact hK _ _ (replS_10 ⟨p.val.heap.size, rfl, hsz, Box3.new _ _ _ _ _, ⟨_, World.alloc_heap_new _ _⟩⟩) ((Keep.refl _ p.val).alloc _)
    · obtain ⟨a, c, e1, h1⟩ := (hS 62 (by simp)).2.2.1 rfl
      obtain ⟨a', c', e2, h2⟩ := (hS 65 (by simp)).2.2.2.1 rfl
      simp only [putL, List.foldl]
      generalize vs 62 = v62 at *
      generalize vs 65 = v65 at *
      subst e1 e2
      go_simp
      exact hK _ _ (replS_66 ⟨a, c, a', c', rfl, h1, h2⟩) (Keep.refl _ W)
  · intro vs W hC hS
    obtain ⟨p, rfl⟩ := hC
    obtain ⟨b59, e1, -⟩ := (hS ⟨6, 59, []⟩ (by simp)).1 rfl
    obtain ⟨b61, e2, -⟩ := (hS ⟨8, 61, []⟩ (by simp)).2.1 rfl
    obtain ⟨a62, c62, e3, -⟩ := (hS ⟨9, 62, [59, 61]⟩ (by simp)).2.2.1 rfl
    obtain ⟨a65, c65, e4, -⟩ := (hS ⟨12, 65, []⟩ (by simp)).2.2.2.1 rfl
    obtain ⟨am, cm, ao, co, e5, hm9, ho9⟩ := (hS ⟨13, 66, [62, 65]⟩ (by simp)).2.2.2.2.1 rfl
    obtain ⟨z9, e6, hz9, hb9, ht9⟩ := (hS ⟨14, 10, []⟩ (by simp)).2.2.2.2.2 rfl
    simp only [] at e1 e2 e3 e4 e5 e6
    simp only [List.map, putL, List.foldl]
    generalize vs 59 = v59 at *
    generalize vs 61 = v61 at *
    generalize vs 62 = v62 at *
    generalize vs 65 = v65 at *
    generalize vs 66 = v66 at *
    generalize vs 10 = v10 at *
    subst e1 e2 e3 e4 e5 e6
    obtain ⟨og, rfl⟩ := own_some' ho9 (by decide)
    have HOGZ : Hid (og ≠ z9) := Lib.hid (own_ne ho9 ht9 (by decide) rfl)
    have HGMZ : Hid (∀ b, (Value.slice am ln cm).ownBlock = some b → b ≠ z9) := Lib.hid (fun b hb => own_ne hm9 ht9 (by decide) hb)
    have HGMO : Hid (∀ b, (Value.slice am ln cm).ownBlock = some b → b ≠ og) := Lib.hid (fun b hb e => own_apart hm9 ho9 (by decide) hb (by rw [e]; rfl))
    have HUP := Lib.hid (HU5.out.kept p.k)
    have HKP := Lib.hid p.k
    have HBP := Lib.hid hb9
    have HMP := Lib.hid hm9
    have HOP := Lib.hid ho9
    have HZ9 : Hid (V5.heap.size ≤ z9 ∧ z + 1 < V5.heap.size ∧ w.heap.size ≤ V5.heap.size) := Lib.hid ⟨hz9, HU5.out.lt, HKW5.out.size⟩
    have HOGB : Hid (V5.heap.size ≤ og) := Lib.hid (ho9.lt og rfl).1
    have HGMB : Hid (∀ b, (Value.slice am ln cm).ownBlock = some b → V5.heap.size ≤ b) := Lib.hid (fun b hb => (hm9.lt b hb).1)
    clear hS hz9 hb9 ht9 hm9 ho9
    have HKWP := Lib.hid (HKW5.out.trans p.k)
    generalize p.val = V at *
    obtain ⟨B, hB⟩ : ∃ B, V5.heap.size = B := ⟨_, rfl⟩
    have HSZ5 : Hid (V5.heap.size ≤ B) := Lib.hid (by omega)
    rw [hB] at HZ9 HOGB HGMB HMP HOP
    clear hB
    obtain ⟨y0, y1, y2, yf⟩ := HBP.out
    refine walkW_do rfl (inKA.of HKP.out) (fun K hK => ?_)
    go_simp
    refine hK _ _ ?_; clear hK K
    clear y0 y1 y2 yf
    have kq : Keep (fun j => j = z9) V (((V.setCell ⟨z9, 0, none⟩ (.int .i64 (ep + 1))).setCell ⟨z9, 1, none⟩ (.slice am ln cm)).setCell ⟨z9, 2, none⟩ (.slice (some ⟨og, 0, none⟩) 64 co)) := (((Keep.refl (fun j => j = z9) V).setCell (p := ⟨z9, 0, none⟩) _ (.inl rfl)).setCell (p := ⟨z9, 1, none⟩) _ (.inl rfl)).setCell (p := ⟨z9, 2, none⟩) _ (.inl rfl)
    have HBQ := Lib.hid (((HBP.out.set0 (.int .i64 (ep + 1))).set1 (.slice am ln cm)).set2 (.slice (some ⟨og, 0, none⟩) 64 co))
    have HMQ := Lib.hid (ownsRow_keep HMP.out kq (fun b hb e => HGMZ.out b hb e))
    have HOQ := Lib.hid (ownsRow_keep HOP.out kq (fun b hb e => by cases hb; exact HOGZ.out e))
    have HUQ := Lib.hid (HUP.out.keep kq (by have := HZ9.out; omega))
    have HKQ := Lib.hid (HKP.out.trans' kq (fun j e => .inr (by have h5 : j = z9 := e; have := HZ9.out; have := HSZ5.out; omega)))
    have HKWQ := Lib.hid (HKWP.out.trans' kq (fun j e => .inr (by have h5 : j = z9 := e; have := HZ9.out; omega)))
    clear kq HBP HMP HOP HUP HKP HKWP
    generalize ((V.setCell ⟨z9, 0, none⟩ (.int .i64 (ep + 1))).setCell ⟨z9, 1, none⟩ (.slice am ln cm)).setCell ⟨z9, 2, none⟩ (.slice (some ⟨og, 0, none⟩) 64 co) = V6 at *
    refine ⟨inKA.of HKQ.out, ?_⟩
    obtain ⟨y0, y1, y2, yf⟩ := HBQ.out
    go_upto_region 8 with (fail)
    clear y0 y1 y2 yf
    have HRQ : Hid (V6.ownsRow B 3 1 (.slice (some ⟨og, 0, none⟩) 64 co) 64 ((repL (repF nd sp) ow 0).map (fun x => Value.int .i64 x))) := Lib.hid (by rw [repL_zero]; exact HOQ.out)
    go_loopg [70] 64 (fun gh v70 wr => ∃ i : Nat, gh + i = 64 ∧ v70 = .int .i64 i ∧ wr.ownsRow B 3 1 (.slice (some ⟨og, 0, none⟩) 64 co) 64 ((repL (repF nd sp) ow i).map (fun x => Value.int .i64 x)) ∧ Keep (fun j => j = og) V6 wr)
    case atStart => exact ⟨0, by omega, rfl, HRQ.out, Keep.refl _ _⟩
    case round =>
      obtain ⟨i, hi, rfl, hown, hkeep⟩ := hrel
      have HOI := Lib.hid hown
      have HK := Lib.hid hkeep
      have HKW : Hid (Keep (fun _ => False) w wr) := Lib.hid (HKWQ.out.trans' hkeep (fun j e => .inr (by have h5 : j = og := e; have := HOGB.out; have := HZ9.out; omega)))
      clear hown hkeep
      by_cases hlt : i < 64
      · obtain ⟨x, hx⟩ : ∃ x, ow[i]? = some x := ⟨_, List.getElem?_eq_getElem (by have := HOL.out; omega)⟩
        have ci : wr.cell? ⟨og, i, none⟩ = some (.int .i64 x) := by
          rw [HOI.out.cellAt i hlt, List.getElem?_map, repL_get (by rw [HOL.out]; exact hlt), hx]; rfl
        have yf : ∀ o, wr.frozen? ⟨og, o, none⟩ = false := fun o => HOI.out.frozenAt o
        have HBI := Lib.hid (HBQ.out.keep HK.out (fun e => HOGZ.out e.symm))
        obtain ⟨y0, y1, y2, -⟩ := HBI.out
        have HX := Lib.hid hx
        have hiz : (i : Int) < 64 := by omega
        have hi0 : (0 : Int) ≤ (i : Int) := by omega
        clear hx
        by_cases hxn : x = nd
        · have HXN : Hid (repF nd sp x = sp) := Lib.hid (by unfold repF; rw [if_pos hxn])
          have HST := Lib.hid (HOI.out.stored i (.int .i64 sp)).1
          have HRN : Hid ((wr.setCell ⟨og, i, none⟩ (.int .i64 sp)).ownsRow B 3 1 (.slice (some ⟨og, 0, none⟩) 64 co) 64 ((repL (repF nd sp) ow (i + 1)).map (fun x => Value.int .i64 x))) := Lib.hid (by
            rw [← repL_next HX.out, HXN.out, List.map_set]
            exact HST.out)
          have HKN : Hid (Keep (fun j => j = og) V6 (wr.setCell ⟨og, i, none⟩ (.int .i64 sp))) := Lib.hid (HK.out.setCell (p := ⟨og, i, none⟩) _ (.inl rfl))
          clear HST
          go_wp2_with fail
          clear ci yf y0 y1 y2
          generalize wr.setCell ⟨og, i, none⟩ (.int .i64 sp) = W14 at *
          go_roundg (64 - (i + 1))
          case rel => exact ⟨i + 1, by omega, by go_num, HRN.out, HKN.out⟩
          case measure => omega
        · have HRN : Hid (wr.ownsRow B 3 1 (.slice (some ⟨og, 0, none⟩) 64 co) 64 ((repL (repF nd sp) ow (i + 1)).map (fun x => Value.int .i64 x))) := Lib.hid (by
            rw [repL_same HX.out (by unfold repF; rw [if_neg hxn])]
            exact HOI.out)
          go_wp2_with fail
          clear ci yf y0 y1 y2
          go_roundg (64 - (i + 1))
          case rel => exact ⟨i + 1, by omega, by go_num, HRN.out, HK.out⟩
          case measure => omega
      · have hie : i = 64 := by omega
        have HOE : Hid (wr.ownsRow B 3 1 (.slice (some ⟨og, 0, none⟩) 64 co) 64 ((ow.map (repF nd sp)).map (fun x => Value.int .i64 x))) := Lib.hid (by
          rw [← repL_all (HOL.out.trans hie.symm)]
          exact HOI.out)
        have HBI := Lib.hid (HBQ.out.keep HK.out (fun e => HOGZ.out e.symm))
        have HUI := Lib.hid (HUQ.out.keep HK.out (fun e => by have := HOGB.out; have := HZ9.out; omega))
        have HMI := Lib.hid (ownsRow_keep HMQ.out HK.out (fun b hb e => HGMO.out b hb e))
        obtain ⟨y0, y1, y2, -⟩ := HBI.out
        obtain ⟨u0, u1, u2, uf⟩ := HUI.out
        have hiz : ¬ ((i : Int) < 64) := by omega
        clear HOI HRQ
        go_upto_region 13 with (fail)
        go_wp2_with fail
        have g := ((HUI.out.set0 (.int .i64 (ep + 1))).set1 (.slice am ln cm)).set2 (.slice (some ⟨og, 0, none⟩) 64 co)
        have kq : Keep (fun j => j = z + 1) wr (((wr.setCell ⟨z + 1, 0, none⟩ (.int .i64 (ep + 1))).setCell ⟨z + 1, 1, none⟩ (.slice am ln cm)).setCell ⟨z + 1, 2, none⟩ (.slice (some ⟨og, 0, none⟩) 64 co)) := (((Keep.refl (fun j => j = z + 1) wr).setCell (p := ⟨z + 1, 0, none⟩) _ (.inl rfl)).setCell (p := ⟨z + 1, 1, none⟩) _ (.inl rfl)).setCell (p := ⟨z + 1, 2, none⟩) _ (.inl rfl)
        have HFM := Lib.hid (ownsRow_keep HMI.out kq (fun b hb e => by have h5 : b = z + 1 := e; have := HGMB.out b hb; have := HZ9.out; omega))
        have HFO := Lib.hid (ownsRow_keep HOE.out kq (fun b hb e => by cases hb; have h5 : og = z + 1 := e; have := HOGB.out; have := HZ9.out; omega))
        have HFK := Lib.hid (HKW.out.trans' kq (fun j e => .inr (by have h5 : j = z + 1 := e; have := HZ.out; omega)))
        clear y0 y1 y2 u0 u1 u2 uf kq
        generalize ((wr.setCell ⟨z + 1, 0, none⟩ (.int .i64 (ep + 1))).setCell ⟨z + 1, 1, none⟩ (.slice am ln cm)).setCell ⟨z + 1, 2, none⟩ (.slice (some ⟨og, 0, none⟩) 64 co) = WF at *
        obtain ⟨g0, g1, g2, -⟩ := g
        refine bodyPost_ret (v := .tuple #[.agg #[.int .i64 (ep + 1), .slice am ln cm, .slice (some ⟨og, 0, none⟩) 64 co], .int .i64 0]) (by simp [results, Tryz.results10, go_sem, g0, g1, g2]) rfl ?_
        rw [HLQ.out]
        refine ⟨am, cm, some ⟨og, 0, none⟩, co, by rw [HLNQ.out, List.length_map, HOL.out], ?_, ?_, HFK.out⟩
        · rw [HLNQ.out]; exact ownsRow_lo HFM.out HZ9.out.2.2
        · rw [List.length_map, HOL.out]; exact ownsRow_lo HFO.out HZ9.out.2.2
end Go.Proofs.YtiacdkggbnoigaaGreatDoor

/-
  Moves of package reshard.
-/
namespace Go.Proofs.YtiacdkggbnoigaaGreatDoor
open Go.RowKit Go.Shelf

/-- A move as three ints, named as a member's are. -/
def mvMb (m : Mv) : Mb := ⟨m.slot, m.frm, m.to_⟩
def encMv (m : Mv) : List Value := [.int .i64 m.slot, .int .i64 m.frm, .int .i64 m.to_]
def flatV (l : List Mv) : List Value := flatB (l.map mvMb)
theorem flatV_snoc (l : List Mv) (m : Mv) : flatV (l ++ [m]) = flatV l ++ encMv m := by
  unfold flatV
  rw [List.map_append, flatB_append]
  rfl
/-- Moves in a slice. -/
def Mvs (W : World) (v : Value) (l : List Mv) : Prop := Mbs W v (l.map mvMb)
theorem Mvs.kept {W W' : World} {v : Value} {l : List Mv} (h : Mvs W v l) (k : Keep (fun _ => False) W W') : Mvs W' v l := Mbs.kept h k
/-- Moves in a slice of their own. -/
def OwnV (w : World) (l : List Mv) (v : Value) (W : World) : Prop := Keep (fun _ => False) w W ∧ W.ownsRow w.heap.size 77 3 v l.length (flatV l)
theorem OwnV.nil {w W : World} (k : Keep (fun _ => False) w W) : OwnV w [] (.slice none 0 0) W := ⟨k, by simpa [flatV, flatB] using World.ownsRow_nil W w.heap.size 77 3⟩
theorem OwnV.keep {w W W' : World} {l : List Mv} {v : Value} (h : OwnV w l v W) (k : Keep (fun _ => False) W W') : OwnV w l v W' := ⟨h.1.trans k, ownsRow_keep h.2 k (fun _ _ h => h)⟩
theorem infoMv : (Tryz.prog.info? 77).map (fun i => (i.zero, i.size, i.bytes)) = some (some (.agg #[.int .i64 0, .int .i64 0, .int .i64 0]), 3, 24) := by kernel_rfl
theorem OwnV.snoc {w W : World} {l : List Mv} {v : Value} (h : OwnV w l v W) (x : Mv) (hl : l.length ≤ 100000) :
    ∃ v' w', (Builtin.append_ #[26, 26] 26 #[v, .slice (some ⟨W.heap.size, 0, none⟩) 1 1]).run Tryz.prog (W.alloc (.cells #[.int .i64 x.slot, .int .i64 x.frm, .int .i64 x.to_] 77)) = .ok v' w' ∧ OwnV w (l ++ [x]) v' w' := by
  obtain ⟨v', w', r1, r2, r3, r4, -⟩ := app_one 26 77 3 24 _ Tryz.underlying26 infoMv rfl (by decide) (by decide) W 26 w.heap.size v l.length (flatV l) (encMv x) h.2 rfl (by simp [encMv, Value.oneCell']) (by omega) h.1.size
  refine ⟨v', w', r1, ⟨h.1.trans' r3 (fun j e => .inr (h.2.lt j e).1), ?_⟩⟩
  rw [flatV_snoc, List.length_append]
  exact r2
theorem movesK_next {a b : List Int} {k : Nat} {x y : Int} (ha : a[k]? = some x) (hb : b[k]? = some y) (hne : y ≠ x) : movesK a b (k + 1) = movesK a b k ++ [⟨k, x, y⟩] := by
  have e1 : a.getD k 0 = x := by rw [List.getD_eq_getElem?_getD, ha]; rfl
  have e2 : b.getD k 0 = y := by rw [List.getD_eq_getElem?_getD, hb]; rfl
  conv => lhs; unfold movesK
  rw [e1, e2, if_pos hne]
theorem movesK_stay {a b : List Int} {k : Nat} {x y : Int} (ha : a[k]? = some x) (hb : b[k]? = some y) (he : y = x) : movesK a b (k + 1) = movesK a b k := by
  have e1 : a.getD k 0 = x := by rw [List.getD_eq_getElem?_getD, ha]; rfl
  have e2 : b.getD k 0 = y := by rw [List.getD_eq_getElem?_getD, hb]; rfl
  conv => lhs; unfold movesK
  rw [e1, e2, if_neg (fun h => h he), List.append_nil]
def MvPost (l : List Mv) (w : World) (e : Ending) (w' : World) : Prop := ∃ a c, e = .returned (.slice a l.length c) ∧ w'.ownsRow w.heap.size 77 3 (.slice a l.length c) l.length (flatV l) ∧ Keep (fun _ => False) w w'
set_option maxRecDepth 100000 in
set_option maxHeartbeats 8000000 in
theorem moves_any (va vb : Value) (ea eb : Int) (la lb : List Mb) (oa ob : List Int) (w : World) (ha : Rng w va ea la oa) (hb : Rng w vb eb lb ob) (hla : oa.length = 64) (hlb : ob.length = 64) :
    Calls Tryz.prog 19 #[va, vb] w (MvPost (movesK oa ob 64) w) := by
  obtain ⟨-, am, ao, rfl, hma, hia⟩ := ha
  obtain ⟨-, bm, bo, rfl, hmb, hib⟩ := hb
  obtain ⟨ma, mn, mc, rfl⟩ : ∃ a n c, am = .slice a n c := by obtain ⟨a, c, b, off, h, _⟩ := hma.at_; exact ⟨_, _, _, h⟩
  obtain ⟨na, nn, nc, rfl⟩ : ∃ a n c, bm = .slice a n c := by obtain ⟨a, c, b, off, h, _⟩ := hmb.at_; exact ⟨_, _, _, h⟩
  obtain ⟨-, -, aa, ac, ab, af, rfl, hac, haa, hacell⟩ := hia
  obtain ⟨-, -, ba, bc, bb, bf, rfl, hbc, hba, hbcell⟩ := hib
  obtain rfl := haa (by omega)
  obtain rfl := hba (by omega)
  have HCA := Lib.hid hacell
  have HCB := Lib.hid hbcell
  have HLA := Lib.hid hla
  have HLB := Lib.hid hlb
  rw [hla] at hac ⊢
  rw [hlb] at hbc ⊢
  clear haa hba hacell hbcell hla hlb hma hmb
  have HX := Lib.hid (Box3.new w (.int .i64 ea) (.slice ma mn mc) (.slice (some ⟨ab, af, none⟩) 64 ac) 25)
  have HY := Lib.hid (Box3.new (w.alloc (.cells #[.int .i64 ea, .slice ma mn mc, .slice (some ⟨ab, af, none⟩) 64 ac] 25)) (.int .i64 eb) (.slice na nn nc) (.slice (some ⟨bb, bf, none⟩) 64 bc) 25)
  have HKA : Hid (Keep (fun _ => False) w (w.alloc (.cells #[.int .i64 ea, .slice ma mn mc, .slice (some ⟨ab, af, none⟩) 64 ac] 25))) := Lib.hid ((Keep.refl _ w).alloc _)
  have HKB : Hid (Keep (fun _ => False) (w.alloc (.cells #[.int .i64 ea, .slice ma mn mc, .slice (some ⟨ab, af, none⟩) 64 ac] 25)) ((w.alloc (.cells #[.int .i64 ea, .slice ma mn mc, .slice (some ⟨ab, af, none⟩) 64 ac] 25)).alloc (.cells #[.int .i64 eb, .slice na nn nc, .slice (some ⟨bb, bf, none⟩) 64 bc] 25))) := Lib.hid ((Keep.refl _ _).alloc _)
  have HX0 := Lib.hid (HX.out.kept HKB.out)
  rw [World.size_alloc] at HY
  have HK0 := Lib.hid (HKA.out.trans HKB.out)
  clear HX HKA HKB
  go_enter Tryz.func19, Tryz.ntmps19
  go_wp2_with fail
  generalize ((w.alloc (.cells #[.int .i64 ea, .slice ma mn mc, .slice (some ⟨ab, af, none⟩) 64 ac] 25)).alloc (.cells #[.int .i64 eb, .slice na nn nc, .slice (some ⟨bb, bf, none⟩) 64 bc] 25)) = W0 at *
  generalize hz : w.heap.size = z at HX0 HY ⊢
  have HZ := Lib.hid hz
  clear hz
  obtain ⟨x0, x1, x2, -⟩ := HX0.out
  obtain ⟨y0, y1, y2, -⟩ := HY.out
  go_upto_region 5 with (fail)
  clear x0 x1 x2 y0 y1 y2
  have HW0 : Hid (OwnV W0 [] (.slice none 0 0) W0) := Lib.hid (OwnV.nil (Keep.refl _ W0))
  go_loopg [5, 21] 64 (fun gh v5 v21 wr => ∃ i : Nat, gh + i = 64 ∧ v21 = .int .i64 i ∧ OwnV W0 (movesK oa ob i) v5 wr)
  case atStart => exact ⟨0, by omega, rfl, HW0.out⟩
  case round =>
    obtain ⟨i, hi, rfl, hown⟩ := hrel
    have HOV := Lib.hid hown
    have HK := Lib.hid hown.1
    clear hown
    by_cases hlt : i < 64
    · obtain ⟨x, hx⟩ : ∃ x, oa[i]? = some x := ⟨_, List.getElem?_eq_getElem (by have := HLA.out; omega)⟩
      obtain ⟨y, hy⟩ : ∃ y, ob[i]? = some y := ⟨_, List.getElem?_eq_getElem (by have := HLB.out; omega)⟩
      have HMK := Lib.hid (movesK_len oa ob i)
      have cx := (HK0.out.trans HK.out).cell (HCA.out i x hx) (fun h => h)
      have cy := (HK0.out.trans HK.out).cell (HCB.out i y hy) (fun h => h)
      obtain ⟨x0, x1, x2, -⟩ := HX0.out.kept HK.out
      obtain ⟨y0, y1, y2, -⟩ := HY.out.kept HK.out
      have HXI := Lib.hid hx
      have HYI := Lib.hid hy
      have hiz : (i : Int) < 64 := by omega
      have hi0 : (0 : Int) ≤ (i : Int) := by omega
      clear hx hy
      by_cases hne : y = x
      · have HN : Hid (OwnV W0 (movesK oa ob (i + 1)) u5 wr) := Lib.hid (by rw [movesK_stay HXI.out HYI.out hne]; exact HOV.out)
        go_wp2_with fail
        clear x0 x1 x2 y0 y1 y2 cx cy
        go_roundg (64 - (i + 1))
        case rel => exact ⟨i + 1, by omega, by go_num, HN.out⟩
        case measure => omega
      · obtain ⟨v', w', hr, hn⟩ := HOV.out.snoc ⟨i, x, y⟩ (by have := HMK.out; omega)
        have HN : Hid (OwnV W0 (movesK oa ob (i + 1)) v' w') := Lib.hid (by rw [movesK_next HXI.out HYI.out hne]; exact hn)
        have HR := Lib.hid hr
        clear hr hn
        simp only [] at HR
        go_wp2_with (at_builtin; refine wpList_app rfl (.tmp 33) (.tmp 42) 26 rfl rfl rfl HR.out ?_)
        clear x0 x1 x2 y0 y1 y2 cx cy
        go_roundg (64 - (i + 1))
        case rel => exact ⟨i + 1, by omega, by go_num, HN.out⟩
        case measure => omega
    · obtain rfl : i = 64 := by omega
      have hiz : ¬ (((64 : Nat) : Int) < 64) := by omega
      obtain ⟨a, c, rfl⟩ := own_form HOV.out.2
      go_wp2_with fail
      go_ret
      exact ⟨a, c, rfl, ownsRow_lo HOV.out.2 (HK0.out.size), HK0.out.trans HK.out⟩
end Go.Proofs.YtiacdkggbnoigaaGreatDoor
