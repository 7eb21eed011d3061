/-
  Several texts in one, each under its own heading below (merged by a program of ours): the contracts of the functions that the law reaches, part 4 of 7.
-/
import Derived.Test.YtplkmbfeeegaiaaGreatDoorX1
import Derived.Test.YtplkmbfeeegaiaaGreatDoorX2
import Derived.Test.YtplkmbfeeegaiaaGreatDoorX3

/-
  The next ring: Change of package reshard.
-/
namespace Go.Proofs.YtplkmbfeeegaiaaGreatDoor
open Go.RowKit Go.Shelf

/-- A ring of its own, as it is returned. -/
def RingPost (ep : Int) (l : List Mb) (ow : List Int) (w : World) (e : Ending) (w' : World) : Prop := ∃ am cm ao co, e = .returned (.tuple #[.agg #[.int .i64 ep, .slice am l.length cm, .slice ao ow.length co], .int .i64 0]) ∧ w'.ownsRow w.heap.size 35 3 (.slice am l.length cm) l.length (flatB l) ∧ w'.ownsRow w.heap.size 3 1 (.slice ao ow.length co) ow.length (ow.map (fun x => Value.int .i64 x)) ∧ Keep (fun _ => False) w w'
/-- The room of each node. -/
def RoomAt (W : World) (b : Nat) (g : Int → Int) : Prop := (∀ i : Nat, i < 24 → W.cell? ⟨b, i, none⟩ = some (.int .i64 (g i))) ∧ ∀ o, W.frozen? ⟨b, o, none⟩ = false
theorem RoomAt.keep {W W' : World} {b : Nat} {g : Int → Int} {A : Nat → Prop} (h : RoomAt W b g) (k : Keep A W W') (hb : ¬ A b) : RoomAt W' b g :=
  ⟨fun i hi => k.cell (h.1 i hi) hb, fun o => (k.frozen (World.block_lt_of_cell? _ _ (h.1 0 (by decide))) hb o).trans (h.2 o)⟩
theorem RoomAt.kept {W W' : World} {b : Nat} {g : Int → Int} (h : RoomAt W b g) (k : Keep (fun _ => False) W W') : RoomAt W' b g := h.keep k (fun h => h)
theorem RoomAt.lt {W : World} {b : Nat} {g : Int → Int} (h : RoomAt W b g) : b < W.heap.size := World.block_lt_of_cell? _ _ (h.1 0 (by decide))
theorem RoomAt.set {W : World} {b : Nat} {g : Int → Int} (h : RoomAt W b g) {n : Nat} (hn : n < 24) (x : Int) : RoomAt (W.setCell ⟨b, n, none⟩ (.int .i64 x)) b (upd g n x) := by
  refine ⟨fun i hi => ?_, fun o => (World.frozen?_setCell _ _ _ _).trans (h.2 o)⟩
  unfold upd
  by_cases e : i = n
  · subst e; rw [if_pos rfl]; exact cell_set_same (h.1 i hi)
  · rw [if_neg (by omega), cell_set_off (fun e' => e e'.symm)]; exact h.1 i hi
theorem RoomAt.congr {W : World} {b : Nat} {g f : Int → Int} (h : RoomAt W b g) (e : ∀ n, f n = g n) : RoomAt W b f := ⟨fun i hi => by rw [e]; exact h.1 i hi, h.2⟩

theorem RoomAt.congr' {W : World} {b : Nat} {g f : Int → Int} (h : RoomAt W b g) (e : ∀ i : Nat, i < 24 → f i = g i) : RoomAt W b f := ⟨fun i hi => by rw [e i hi]; exact h.1 i hi, h.2⟩
theorem room_new (W : World) (t : TypeId) : RoomAt (W.alloc (.cells #[.int .i64 0, .int .i64 0, .int .i64 0, .int .i64 0, .int .i64 0, .int .i64 0, .int .i64 0, .int .i64 0, .int .i64 0, .int .i64 0, .int .i64 0, .int .i64 0, .int .i64 0, .int .i64 0, .int .i64 0, .int .i64 0, .int .i64 0, .int .i64 0, .int .i64 0, .int .i64 0, .int .i64 0, .int .i64 0, .int .i64 0, .int .i64 0] t)) W.heap.size (fun _ => 0) := by
  refine ⟨fun i hi => ?_, fun o => ?_⟩
  · have h := cells_new W (List.replicate 24 (.int .i64 0)) t i (.int .i64 0) (by rw [List.getElem?_replicate, if_pos hi])
    exact h
  · have hh : (W.alloc (.cells (List.replicate 24 (.int .i64 0)).toArray t)).heap[W.heap.size]? = some (.cells (List.replicate 24 (.int .i64 0)).toArray t) := World.alloc_heap_new _ _
    unfold World.frozen?
    rw [show (W.alloc (.cells #[.int .i64 0, .int .i64 0, .int .i64 0, .int .i64 0, .int .i64 0, .int .i64 0, .int .i64 0, .int .i64 0, .int .i64 0, .int .i64 0, .int .i64 0, .int .i64 0, .int .i64 0, .int .i64 0, .int .i64 0, .int .i64 0, .int .i64 0, .int .i64 0, .int .i64 0, .int .i64 0, .int .i64 0, .int .i64 0, .int .i64 0, .int .i64 0] t)).heap[W.heap.size]? = some (.cells (List.replicate 24 (.int .i64 0)).toArray t) from hh]
    simp
/-- A box of three cells, with its type. -/
def BoxT (W : World) (z : Nat) (t : TypeId) : Prop := ∃ cs, W.heap[z]? = some (.cells cs t (0, 0))
theorem own_ne {W : World} {lo z g n c : Nat} {t e : TypeId} {k : Nat} {a : Option Addr} {xs : List Value} (h : W.ownsRow lo e k (.slice a n c) n xs) (hb : BoxT W z t) (ht : t ≠ e) (hg : (Value.slice a n c).ownBlock = some g) : g ≠ z := by
  intro e'
  subst e'
  rcases h.2 with ⟨h1, h2⟩ | ⟨g', cap, cur, h1, _, hh, _⟩
  · obtain ⟨rfl, -, -⟩ := Value.slice.inj h1
    cases hg
  · obtain ⟨rfl, -, -⟩ := Value.slice.inj h1
    cases hg
    obtain ⟨cs, hcs⟩ := hb
    rw [hh] at hcs
    cases hcs
    exact ht rfl

theorem own_some' {W : World} {lo : Nat} {e : TypeId} {z n c : Nat} {a : Option Addr} {xs : List Value} (h : W.ownsRow lo e z (.slice a n c) n xs) (hn : 0 < n) : ∃ g, a = some ⟨g, 0, none⟩ := by
  rcases h.2 with ⟨h1, h2⟩ | ⟨g, c', cur, h1, _⟩
  · omega
  · obtain ⟨rfl, -, -⟩ := Value.slice.inj h1
    exact ⟨g, rfl⟩
theorem own_apart {W : World} {lo lo' : Nat} {e e' : TypeId} {k k' n n' : Nat} {v v' : Value} {xs xs' : List Value} (h : W.ownsRow lo e k v n xs) (h' : W.ownsRow lo' e' k' v' n' xs') (hne : e ≠ e') {b : Nat} (hb : v.ownBlock = some b) : ¬ v'.ownBlock = some b := by
  intro hb'
  rcases h.2 with ⟨rfl, _⟩ | ⟨g, cap, cur, rfl, _, hh, _⟩
  · cases hb
  · cases hb
    rcases h'.2 with ⟨rfl, _⟩ | ⟨g2, cap2, cur2, rfl, _, hh2, _⟩
    · cases hb'
    · cases hb'
      rw [hh] at hh2
      cases hh2
      exact hne rfl
/-- What the free operations of a region answer: the copies, the ring, its box. -/
def chgS (ep : Int) (l : List Mb) (ow : List Int) (n B : Nat) (t : Nat) (v : Value) (W : World) : Prop :=
  (t = 53 → ∃ a c, v = .slice a n c ∧ W.ownsRow B 35 3 (.slice a n c) n (flatB l)) ∧
  (t = 56 → ∃ a c, v = .slice a 64 c ∧ W.ownsRow B 3 1 (.slice a 64 c) 64 (ow.map (fun x => Value.int .i64 x))) ∧
  (t = 57 → ∃ a c a' c', v = .agg #[.int .i64 ep, .slice a n c, .slice a' 64 c'] ∧ W.ownsRow B 35 3 (.slice a n c) n (flatB l) ∧ W.ownsRow B 3 1 (.slice a' 64 c') 64 (ow.map (fun x => Value.int .i64 x))) ∧
  (t = 9 → ∃ z, v = ptr z ∧ B ≤ z ∧ Box3 W z (.int .i64 0) (.slice none 0 0) (.slice none 0 0) ∧ BoxT W z 27)
section
variable {ep : Int} {l : List Mb} {ow : List Int} {n B : Nat} {v : Value} {W : World}
theorem chgS_53 (h : ∃ a c, v = .slice a n c ∧ W.ownsRow B 35 3 (.slice a n c) n (flatB l)) : chgS ep l ow n B 53 v W := ⟨fun _ => h, fun e => absurd e (by decide), fun e => absurd e (by decide), fun e => absurd e (by decide)⟩
theorem chgS_56 (h : ∃ a c, v = .slice a 64 c ∧ W.ownsRow B 3 1 (.slice a 64 c) 64 (ow.map (fun x => Value.int .i64 x))) : chgS ep l ow n B 56 v W := ⟨fun e => absurd e (by decide), fun _ => h, fun e => absurd e (by decide), fun e => absurd e (by decide)⟩
theorem chgS_57 (h : ∃ a c a' c', v = .agg #[.int .i64 ep, .slice a n c, .slice a' 64 c'] ∧ W.ownsRow B 35 3 (.slice a n c) n (flatB l) ∧ W.ownsRow B 3 1 (.slice a' 64 c') 64 (ow.map (fun x => Value.int .i64 x))) : chgS ep l ow n B 57 v W := ⟨fun e => absurd e (by decide), fun e => absurd e (by decide), fun _ => h, fun e => absurd e (by decide)⟩
theorem chgS_9 (h : ∃ z, v = ptr z ∧ B ≤ z ∧ Box3 W z (.int .i64 0) (.slice none 0 0) (.slice none 0 0) ∧ BoxT W z 27) : chgS ep l ow n B 9 v W := ⟨fun e => absurd e (by decide), fun e => absurd e (by decide), fun e => absurd e (by decide), fun _ => h⟩
end
theorem BoxT.kept {W W' : World} {z : Nat} {t : TypeId} (h : BoxT W z t) (k : Keep (fun _ => False) W W') : BoxT W' z t := by
  obtain ⟨cs, hcs⟩ := h
  exact ⟨cs, k.heap hcs (fun h => h)⟩
theorem chgS_keep {ep : Int} {l : List Mb} {ow : List Int} {n B : Nat} (t : Nat) (v : Value) (w w' : World) (h : chgS ep l ow n B t v w) (k : Keep (fun _ => False) w w') : chgS ep l ow n B t v w' := by
  obtain ⟨h1, h2, h3, h4⟩ := h
  refine ⟨fun e => ?_, fun e => ?_, fun e => ?_, fun e => ?_⟩
  · obtain ⟨a, c, q1, q2⟩ := h1 e
    exact ⟨a, c, q1, ownsRow_keep q2 k (fun _ _ h => h)⟩
  · obtain ⟨a, c, q1, q2⟩ := h2 e
    exact ⟨a, c, q1, ownsRow_keep q2 k (fun _ _ h => h)⟩
  · obtain ⟨a, c, a', c', q1, q2, q3⟩ := h3 e
    exact ⟨a, c, a', c', q1, ownsRow_keep q2 k (fun _ _ h => h), ownsRow_keep q3 k (fun _ _ h => h)⟩
  · obtain ⟨z, q1, q2, q3, q4⟩ := h4 e
    exact ⟨z, q1, q2, q3.kept k, q4.kept k⟩

set_option maxRecDepth 100000 in
set_option maxHeartbeats 8000000 in
theorem changeR_ok (v vl : Value) (ep : Int) (lr l : List Mb) (ow : List Int) (w : World) (h : Rng w v ep lr ow) (hvr : validRB ep lr ow = true) (he : ep < 1000000) (hl : Mbs w vl l) (hv : VL l) (hT : Tab w) : Calls Tryz.prog 22 #[v, vl] w (RingPost (ep + 1) l (changeL PN QS l ow) w) := by
  have HT := Lib.hid hT
  have HRG := Lib.hid h
  have HVR := Lib.hid hvr
  have HOK := Lib.hid ((validRB_iff ep lr ow).1 hvr)
  have HML := Lib.hid hl
  have HV := Lib.hid hv
  have HVL := Lib.hid ((validL_iff l).2 hv)
  obtain ⟨hb0, vm, vo, rfl, hm0, ho0⟩ := h
  obtain ⟨ma, mn, mc, rfl⟩ : ∃ a n c, vm = .slice a n c := by obtain ⟨a, c, b, off, h, _⟩ := hm0.at_; exact ⟨_, _, _, h⟩
  obtain ⟨-, -, oa, oc, ob, oo, rfl, hoc, hoa, hocell⟩ := ho0
  obtain ⟨-, -, la, lc, lb, lo, rfl, hlc, hla, hlcell⟩ := hl
  have hep1 : 1 ≤ ep := HOK.out.1
  have hol : ow.length = 64 := HOK.out.2.2.2.1
  obtain ⟨ln, hln⟩ : ∃ n, l.length = n := ⟨_, rfl⟩
  have HLN := Lib.hid hln
  have hln24 : ln ≤ 24 := by rw [← hln]; exact hv.len
  have hln1 : 0 < ln := by rw [← hln]; exact List.length_pos_iff.2 hv.ne
  obtain rfl := hla (by omega)
  obtain rfl := hoa (by omega)
  have HOL := Lib.hid hol
  have HLC := Lib.hid hlcell
  have HOC := Lib.hid hocell
  rw [hln] at hlc HML ⊢
  rw [hol] at hoc HRG ⊢
  clear hT hvr hv hm0 hb0 hlcell hocell hla hoa hln hol
  have HX := Lib.hid (Box3.new w (.int .i64 ep) (.slice ma mn mc) (.slice (some ⟨ob, oo, none⟩) 64 oc) 27)
  have HY := Lib.hid (Box3.new (w.alloc (.cells #[.int .i64 ep, .slice ma mn mc, .slice (some ⟨ob, oo, none⟩) 64 oc] 27)) (.int .i64 0) (.slice none 0 0) (.slice none 0 0) 27)
  have HKA : Hid (Keep (fun _ => False) w (w.alloc (.cells #[.int .i64 ep, .slice ma mn mc, .slice (some ⟨ob, oo, none⟩) 64 oc] 27))) := Lib.hid ((Keep.refl _ w).alloc _)
  have HKB : Hid (Keep (fun _ => False) (w.alloc (.cells #[.int .i64 ep, .slice ma mn mc, .slice (some ⟨ob, oo, none⟩) 64 oc] 27)) ((w.alloc (.cells #[.int .i64 ep, .slice ma mn mc, .slice (some ⟨ob, oo, none⟩) 64 oc] 27)).alloc (.cells #[.int .i64 0, .slice none 0 0, .slice none 0 0] 27))) := Lib.hid ((Keep.refl _ _).alloc _)
  have HX0 := Lib.hid (HX.out.kept HKB.out)
  rw [World.size_alloc] at HY
  have HK0 := Lib.hid (HKA.out.trans HKB.out)
  clear HX HKA HKB
  go_enter Tryz.func22, Tryz.ntmps22
  go_wp2_with fail
  generalize (w.alloc (.cells #[.int .i64 ep, .slice ma mn mc, .slice (some ⟨ob, oo, none⟩) 64 oc] 27)).alloc (.cells #[.int .i64 0, .slice none 0 0, .slice none 0 0] 27) = W0 at *
  generalize hz : w.heap.size = z at HX0 HY ⊢
  have HZ := Lib.hid hz
  clear hz
  obtain ⟨x0, x1, x2, xf⟩ := HX0.out
  go_step3
  go_wp2_with fail
  clear x0 x1 x2 xf
  have hvc := validRing_any _ ep lr ow W0 (HRG.out.kept HK0.out)
  rw [HVR.out] at hvc
  with_reducible refine hvc.mono ?_
  clear hvc
  rintro e W1 ⟨rfl, k1⟩
  have HX1 := Lib.hid (HX0.out.kept k1)
  have HY1 := Lib.hid (HY.out.kept k1)
  have HK1 := Lib.hid (HK0.out.trans k1)
  clear k1 HX0 HY HK0
  go_wp2_with fail
  have hvc := valid_any _ l W1 (HML.out.kept HK1.out)
  rw [HVL.out] at hvc
  with_reducible refine hvc.mono ?_
  clear hvc
  rintro e W2 ⟨rfl, k2⟩
  have HX2 := Lib.hid (HX1.out.kept k2)
  have HY2 := Lib.hid (HY1.out.kept k2)
  have HK2 := Lib.hid (HK1.out.trans k2)
  clear k2 HX1 HY1 HK1
  obtain ⟨x0, x1, x2, xf⟩ := HX2.out
  go_upto_region 4 with (fail)
  clear x0 x1 x2 xf
  have HR3 := Lib.hid ((room_new W2 96).congr (f := gLim l 0) (fun n => gLim_zero l n))
  have HK23 : Hid (Keep (fun _ => False) W2 (W2.alloc (.cells #[.int .i64 0, .int .i64 0, .int .i64 0, .int .i64 0, .int .i64 0, .int .i64 0, .int .i64 0, .int .i64 0, .int .i64 0, .int .i64 0, .int .i64 0, .int .i64 0, .int .i64 0, .int .i64 0, .int .i64 0, .int .i64 0, .int .i64 0, .int .i64 0, .int .i64 0, .int .i64 0, .int .i64 0, .int .i64 0, .int .i64 0, .int .i64 0] 96))) := Lib.hid ((Keep.refl _ W2).alloc _)
  generalize W2.alloc (.cells #[.int .i64 0, .int .i64 0, .int .i64 0, .int .i64 0, .int .i64 0, .int .i64 0, .int .i64 0, .int .i64 0, .int .i64 0, .int .i64 0, .int .i64 0, .int .i64 0, .int .i64 0, .int .i64 0, .int .i64 0, .int .i64 0, .int .i64 0, .int .i64 0, .int .i64 0, .int .i64 0, .int .i64 0, .int .i64 0, .int .i64 0, .int .i64 0] 96) = W3 at *
  have HZB : Hid (z + 1 < W2.heap.size) := Lib.hid HY2.out.lt
  generalize W2.heap.size = b6 at *
  have HX3 := Lib.hid (HX2.out.kept HK23.out)
  have HY3 := Lib.hid (HY2.out.kept HK23.out)
  have HK3 := Lib.hid (HK2.out.trans HK23.out)
  clear HX2 HY2 HK2 HK23
  go_upto_region 5 with (fail)
  go_wp2_with fail
  go_loopg [37] ln (fun gh v37 wr => ∃ k : Nat, gh + k = ln ∧ v37 = .int .i64 k ∧ RoomAt wr b6 (gLim l k) ∧ Keep (fun j => j = b6) W3 wr)
  case atStart => exact ⟨0, by omega, rfl, HR3.out, Keep.refl _ _⟩
  case round =>
    clear HR3
    obtain ⟨k, hk, rfl, hroom, hkeep⟩ := hrel
    have HRM := Lib.hid hroom
    have HK := Lib.hid hkeep
    have HKW : Hid (Keep (fun _ => False) w wr) := Lib.hid (HK3.out.trans' hkeep (fun j e => .inr (by have := HZ.out; have := HZB.out; omega)))
    clear hroom hkeep
    by_cases hlt : k < ln
    · obtain ⟨m, hm⟩ : ∃ m, l[k]? = some m := ⟨_, List.getElem?_eq_getElem (by have := HLN.out; omega)⟩
      have c0 := HKW.out.cell (HLC.out k m hm).1 (fun h => h)
      have c1 := HKW.out.cell (HLC.out k m hm).2.1 (fun h => h)
      have c2 := HKW.out.cell (HLC.out k m hm).2.2 (fun h => h)
      have hok := HV.out.ok m (List.mem_of_getElem? hm)
      have HM := Lib.hid hm
      unfold okMb at hok
      have hkz : (k : Int) < (ln : Int) := by omega
      have hk0 : (0 : Int) ≤ (k : Int) := by omega
      clear hm
      obtain ⟨mn', mr, mw⟩ := m
      simp only [] at c0 c1 c2 hok
      obtain ⟨mq, rfl⟩ : ∃ mq : Nat, mn' = mq := ⟨mn'.toNat, by omega⟩
      go_upto_region 7 with (fail)
      clear c0 c1 c2
      have HB := Lib.hid (Box3.new wr (.int .i64 mq) (.int .i64 mr) (.int .i64 mw) 35)
      have HKV : Hid (Keep (fun _ => False) wr (wr.alloc (.cells #[.int .i64 mq, .int .i64 mr, .int .i64 mw] 35))) := Lib.hid ((Keep.refl _ wr).alloc _)
      have hbz := HRM.out.lt
      generalize wr.alloc (.cells #[.int .i64 mq, .int .i64 mr, .int .i64 mw] 35) = V at *
      generalize wr.heap.size = zb at *
      have HBZ : Hid (zb ≠ b6) := Lib.hid (by omega)
      clear hbz
      have a0 : ∀ p : KA (fun j => j = b6) V, p.val.cell? ⟨zb, 0, none⟩ = some (.int .i64 mq) := fun p => p.k.cell HB.out.1 (fun e => HBZ.out e)
      have hmq0 : (0 : Int) ≤ (mq : Int) := by omega
      have hmq1 : (mq : Int) < 24 := by omega
      have hmq2 : mq < 24 := by omega
      have HRV := Lib.hid (HRM.out.kept HKV.out)
      refine wp_region_walk [(true, 0), (true, 1), (true, 2), (true, 3), (true, 4), (false, 5), (false, 6), (false, 7)] (inKA (fun j => j = b6) V) (by kernel_rfl) (by kernel_rfl) ?_
      iterate 5 (refine walkW_read rfl (fun K hK => ?_); go_simp; refine hK _ ?_; clear hK K)
      clear a0
      have HKD : Hid (Keep (fun _ => False) V V.drew) := Lib.hid (Keep.refl _ V).drew
      have HLI := Lib.hid (limit_any _ l V.drew (HML.out.kept (HKW.out.trans (HKV.out.trans HKD.out))) mq (by unfold I64; omega))
      generalize V.drew = V1 at *
      refine walkW_do rfl (inKA.of (HKD.out.mono (fun _ h => h.elim))) (fun K hK => ?_)
      go_simp
      refine HLI.out.mono ?_
      rintro e V2 ⟨rfl, kk⟩
      refine hK _ _ ?_; clear hK K
      have HK12 := Lib.hid (HKD.out.trans kk)
      have HRV2 := Lib.hid (HRV.out.kept HK12.out)
      clear kk
      have cb := HRV2.out.1 mq hmq2
      have cf := HRV2.out.2
      have HRS := Lib.hid (HRV2.out.set hmq2 (limitL l mq))
      refine walkW_do rfl (inKA.of (HK12.out.mono (fun _ h => h.elim))) (fun K hK => ?_)
      go_simp
      refine hK _ _ ?_; clear hK K
      refine walkW_do rfl (inKA.of (HK12.out.mono (fun _ h => h.elim))) (fun K hK => ?_)
      go_simp
      refine hK _ _ ?_; clear hK K
      have HKS : Hid (Keep (fun j => j = b6) V (V2.setCell ⟨b6, mq, none⟩ (.int .i64 (limitL l mq)))) := Lib.hid ((HK12.out.mono (fun _ h => h.elim)).setCell (p := ⟨b6, mq, none⟩) _ (.inl rfl))
      clear cb cf
      have HRN : Hid (RoomAt (V2.setCell ⟨b6, mq, none⟩ (.int .i64 (limitL l mq))) b6 (gLim l (k + 1))) := Lib.hid (HRS.out.congr (fun n => gLim_succ HM.out n))
      generalize V2.setCell ⟨b6, mq, none⟩ (.int .i64 (limitL l mq)) = V3 at *
      refine ⟨inKA.of HKS.out, ?_⟩
      go_wp2_with fail
      go_roundg (gk - 1)
      case rel => exact ⟨k + 1, by omega, by go_num, HRN.out, HK.out.trans ((HKV.out.mono (fun _ h => h.elim)).trans HKS.out)⟩
      case measure => omega
    · have HRL := Lib.hid (HRM.out.congr (f := limitL l) (fun n => (gLim_all (by have := HLN.out; omega) n).symm))
      have hk' : k = ln := by omega
      have HX4 := Lib.hid (HX3.out.keep HK.out (by have := HZB.out; omega))
      have HY4 := Lib.hid (HY3.out.keep HK.out (by have := HZB.out; omega))
      have hkz : ¬ ((k : Int) < (ln : Int)) := by omega
      clear HRM HX3 HY3 HK HK3
      go_upto_region 9 with (fail)
      clear hkz hk' hk
      have hw1 : IntKind.i64.wrap (ep + 1) = ep + 1 := wrapI (by unfold I64; omega)
      have HIO : Hid (Its w (.slice (some ⟨ob, oo, none⟩) 64 oc) ow) := Lib.hid (by
        obtain ⟨vm', vo', e1, _, h2⟩ := HRG.out.at_
        cases e1
        exact h2)
      have x0 : ∀ p : KA (fun _ => False) wr, p.val.cell? ⟨z, 0, none⟩ = some (.int .i64 ep) := fun p => (HX4.out.kept p.k).1
      have x2 : ∀ p : KA (fun _ => False) wr, p.val.cell? ⟨z, 2, none⟩ = some (.slice (some ⟨ob, oo, none⟩) 64 oc) := fun p => (HX4.out.kept p.k).2.2.1
      refine wp_region_free [0, 1, 2, 3, 5, 6] [⟨4, 53, []⟩, ⟨7, 56, []⟩, ⟨9, 9, []⟩, ⟨8, 57, [53, 56]⟩] [(false, 10)] (inKA (fun _ => False) wr) (chgS (ep + 1) l ow ln wr.heap.size) (Keep (fun _ => False)) (by kernel_rfl) (by kernel_rfl) (inKA.of (Keep.refl _ wr).drew) chgS_keep (fun w w' hw hk => by obtain ⟨p, rfl⟩ := hw; exact inKA.of (p.k.trans hk)) ?_
      iterate 6 (refine headW_step rfl (fun K hK => ?_); go_simp; refine hK _ ?_; clear hK K)
      clear x0 x2 hw1
      refine ⟨?_, ?_, ?_⟩
      · intro h hh
        simp only [List.mem_cons, List.not_mem_nil, or_false] at hh
        rcases hh with rfl | rfl | rfl | rfl <;> simp
      · refine freeW_step rfl (fun vs W hC hS K hK => ?_) (freeW_step rfl (fun vs W hC hS K hK => ?_) (freeW_step rfl (fun vs W hC hS K hK => ?_) (freeW_step rfl (fun vs W hC hS K hK => ?_) trivial)))
        · obtain ⟨p, rfl⟩ := hC
          simp only [putL, List.foldl]
          have HCL := Lib.hid (cloneM_any _ l p.val (HML.out.kept (HKW.out.trans p.k)) (by have := HLN.out; omega))
          have hsz := p.k.size
          go_simp
          refine HCL.out.mono ?_
          rintro e W2 ⟨a, c, rfl, hown, kk⟩
          rw [HLN.out] at hown ⊢
          exact hK _ _ (chgS_53 ⟨a, c, rfl, ownsRow_lo hown hsz⟩) kk
        · obtain ⟨p, rfl⟩ := hC
          simp only [putL, List.foldl]
          have HCL := Lib.hid (cloneI_any _ ow p.val (HIO.out.kept (HKW.out.trans p.k)) (by have := HOL.out; omega))
          have hsz := p.k.size
          go_simp
          refine HCL.out.mono ?_
          rintro e W2 ⟨a, c, rfl, hown, kk⟩
          rw [HOL.out] at hown ⊢
          exact hK _ _ (chgS_56 ⟨a, c, rfl, ownsRow_lo hown hsz⟩) kk
        · obtain ⟨p, rfl⟩ := hC
          simp only [putL, List.foldl]
          have hsz := p.k.size
          go_simp
          exact hK _ _ (chgS_9 ⟨p.val.heap.size, rfl, hsz, Box3.new _ _ _ _ _, ⟨_, World.alloc_heap_new _ _⟩⟩) ((Keep.refl _ p.val).alloc _)
        · obtain ⟨a, c, e1, h1⟩ := (hS 53 (by simp)).1 rfl
          obtain ⟨a', c', e2, h2⟩ := (hS 56 (by simp)).2.1 rfl
          simp only [putL, List.foldl]
          generalize vs 53 = v53 at *
          generalize vs 56 = v56 at *
          subst e1 e2
          go_simp
          exact hK _ _ (chgS_57 ⟨a, c, a', c', rfl, h1, h2⟩) (Keep.refl _ W)
      · intro vs W hC hS
        obtain ⟨p, rfl⟩ := hC
        obtain ⟨am, cm, ao, co, e1, hm9, ho9⟩ := (hS ⟨8, 57, [53, 56]⟩ (by simp)).2.2.1 rfl
        obtain ⟨z9, e2, hz9, hb9, ht9⟩ := (hS ⟨9, 9, []⟩ (by simp)).2.2.2 rfl
        obtain ⟨a53, c53, e3, -⟩ := (hS ⟨4, 53, []⟩ (by simp)).1 rfl
        obtain ⟨a56, c56, e4, -⟩ := (hS ⟨7, 56, []⟩ (by simp)).2.1 rfl
        simp only [] at e1 e2 e3 e4
        simp only [List.map, putL, List.foldl]
        generalize vs 57 = v57 at *
        generalize vs 9 = v9 at *
        generalize vs 53 = v53 at *
        generalize vs 56 = v56 at *
        subst e1 e2 e3 e4
        obtain ⟨og, rfl⟩ := own_some' ho9 (by decide)
        have HKP := Lib.hid p.k
        have HRP := Lib.hid (HRL.out.kept p.k)
        have HXP := Lib.hid (HX4.out.kept p.k)
        have HYP := Lib.hid (HY4.out.kept p.k)
        have HB6 : Hid (b6 < wr.heap.size) := Lib.hid HRL.out.lt
        have HBP := Lib.hid hb9
        have HMP := Lib.hid hm9
        have HOP := Lib.hid ho9
        have HOGZ : Hid (og ≠ z9) := Lib.hid (own_ne ho9 ht9 (by decide) rfl)
        have HGMZ : Hid (∀ b, (Value.slice am ln cm).ownBlock = some b → b ≠ z9) := Lib.hid (fun b hb => own_ne hm9 ht9 (by decide) hb)
        have HGMO : Hid (∀ b, (Value.slice am ln cm).ownBlock = some b → b ≠ og) := Lib.hid (fun b hb e => own_apart hm9 ho9 (by decide) hb (by rw [e]; rfl))
        have HZ9 := Lib.hid hz9
        have HOGB : Hid (wr.heap.size ≤ og) := Lib.hid (ho9.lt og rfl).1
        have HGMB : Hid (∀ b, (Value.slice am ln cm).ownBlock = some b → wr.heap.size ≤ b) := Lib.hid (fun b hb => (hm9.lt b hb).1)
        clear hS hz9 hb9 ht9 hm9 ho9 HRL HX4 HY4
        have HKWP := Lib.hid (HKW.out.trans p.k)
        have HSZW := Lib.hid HKW.out.size
        generalize p.val = V at *
        obtain ⟨B, hB⟩ : ∃ B, wr.heap.size = B := ⟨_, rfl⟩
        have HSZR : Hid (wr.heap.size ≤ B) := Lib.hid (by omega)
        rw [hB] at HZ9 HOGB HGMB HB6 HSZW HMP HOP
        clear hB
        obtain ⟨y0, y1, y2, yf⟩ := HBP.out
        refine walkW_do rfl (inKA.of HKP.out) (fun K hK => ?_)
        go_simp
        refine hK _ _ ?_; clear hK K
        clear y0 y1 y2 yf
        have kq : Keep (fun j => j = z9) V (((V.setCell ⟨z9, 0, none⟩ (.int .i64 (ep + 1))).setCell ⟨z9, 1, none⟩ (.slice am ln cm)).setCell ⟨z9, 2, none⟩ (.slice (some ⟨og, 0, none⟩) 64 co)) := (((Keep.refl (fun j => j = z9) V).setCell (p := ⟨z9, 0, none⟩) _ (.inl rfl)).setCell (p := ⟨z9, 1, none⟩) _ (.inl rfl)).setCell (p := ⟨z9, 2, none⟩) _ (.inl rfl)
        have HBQ := Lib.hid (((HBP.out.set0 (.int .i64 (ep + 1))).set1 (.slice am ln cm)).set2 (.slice (some ⟨og, 0, none⟩) 64 co))
        have HMQ := Lib.hid (ownsRow_keep HMP.out kq (fun b hb e => HGMZ.out b hb e))
        have HOQ := Lib.hid (ownsRow_keep HOP.out kq (fun b hb e => by cases hb; exact HOGZ.out e))
        have HRQ := Lib.hid (HRP.out.keep kq (by have := HB6.out; have := HZ9.out; omega))
        have HXQ := Lib.hid (HXP.out.keep kq (by have := HZ9.out; have := HB6.out; have := HZB.out; omega))
        have HYQ := Lib.hid (HYP.out.keep kq (by have := HZ9.out; have := HB6.out; have := HZB.out; omega))
        have HKQ : Hid (Keep (fun _ => False) w (((V.setCell ⟨z9, 0, none⟩ (.int .i64 (ep + 1))).setCell ⟨z9, 1, none⟩ (.slice am ln cm)).setCell ⟨z9, 2, none⟩ (.slice (some ⟨og, 0, none⟩) 64 co))) := Lib.hid (HKWP.out.trans' kq (fun j e => .inr (by have := HSZW.out; have := HZ9.out; omega)))
        have HKR : Hid (inKA (fun _ => False) wr (((V.setCell ⟨z9, 0, none⟩ (.int .i64 (ep + 1))).setCell ⟨z9, 1, none⟩ (.slice am ln cm)).setCell ⟨z9, 2, none⟩ (.slice (some ⟨og, 0, none⟩) 64 co))) := Lib.hid (inKA.of (HKP.out.trans' kq (fun j e => .inr (by have := HZ9.out; have := HSZR.out; omega))))
        clear kq HBP HMP HOP HRP HXP HYP HKP HKWP HKW
        generalize ((V.setCell ⟨z9, 0, none⟩ (.int .i64 (ep + 1))).setCell ⟨z9, 1, none⟩ (.slice am ln cm)).setCell ⟨z9, 2, none⟩ (.slice (some ⟨og, 0, none⟩) 64 co) = W9 at *
        refine ⟨HKR.out, ?_⟩
        clear HKR
        obtain ⟨b0, b1, b2, bf⟩ := HBQ.out
        go_upto_region 12 with (fail)
        clear b0 b1 b2 bf
        have HND := Lib.hid (okRing_nodes HOK.out)
        have HNE : Hid (∀ n ∈ ow, n ≠ -1) := Lib.hid (fun n hn e => by have := okRing_nodes HOK.out n hn; omega)
        have HKC : Hid (∀ i n, i ≤ 64 → n ≠ -1 → cnt (keepR ow (limitL l) i) n ≤ limitL l n) := Lib.hid (fun i n hi hn => by
          rw [keepR_cnt (fun n => (limitL_nn l n).1) hn (by have := HOL.out; omega)]; omega)
        clear HRG HVR HVL HIO hlt
        go_loopg [10, 61] 64 (fun gh v10 v61 wq => ∃ i : Nat, gh + i = 64 ∧ v61 = .int .i64 i ∧ wq.ownsRow W9.heap.size 3 1 v10 (homeL (keepR ow (limitL l) i)).length ((homeL (keepR ow (limitL l) i)).map (fun s : Nat => Value.int .i64 s)) ∧ RoomAt wq b6 (fun n => limitL l n - cnt (keepR ow (limitL l) i) n) ∧ Keep (fun j => j = b6) W9 wq)
        case atStart => exact ⟨0, by omega, rfl, by simpa [keepR, homeL] using World.ownsRow_nil W9 W9.heap.size 3 1, HRQ.out.congr (fun n => by simp [keepR, cnt]), Keep.refl _ _⟩
        case round =>
          obtain ⟨i, hi, rfl, hown, hroom, hkeep⟩ := hrel
          have HHO := Lib.hid hown
          have HRM := Lib.hid hroom
          have HK := Lib.hid hkeep
          have hb9 : b6 < W9.heap.size := HRQ.out.lt
          clear hown hroom hkeep HRQ
          have HB9 := Lib.hid hb9
          by_cases hlt2 : i < 64
          · obtain ⟨x, hx⟩ : ∃ x, ow[i]? = some x := ⟨_, List.getElem?_eq_getElem (by have := HOL.out; omega)⟩
            have hxb := HND.out x (List.mem_of_getElem? hx)
            obtain ⟨xq, rfl⟩ : ∃ xq : Nat, x = xq := ⟨x.toNat, by omega⟩
            have hxq : xq < 24 := by omega
            have HGD : Hid (ow.getD i 0 = (xq : Int)) := Lib.hid (by rw [List.getD_eq_getElem?_getD, hx]; rfl)
            have HOI := Lib.hid (ownsRow_keep HOQ.out HK.out (fun b hb e => by cases hb; have h1 : og = b6 := e; have := HOGB.out; have := HB6.out; omega))
            have cx : wr.cell? ⟨og, i, none⟩ = some (.int .i64 xq) := by
              rw [HOI.out.cellAt i (by omega), List.getElem?_map, hx]; rfl
            have cr : wr.cell? ⟨b6, xq, none⟩ = some (.int .i64 (limitL l xq - cnt (keepR ow (limitL l) i) xq)) := HRM.out.1 xq hxq
            have cf := HRM.out.2
            have hle := HKC.out i xq (by omega) (by omega)
            have hln0 := limitL_nn l xq
            have hcn0 := cnt_nn (keepR ow (limitL l) i) xq
            obtain ⟨rv, hrv⟩ : ∃ rv, limitL l xq - cnt (keepR ow (limitL l) i) xq = rv := ⟨_, rfl⟩
            have HRV := Lib.hid hrv
            rw [hrv] at cr
            have hrb : 0 ≤ rv ∧ rv ≤ 1280 := by omega
            have hiz : (i : Int) < 64 := by omega
            have hi0 : (0 : Int) ≤ (i : Int) := by omega
            have hx0 : (0 : Int) ≤ (xq : Int) := by omega
            have hx1 : (xq : Int) < 24 := by omega
            clear hx hxb hle hln0 hcn0 hrv
            by_cases hpos : 0 < rv
            · have HKN : Hid (keepR ow (limitL l) (i + 1) = keepR ow (limitL l) i ++ [(xq : Int)]) := Lib.hid (by
                rw [keepR_succ, HGD.out, if_pos (by have := HRV.out; omega)])
              have HHN : Hid (homeL (keepR ow (limitL l) (i + 1)) = homeL (keepR ow (limitL l) i)) := Lib.hid (by
                rw [HKN.out, homeL_snoc, if_neg (by omega), List.append_nil])
              have HRS : Hid (RoomAt (wr.setCell ⟨b6, xq, none⟩ (.int .i64 (rv - 1))) b6 (fun n => limitL l n - cnt (keepR ow (limitL l) (i + 1)) n)) := Lib.hid ((HRM.out.set hxq (rv - 1)).congr (fun n => by
                rw [HKN.out, cnt_snoc]
                show _ = if n = (xq : Int) then rv - 1 else limitL l n - cnt (keepR ow (limitL l) i) n
                split
                · rename_i e; subst e; have := HRV.out; omega
                · omega))
              have HKS : Hid (Keep (fun j => j = b6) W9 (wr.setCell ⟨b6, xq, none⟩ (.int .i64 (rv - 1)))) := Lib.hid (HK.out.setCell (p := ⟨b6, xq, none⟩) _ (.inl rfl))
              have HHS : Hid ((wr.setCell ⟨b6, xq, none⟩ (.int .i64 (rv - 1))).ownsRow W9.heap.size 3 1 u10 (homeL (keepR ow (limitL l) (i + 1))).length ((homeL (keepR ow (limitL l) (i + 1))).map (fun s : Nat => Value.int .i64 s))) := Lib.hid (by
                rw [HHN.out]
                exact ownsRow_keep HHO.out ((Keep.refl (fun j => j = b6) wr).setCell (p := ⟨b6, xq, none⟩) _ (.inl rfl)) (fun b hb e => by have := (HHO.out.lt b hb).1; have := HB9.out; have e2 : b = b6 := e; omega))
              go_wp2_with fail
              clear cx cr cf
              generalize wr.setCell ⟨b6, xq, none⟩ (.int .i64 (rv - 1)) = W10 at *
              go_roundg (gk - 1)
              case rel => exact ⟨i + 1, by omega, by go_num, HHS.out, HRS.out, HKS.out⟩
              case measure => omega
            · have HKN : Hid (keepR ow (limitL l) (i + 1) = keepR ow (limitL l) i ++ [-1]) := Lib.hid (by
                rw [keepR_succ, HGD.out, if_neg (by have := HRV.out; omega)])
              have HHN : Hid (homeL (keepR ow (limitL l) (i + 1)) = homeL (keepR ow (limitL l) i) ++ [i]) := Lib.hid (by
                rw [HKN.out, homeL_snoc, if_pos rfl, keepR_len])
              obtain ⟨v', W10, hr, hown', hk10, -, -⟩ := app_one 22 3 1 8 _ Tryz.underlying22 infoInt rfl (by decide) (by decide) wr 22 W9.heap.size u10 _ _ [.int .i64 i] HHO.out rfl (by simp [Value.oneCell']) (by have := homeL_len (keepR ow (limitL l) i); rw [keepR_len] at this; omega) HK.out.size
              have HR : Hid ((Builtin.append_ #[22, 22] 22 #[u10, .slice (some ⟨wr.heap.size, 0, none⟩) 1 1]).run Tryz.prog (wr.alloc (.cells #[.int .i64 i] 3)) = .ok v' W10) := Lib.hid hr
              have HKS : Hid (Keep (fun j => j = b6) W9 W10) := Lib.hid (HK.out.trans' hk10 (fun j e => .inr (HHO.out.lt j e).1))
              have HRS : Hid (RoomAt W10 b6 (fun n => limitL l n - cnt (keepR ow (limitL l) (i + 1)) n)) := Lib.hid ((HRM.out.keep hk10 (fun e => by have := (HHO.out.lt _ e).1; have := HB9.out; omega)).congr' (fun n _ => by
                rw [HKN.out, cnt_snoc, if_neg (by omega), Int.add_zero]))
              have HHS : Hid (W10.ownsRow W9.heap.size 3 1 v' (homeL (keepR ow (limitL l) (i + 1))).length ((homeL (keepR ow (limitL l) (i + 1))).map (fun s : Nat => Value.int .i64 s))) := Lib.hid (by
                rw [HHN.out, List.map_append, List.length_append]
                exact hown')
              clear hr hown' hk10
              go_wp2_with (at_builtin; refine wpList_app rfl (.tmp 75) (.tmp 77) 22 rfl rfl rfl HR.out ?_)
              clear cx cr cf
              go_roundg (gk - 1)
              case rel => exact ⟨i + 1, by omega, by go_num, HHS.out, HRS.out, HKS.out⟩
              case measure => omega
          · obtain ⟨R64, hsl, hh64, hp64, hrr, hhl, hpg⟩ : ∃ (R64 : List Int) (hsl : List Nat), HomeAt l ow hsl ∧ PlaceAt PN QS l ow 0 R64 ∧ RoomAt wr b6 (fun n => limitL l n - cnt R64 n) ∧ wr.ownsRow W9.heap.size 3 1 u10 hsl.length (hsl.map (fun s : Nat => Value.int .i64 s)) ∧ progL ow R64 = ow := by
              have e : i = 64 := by omega
              have h1 := HHO.out
              have h2 := HRM.out
              rw [e] at h1 h2
              exact ⟨_, _, ⟨rfl⟩, .first, h2, h1, progL_start HOL.out⟩
            have HH64 := Lib.hid hh64
            have HP64 := Lib.hid hp64
            have HPG := Lib.hid hpg
            have hi64 : i = 64 := by omega
            have HI64 := Lib.hid hi64
            clear HHO HRM HKC hh64 hp64 hpg hi64
            have HHO := Lib.hid hhl
            have HRM := Lib.hid hrr
            clear hhl hrr
            have HOI := Lib.hid (ownsRow_keep HOQ.out HK.out (fun b hb e => by cases hb; have h1 : og = b6 := e; have := HOGB.out; have := HB6.out; omega))
            have HMI := Lib.hid (ownsRow_keep HMQ.out HK.out (fun b hb e => by have h1 : b = b6 := e; have := HGMB.out b hb; have := HB6.out; omega))
            have HBI := Lib.hid (HBQ.out.keep HK.out (fun e => by have h1 : z9 = b6 := e; have := HZ9.out; have := HB6.out; omega))
            have HYI := Lib.hid (HYQ.out.keep HK.out (fun e => by have h1 : z + 1 = b6 := e; have := HZB.out; omega))
            have HKI : Hid (Keep (fun _ => False) w wr) := Lib.hid (HKQ.out.trans' HK.out (fun j e => .inr (by have h1 : j = b6 := e; have := HZB.out; have := HZ.out; omega)))
            have HZ99 : Hid (z9 < W9.heap.size ∧ og < W9.heap.size ∧ ∀ b, (Value.slice am ln cm).ownBlock = some b → b < W9.heap.size) := Lib.hid ⟨HBQ.out.lt, (HOQ.out.lt og rfl).2, fun b hb => (HMQ.out.lt b hb).2⟩
            have hiz : ¬ ((i : Int) < 64) := by have := HI64.out; omega
            clear HOQ HMQ HBQ HYQ HKQ HXQ hlt2 hi
            obtain ⟨ha, hc, rfl⟩ := own_form HHO.out
            go_upto_region 18 with (fail)
            clear hiz
            go_wp2_with fail
            with_reducible refine (circleP_any _ l wr (HML.out.kept HKI.out) HV.out (HT.out.kept HKI.out)).mono ?_
            rintro e W11 ⟨vp, rfl, hpts, k11, hpb⟩
            have HPT := Lib.hid hpts
            have HPB : Hid (∀ b, vp.ownBlock = some b → W9.heap.size ≤ b) := Lib.hid (fun b hb => Nat.le_trans HK.out.size (hpb b hb))
            have HO11 := Lib.hid (ownsRow_keep HOI.out k11 (fun _ _ h => h))
            have HM11 := Lib.hid (ownsRow_keep HMI.out k11 (fun _ _ h => h))
            have HH11 := Lib.hid (ownsRow_keep HHO.out k11 (fun _ _ h => h))
            have HB11 := Lib.hid (HBI.out.kept k11)
            have HY11 := Lib.hid (HYI.out.kept k11)
            have HK11 := Lib.hid (HKI.out.trans k11)
            have HR11 := Lib.hid (HRM.out.kept k11)
            have HS11 : Hid (W9.heap.size ≤ W11.heap.size) := Lib.hid (Nat.le_trans HK.out.size k11.size)
            clear hpts k11 hpb HOI HMI HHO HBI HYI HKI HRM HK
            obtain ⟨pn, pa, pc, pb, po, rfl, hpc, hpa, hpcell⟩ := HPT.out
            have hcl : 0 < (circ PN l).length := by
              have h1 := draws_len PN l HV.out.ok
              have h2 := HV.out.wsum
              have h3 : (circ PN l).length = (draws PN l).length := (sortMk_perm _).length_eq
              omega
            have HCL := Lib.hid (circ_len HV.out)
            obtain rfl := hpa hcl
            have HPC := Lib.hid hpcell
            obtain ⟨cn, hcn⟩ : ∃ n, (circ PN l).length = n := ⟨_, rfl⟩
            have HCN := Lib.hid hcn
            rw [hcn] at hpc hcl HCL HPT ⊢
            have HCS := Lib.hid (circ_sorted PN HV.out.asc)
            clear hpcell hpa hcn pn
            obtain ⟨hn, hhn⟩ : ∃ n, hsl.length = n := ⟨_, rfl⟩
            have HHN := Lib.hid hhn
            rw [hhn] at HH11 ⊢
            clear hhn
            have hhb : hn ≤ 64 := by
              have h1 := homeL_len (keepR ow (limitL l) 64)
              rw [HH64.out.eq, keepR_len, HHN.out] at h1
              exact h1
            have HOS : Hid (W11.ownsRow B 3 1 (.slice (some ⟨og, 0, none⟩) 64 co) 64 ((progL ow R64).map (fun x => Value.int .i64 x))) := Lib.hid (by
              rw [HPG.out]
              exact HO11.out)
            have HRS := HR11
            clear HO11 HR11 HPG HI64
            go_upto_region 19 with (fail)
            go_step3
            go_wp2_with fail
            go_loopg [84] hn (fun gh v84 wq => ∃ (i : Nat) (R : List Int), gh + i = hn ∧ v84 = .int .i64 i ∧ PlaceAt PN QS l ow i R ∧ RoomAt wq b6 (fun n => limitL l n - cnt R n) ∧ wq.ownsRow B 3 1 (.slice (some ⟨og, 0, none⟩) 64 co) 64 ((progL ow R).map (fun x => Value.int .i64 x)) ∧ Keep (fun j => j = b6 ∨ j = og) W11 wq)
            case atStart => exact ⟨0, R64, by omega, rfl, HP64.out, HRS.out, HOS.out, Keep.refl _ _⟩
            case round =>
              clear HRS HOS HP64
              obtain ⟨i, R, hi, rfl, hpl, hroom, hown, hkeep⟩ := hrel
              have HPL := Lib.hid hpl
              clear hpl
              have HRM := Lib.hid hroom
              have HOI := Lib.hid hown
              have HK := Lib.hid hkeep
              clear hroom hown hkeep
              have HKW : Hid (Keep (fun _ => False) w wr) := Lib.hid (HK11.out.trans' HK.out (fun j e => .inr (by
                have h1 := HZ.out
                have h2 := HZB.out
                have h3 := HOGB.out
                have h4 := HB6.out
                have h5 : j = b6 ∨ j = og := e
                omega)))
              by_cases hlt2 : i < hn
              · obtain ⟨s, hs⟩ : ∃ s, hsl[i]? = some s := ⟨_, List.getElem?_eq_getElem (by rw [HHN.out]; exact hlt2)⟩
                obtain ⟨hs64, hRl, hRle, nn, hf, hn0, hn23, hRs, hnext⟩ := HPL.out.find HV.out HOL.out HH64.out hs
                obtain ⟨hg, rfl⟩ := own_some' HH11.out (by omega)
                have HHI := Lib.hid (ownsRow_keep HH11.out HK.out (fun b hb e => by
                  cases hb
                  have h1 := (HH11.out.lt hg rfl).1
                  have h5 : hg = b6 ∨ hg = og := e
                  have := HZ99.out
                  have := HB9.out
                  omega))
                have ch : wr.cell? ⟨hg, i, none⟩ = some (.int .i64 s) := by
                  rw [HHI.out.cellAt i (by omega), List.getElem?_map, hs]; rfl
                have HF := Lib.hid hf
                have HNX := Lib.hid hnext
                have HRL := Lib.hid hRl
                have HRS0 := Lib.hid hRs
                have HRLE := Lib.hid hRle
                have HPTI := Lib.hid (HPT.out.keep HK.out (fun b hb e => by
                  cases hb
                  have h5 : pb = b6 ∨ pb = og := e
                  have := HPB.out pb rfl
                  have := HZ99.out
                  have := HB9.out
                  omega))
                have hiz : (i : Int) < (hn : Int) := by omega
                have hi0 : (0 : Int) ≤ (i : Int) := by omega
                have hs0 : (0 : Int) ≤ (s : Int) := by omega
                have hs1 : (s : Int) < 64 := by omega
                clear hs hf hnext hRl hRle hRs
                go_wp2_with fail
                clear ch
                with_reducible refine (itoa_small s (by omega) _).mono ?_
                rintro e w' ⟨rfl, rfl⟩
                have hds : (dig s).size ≤ 2 := dig_size (by omega)
                have HPS : Hid (Calls Tryz.prog 70 #[.string ((⟨#[115, 108, 111, 116, 32]⟩ : ByteArray) ++ dig s)] wr fun e w' => e = .returned (.int .i64 (QS s)) ∧ wr = w') := Lib.hid (by
                  rw [slotT_ref']
                  exact point_any _ (slotT_size (by omega)) wr (HT.out.kept HKW.out))
                generalize dig s = ds at *
                go_wp2_with fail
                with_reducible refine HPS.out.mono ?_
                rintro e w' ⟨rfl, rfl⟩
                clear hds HPS
                go_wp2_with fail
                with_reducible refine (bsearchP_any _ (circ PN l) (QS s) wr HPTI.out HCS.out).mono ?_
                rintro e W12 ⟨⟨bb, rfl⟩, k12⟩
                have HK12 := Lib.hid (HK.out.trans (k12.mono (fun _ h => h.elim)))
                have HR12 := Lib.hid (HRM.out.kept k12)
                have HO12 := Lib.hid (ownsRow_keep HOI.out k12 (fun _ _ h => h))
                have HP12 := Lib.hid (HPTI.out.kept k12)
                have HCW : Hid (∀ j, j < cn → ∃ x, (circ PN l)[(lows (circ PN l) (QS s) + j) % cn]? = some x ∧ cwN (circ PN l) (QS s) j = x.node) := Lib.hid (fun j hj => by
                  have := cwN_at HCS.out (QS s) (i := j) (by rw [HCN.out]; exact hj)
                  rwa [HCN.out] at this)
                have HCO : Hid (∀ j, j < cn → (ords PN l (QS s))[j]? = some (cwN (circ PN l) (QS s) j)) := Lib.hid (fun j hj => ords_at l (QS s) (by rw [HCN.out]; exact hj))
                have HCLN : Hid ((ords PN l (QS s)).length = cn) := Lib.hid (by unfold ords; rw [List.length_map, rot_len, HCN.out])
                have hlo := lows_le (circ PN l) (QS s)
                rw [HCN.out] at hlo
                clear k12 HRM HOI HPTI
                generalize lows (circ PN l) (QS s) = lw at *
                go_wp2_with fail
                go_loopg [100] cn (fun gq v100 wz => ∃ q : Nat, gq + q = cn ∧ v100 = .int .i64 q ∧ Hid (∀ j, j < q → limitL l (cwN (circ PN l) (QS s) j) - cnt R (cwN (circ PN l) (QS s) j) ≤ 0) ∧ wz = W12)
                case atStart => exact ⟨0, by omega, rfl, Lib.hid (fun j hj => by omega), rfl⟩
                case round =>
                  obtain ⟨q, hq, rfl, HNO, rfl⟩ := hrel
                  by_cases hqn : q < cn
                  · obtain ⟨x, hx, hcw⟩ := HCW.out q hqn
                    obtain ⟨-, a', c', b', off', hvc, -, ha', hcell⟩ := HP12.out
                    have hcx := hcell _ x hx
                    obtain ⟨r1, r2⟩ : b' = pb ∧ off' = po := by
                      have h1 := ha' (by rw [HCN.out]; omega)
                      obtain ⟨h2, -, -⟩ := Value.slice.inj hvc
                      rw [h1] at h2
                      cases h2
                      exact ⟨rfl, rfl⟩
                    obtain ⟨rfl, rfl⟩ := And.intro r1 r2
                    have c1 := hcx.2
                    obtain ⟨ix, hix⟩ : ∃ ix, (lw + q) % cn = ix := ⟨_, rfl⟩
                    rw [hix] at c1
                    have e1 : ((lw : Int) + (q : Int)) % (cn : Int) = (ix : Int) := by rw [← hix]; first | rw [Int.natCast_emod, Int.natCast_add] | rw [Int.natCast_mod, Int.natCast_add] | simp
                    have hixn : ix < cn := by rw [← hix]; exact Nat.mod_lt _ (by omega)
                    obtain ⟨xq, hxq⟩ : ∃ xq : Nat, x.node = xq := by
                      have hm : x ∈ circ PN l := List.mem_of_getElem? hx
                      obtain ⟨m, hm1, hm2⟩ := (mem_circ PN).1 hm
                      have h1 := ((mem_drawM PN).1 hm2).1
                      have h2 := HV.out.ok m hm1
                      unfold okMb at h2
                      exact ⟨x.node.toNat, by omega⟩
                    have hxq24 : xq < 24 := by
                      have hm : x ∈ circ PN l := List.mem_of_getElem? hx
                      obtain ⟨m, hm1, hm2⟩ := (mem_circ PN).1 hm
                      have h1 := ((mem_drawM PN).1 hm2).1
                      have h2 := HV.out.ok m hm1
                      unfold okMb at h2
                      omega
                    rw [hxq] at c1 hcw
                    have HCQ := Lib.hid hcw
                    have cr : wr.cell? ⟨b6, xq, none⟩ = some (.int .i64 (limitL l xq - cnt R xq)) := HR12.out.1 xq hxq24
                    have cf := HR12.out.2
                    have hln0 := limitL_nn l xq
                    have hle := HRLE.out xq (by omega)
                    have hcn0 := cnt_nn R xq
                    obtain ⟨rv, hrv⟩ : ∃ rv, limitL l xq - cnt R xq = rv := ⟨_, rfl⟩
                    have HRV := Lib.hid hrv
                    rw [hrv] at cr
                    have hrb : 0 ≤ rv ∧ rv ≤ 1280 := by omega
                    have hqz : (q : Int) < (cn : Int) := by omega
                    have hcb : cn ≤ 1536 := HCL.out
                    have hq0 : (0 : Int) ≤ (q : Int) := by omega
                    have hx0 : (0 : Int) ≤ (xq : Int) := by omega
                    have hx1 : (xq : Int) < 24 := by omega
                    clear hx hcw hvc ha' hcell hcx hix r1 r2 hxq hln0 hle hcn0 hrv
                    by_cases hpos : 0 < rv
                    · have HEQ : Hid (nn = (xq : Int)) := Lib.hid (by
                        have h1 := HF.out
                        unfold firstN at h1
                        rw [find_first (HCO.out q hqn) (by rw [HCQ.out]; have := HRV.out; simp only [decide_eq_true_eq]; omega) (fun j y hj hy => by
                          rw [HCO.out j (by omega)] at hy
                          cases hy
                          have := HNO.out j hj
                          simp only [decide_eq_false_iff_not]
                          omega)] at h1
                        rw [HCQ.out] at h1
                        exact (Option.some.inj h1).symm)
                      have HBZ := Lib.hid (HB11.out.keep HK12.out (fun e => by
                        have h5 : z9 = b6 ∨ z9 = og := e
                        have := HOGZ.out
                        have := HZ9.out
                        have := HB6.out
                        omega))
                      have hbz := (HBZ.out.other (b := b6) (o := xq) (by have := HZ9.out; have := HB6.out; omega) (.int .i64 (rv - 1))).2.2.1
                      have kq1 := (Keep.refl (fun j => j = b6) wr).setCell (p := ⟨b6, xq, none⟩) (.int .i64 (rv - 1)) (.inl rfl)
                      have HOW1 := Lib.hid (ownsRow_keep HO12.out kq1 (fun b hb e => by cases hb; have h5 : og = b6 := e; have := HOGB.out; have := HB6.out; omega))
                      have HRW1 := Lib.hid ((HR12.out.set hxq24 (rv - 1)))
                      have yc : ∃ u, (wr.setCell ⟨b6, xq, none⟩ (.int .i64 (rv - 1))).cell? ⟨og, s, none⟩ = some u := by
                        rw [HOW1.out.cellAt s (by omega), List.getElem?_map, progL_get ow R hs64]
                        exact ⟨_, rfl⟩
                      obtain ⟨yu, yc⟩ := yc
                      have yf : ∀ o, (wr.setCell ⟨b6, xq, none⟩ (.int .i64 (rv - 1))).frozen? ⟨og, o, none⟩ = false := fun o => HOW1.out.frozenAt o
                      have HST := Lib.hid (HOW1.out.stored s (.int .i64 xq)).1
                      have HKN : Hid (Keep (fun j => j = b6 ∨ j = og) W11 ((wr.setCell ⟨b6, xq, none⟩ (.int .i64 (rv - 1))).setCell ⟨og, s, none⟩ (.int .i64 xq))) := Lib.hid ((HK12.out.setCell (p := ⟨b6, xq, none⟩) _ (.inl (.inl rfl))).setCell (p := ⟨og, s, none⟩) _ (.inl (.inr rfl)))
                      have HRN : Hid (RoomAt ((wr.setCell ⟨b6, xq, none⟩ (.int .i64 (rv - 1))).setCell ⟨og, s, none⟩ (.int .i64 xq)) b6 (fun n => limitL l n - cnt (R.set s nn) n)) := Lib.hid ((HRW1.out.keep ((Keep.refl (fun j => j = og) _).setCell (p := ⟨og, s, none⟩) (.int .i64 xq) (.inl rfl)) (fun e => by have h5 : b6 = og := e; have := HOGB.out; have := HB6.out; omega)).congr' (fun n hn => by
                        show limitL l n - cnt (R.set s nn) n = if (n : Int) = (xq : Int) then rv - 1 else limitL l n - cnt R n
                        rw [cnt_set HRS0.out, HEQ.out, if_neg (show ¬ (n : Int) = -1 by omega)]
                        have := HRV.out
                        split
                        · rename_i e
                          rw [e]
                          omega
                        · omega))
                      have HON : Hid (((wr.setCell ⟨b6, xq, none⟩ (.int .i64 (rv - 1))).setCell ⟨og, s, none⟩ (.int .i64 xq)).ownsRow B 3 1 (.slice (some ⟨og, 0, none⟩) 64 co) 64 ((progL ow (R.set s nn)).map (fun x => Value.int .i64 x))) := Lib.hid (by
                        rw [progL_set (n := nn) HRL.out hs64 (by omega), HEQ.out, List.map_set]
                        exact HST.out)
                      clear kq1 HST HRW1
                      go_wp2_with fail
                      clear hbz yc yf cr cf c1
                      generalize (wr.setCell ⟨b6, xq, none⟩ (.int .i64 (rv - 1))).setCell ⟨og, s, none⟩ (.int .i64 xq) = W14 at *
                      go_roundg (hn - (i + 1))
                      case rel => exact ⟨i + 1, R.set s nn, by omega, by go_num, HNX.out, HRN.out, HON.out, HKN.out⟩
                      case measure => omega
                    · have HNN : Hid (∀ j, j < q + 1 → limitL l (cwN (circ PN l) (QS s) j) - cnt R (cwN (circ PN l) (QS s) j) ≤ 0) := Lib.hid (fun j hj => by
                        by_cases e : j = q
                        · subst e
                          rw [HCQ.out]
                          have := HRV.out
                          omega
                        · exact HNO.out j (by omega))
                      go_wp2_with fail
                      clear cr cf c1
                      go_roundg (gk - 1)
                      case rel => exact ⟨q + 1, by omega, by go_num, HNN, rfl⟩
                      case measure => omega
                  · exfalso
                    obtain ⟨j, hj⟩ := List.mem_iff_getElem?.1 (firstN_some HF.out).1
                    have hjc : j < cn := by have := (List.getElem?_eq_some_iff.1 hj).1; have := HCLN.out; omega
                    have h1 := HNO.out j (by omega)
                    have h2 := (firstN_some HF.out).2
                    rw [HCO.out j hjc] at hj
                    cases hj
                    omega
              · have hin : i = hn := by omega
                have hlast : R = changeL PN QS l ow ∧ progL ow R = changeL PN QS l ow := by
                  have h1 := HPL.out
                  rw [hin, ← HHN.out] at h1
                  exact h1.last HV.out HOL.out HNE.out HH64.out
                have HPC' := Lib.hid hlast.2
                clear hlast
                have hclen := change_len PN QS HV.out HOL.out
                have HBZ := Lib.hid (HB11.out.keep HK.out (fun e => by
                  have h5 : z9 = b6 ∨ z9 = og := e
                  have := HOGZ.out
                  have := HZ9.out
                  have := HB6.out
                  omega))
                have HYZ := Lib.hid (HY11.out.keep HK.out (fun e => by
                  have h5 : z + 1 = b6 ∨ z + 1 = og := e
                  have := HZB.out
                  have := HOGB.out
                  have := HB6.out
                  omega))
                have HMZ := Lib.hid (ownsRow_keep HM11.out HK.out (fun b hb e => by
                  have h5 : b = b6 ∨ b = og := e
                  have := HGMB.out b hb
                  have := HGMO.out b hb
                  have := HB6.out
                  omega))
                obtain ⟨x0, x1, x2, -⟩ := HBZ.out
                obtain ⟨y0, y1, y2, yf⟩ := HYZ.out
                have hiz : ¬ ((i : Int) < (hn : Int)) := by omega
                go_upto_region 33 with (fail)
                go_wp2_with fail
                have g := ((HYZ.out.set0 (.int .i64 (ep + 1))).set1 (.slice am ln cm)).set2 (.slice (some ⟨og, 0, none⟩) 64 co)
                have kq : Keep (fun j => j = z + 1) wr (((wr.setCell ⟨z + 1, 0, none⟩ (.int .i64 (ep + 1))).setCell ⟨z + 1, 1, none⟩ (.slice am ln cm)).setCell ⟨z + 1, 2, none⟩ (.slice (some ⟨og, 0, none⟩) 64 co)) := (((Keep.refl (fun j => j = z + 1) wr).setCell (p := ⟨z + 1, 0, none⟩) _ (.inl rfl)).setCell (p := ⟨z + 1, 1, none⟩) _ (.inl rfl)).setCell (p := ⟨z + 1, 2, none⟩) _ (.inl rfl)
                have HFM := Lib.hid (ownsRow_keep HMZ.out kq (fun b hb e => by have h5 : b = z + 1 := e; have := HGMB.out b hb; have := HB6.out; have := HZB.out; omega))
                have HFO := Lib.hid (ownsRow_keep HOI.out kq (fun b hb e => by cases hb; have h5 : og = z + 1 := e; have := HOGB.out; have := HB6.out; have := HZB.out; omega))
                have HFK := Lib.hid (HKW.out.trans' kq (fun j e => .inr (by have h5 : j = z + 1 := e; have := HZ.out; omega)))
                clear x0 x1 x2 y0 y1 y2 yf kq
                generalize ((wr.setCell ⟨z + 1, 0, none⟩ (.int .i64 (ep + 1))).setCell ⟨z + 1, 1, none⟩ (.slice am ln cm)).setCell ⟨z + 1, 2, none⟩ (.slice (some ⟨og, 0, none⟩) 64 co) = WF at *
                obtain ⟨g0, g1, g2, -⟩ := g
                refine bodyPost_ret (v := .tuple #[.agg #[.int .i64 (ep + 1), .slice am ln cm, .slice (some ⟨og, 0, none⟩) 64 co], .int .i64 0]) (by simp [results, Tryz.results22, go_sem, g0, g1, g2]) rfl ?_
                refine ⟨am, cm, some ⟨og, 0, none⟩, co, by rw [HLN.out, hclen], ?_, ?_, HFK.out⟩
                · rw [HLN.out]; exact ownsRow_lo HFM.out HSZW.out
                · rw [hclen, ← HPC'.out]; exact ownsRow_lo HFO.out HSZW.out
end Go.Proofs.YtplkmbfeeegaiaaGreatDoor

/-
  Members in a slice of their own; what the laws' pick answers.
-/
namespace Go.Proofs.YtplkmbfeeegaiaaGreatDoor
open Go.RowKit Go.Shelf

def pk (c n : Int) : Int := (if c < 0 then -(c + 1) else c) % n
theorem pk_bd (c n : Int) (hn : 1 ≤ n) : 0 ≤ pk c n ∧ pk c n < n := by
  unfold pk
  exact ⟨Int.emod_nonneg _ (by omega), Int.emod_lt_of_pos _ (by omega)⟩
theorem nil_rng (W : World) : Rng W (ringV 0 (.slice none 0 0) (.slice none 0 0)) 0 [] [] := ⟨by unfold I64; decide, _, _, rfl, ⟨by simp, by simp, none, 0, 0, 0, rfl, by simp, fun h => by simp at h, fun j x hj => by simp at hj⟩, Its.nil W⟩
theorem encMb_len (m : Mb) : (encMb m).length = 3 := rfl

/-- Members in a slice of their own. -/
def OwnB (w : World) (l : List Mb) (v : Value) (W : World) : Prop := Keep (fun _ => False) w W ∧ W.ownsRow w.heap.size 35 3 v l.length (flatB l)
theorem OwnB.nil {w W : World} (k : Keep (fun _ => False) w W) : OwnB w [] (.slice none 0 0) W := ⟨k, by simpa [flatB] using World.ownsRow_nil W w.heap.size 35 3⟩
theorem OwnB.keep {w W W' : World} {l : List Mb} {v : Value} (h : OwnB w l v W) (k : Keep (fun _ => False) W W') : OwnB w l v W' := ⟨h.1.trans k, ownsRow_keep h.2 k (fun _ _ h => h)⟩
theorem OwnB.snoc {w W : World} {l : List Mb} {v : Value} (h : OwnB w l v W) (x : Mb) (hl : l.length ≤ 100000) :
    ∃ v' w', (Builtin.append_ #[25, 25] 25 #[v, .slice (some ⟨W.heap.size, 0, none⟩) 1 1]).run Tryz.prog (W.alloc (.cells #[.int .i64 x.node, .int .i64 x.region, .int .i64 x.weight] 35)) = .ok v' w' ∧ OwnB w (l ++ [x]) v' w' ∧ Keep (fun j => v.ownBlock = some j) W w' ∧ (∃ g n c, v' = .slice (some ⟨g, 0, none⟩) n c) := by
  obtain ⟨v', w', r1, r2, r3, r4, g, c, r5⟩ := app_one 25 35 3 24 _ Tryz.underlying25 infoMb rfl (by decide) (by decide) W 25 w.heap.size v l.length (flatB l) (encMb x) h.2 rfl (by simp [encMb, Value.oneCell']) (by omega) h.1.size
  refine ⟨v', w', r1, ⟨h.1.trans' r3 (fun j e => .inr (h.2.lt j e).1), ?_⟩, r3, g, _, c, r5⟩
  rw [flatB_append, flatB_one, List.length_append]
  exact r2
def OwnPost (l : List Mb) (w : World) (e : Ending) (w' : World) : Prop := ∃ v, e = .returned v ∧ OwnB w l v w'
end Go.Proofs.YtplkmbfeeegaiaaGreatDoor

/-
  New refused.
-/
namespace Go.Proofs.YtplkmbfeeegaiaaGreatDoor
open Go.RowKit Go.Shelf

/-- What New answers where it refuses. -/
def NewBad (w : World) (e : Ending) (w' : World) : Prop := e = .returned (.tuple #[ringV 0 (.slice none 0 0) (.slice none 0 0), .int .i64 120]) ∧ Keep (fun _ => False) w w'

set_option maxRecDepth 100000 in
set_option maxHeartbeats 2000000 in
theorem new_epoch (ep : Int) (v : Value) (l : List Mb) (w : World) (h : Mbs w v l) (hv : VL l) (hT : Tab w) (he : ¬ (1 ≤ ep ∧ ep ≤ 1000000)) : Calls Tryz.prog 13 #[.int .i64 ep, v] w (NewBad w) := by
  have HAS : Hid (∀ W, Keep (fun _ => False) w W → Calls Tryz.prog 52 #[v] W (AsgPost l W)) := Lib.hid (fun W k => assign_ok v l W (h.kept k) hv (hT.kept k))
  have HEP := Lib.hid (decide_eq_false he)
  clear h hv hT he
  have HK0 : Hid (Keep (fun _ => False) w (w.alloc (.cells #[.int .i64 0, .slice none 0 0, .slice none 0 0] 27))) := Lib.hid ((Keep.refl _ w).alloc _)
  have HT3 := Lib.hid (three_cell w (.int .i64 0) (.slice none 0 0) (.slice none 0 0) 27)
  go_enter Tryz.func13, Tryz.ntmps13
  go_wp2_with fail
  generalize w.alloc (.cells #[.int .i64 0, .slice none 0 0, .slice none 0 0] 27) = W0 at *
  generalize hz : w.heap.size = z at HT3
  have HZ := Lib.hid hz
  clear hz
  with_reducible refine (HAS.out _ HK0.out).mono ?_
  rintro e W1 ⟨vo, rfl, how, k1⟩
  have HK1 := Lib.hid (HK0.out.trans k1)
  have f0 := k1.cell HT3.out.1 (fun h => h)
  have f1 := k1.cell HT3.out.2.1 (fun h => h)
  have f2 := k1.cell HT3.out.2.2.1 (fun h => h)
  have ff : ∀ o, W1.frozen? ⟨z, o, none⟩ = false := fun o => (k1.frozen (World.block_lt_of_cell? _ _ HT3.out.1) (fun h => h) o).trans (HT3.out.2.2.2 o)
  clear k1 how
  go_wp2_with fail
  with_reducible refine (within_b ep 1 1000000 false HEP.out _).mono ?_
  rintro e w' ⟨rfl, rfl⟩
  go_wp2_with fail
  have g0 : (((W1.setCell ⟨z, 0, none⟩ (.int .i64 0)).setCell ⟨z, 1, none⟩ (.slice none 0 0)).setCell ⟨z, 2, none⟩ (.slice none 0 0)).cell? ⟨z, 0, none⟩ = some (.int .i64 0) := (cell_set_off (by decide)).trans ((cell_set_off (by decide)).trans (cell_set_same f0))
  have g1 : (((W1.setCell ⟨z, 0, none⟩ (.int .i64 0)).setCell ⟨z, 1, none⟩ (.slice none 0 0)).setCell ⟨z, 2, none⟩ (.slice none 0 0)).cell? ⟨z, 1, none⟩ = some (.slice none 0 0) := (cell_set_off (by decide)).trans (cell_set_same ((cell_set_off (by decide)).trans f1))
  have g2 : (((W1.setCell ⟨z, 0, none⟩ (.int .i64 0)).setCell ⟨z, 1, none⟩ (.slice none 0 0)).setCell ⟨z, 2, none⟩ (.slice none 0 0)).cell? ⟨z, 2, none⟩ = some (.slice none 0 0) := cell_set_same ((cell_set_off (by decide)).trans ((cell_set_off (by decide)).trans f2))
  have HKS : Hid (Keep (fun j => j = z) W1 (((W1.setCell ⟨z, 0, none⟩ (.int .i64 0)).setCell ⟨z, 1, none⟩ (.slice none 0 0)).setCell ⟨z, 2, none⟩ (.slice none 0 0))) := Lib.hid ((((Keep.refl (fun j => j = z) W1).setCell (p := ⟨z, 0, none⟩) _ (.inl rfl)).setCell (p := ⟨z, 1, none⟩) _ (.inl rfl)).setCell (p := ⟨z, 2, none⟩) _ (.inl rfl))
  generalize ((W1.setCell ⟨z, 0, none⟩ (.int .i64 0)).setCell ⟨z, 1, none⟩ (.slice none 0 0)).setCell ⟨z, 2, none⟩ (.slice none 0 0) = W3 at *
  refine bodyPost_ret (v := .tuple #[ringV 0 (.slice none 0 0) (.slice none 0 0), .int .i64 120]) (by simp [results, Tryz.results13, go_sem, g0, g1, g2]) rfl ?_
  exact ⟨rfl, HK1.out.trans' HKS.out (fun j e => .inr (by rw [e, HZ.out]; exact Nat.le_refl _))⟩
end Go.Proofs.YtplkmbfeeegaiaaGreatDoor

/-
  Change refused; is, IndexFunc, ContainsFunc of package reshard's members.
-/
namespace Go.Proofs.YtplkmbfeeegaiaaGreatDoor
open Go.RowKit Go.Shelf

set_option maxRecDepth 100000 in
set_option maxHeartbeats 8000000 in
theorem changeR_bad (v vl : Value) (ep : Int) (lr l : List Mb) (ow : List Int) (w : World) (h : Rng w v ep lr ow) (hl : Mbs w vl l) (hbad : validRB ep lr ow = false ∨ validL l = false ∨ 1000000 ≤ ep) : Calls Tryz.prog 22 #[v, vl] w (NewBad w) := by
  have HRG := Lib.hid h
  have HML := Lib.hid hl
  obtain ⟨hb0, vm, vo, rfl, hm0, ho0⟩ := h
  obtain ⟨ma, mn, mc, rfl⟩ : ∃ a n c, vm = .slice a n c := by obtain ⟨a, c, b, off, h, _⟩ := hm0.at_; exact ⟨_, _, _, h⟩
  obtain ⟨oa, on, oc, rfl⟩ : ∃ a n c, vo = .slice a n c := by obtain ⟨a, c, b, off, h, _⟩ := ho0.at_; exact ⟨_, _, _, h⟩
  obtain ⟨la, ln, lc, rfl⟩ : ∃ a n c, vl = .slice a n c := by obtain ⟨a, c, b, off, h, _⟩ := hl.at_; exact ⟨_, _, _, h⟩
  clear hm0 hb0 ho0 hl
  obtain ⟨b1, hb1⟩ : ∃ b, validRB ep lr ow = b := ⟨_, rfl⟩
  obtain ⟨b2, hb2⟩ : ∃ b, validL l = b := ⟨_, rfl⟩
  have HB1 := Lib.hid hb1
  have HB2 := Lib.hid hb2
  rw [hb1, hb2] at hbad
  clear hb1 hb2
  have HX := Lib.hid (Box3.new w (.int .i64 ep) (.slice ma mn mc) (.slice oa on oc) 27)
  have HY := Lib.hid (Box3.new (w.alloc (.cells #[.int .i64 ep, .slice ma mn mc, .slice oa on oc] 27)) (.int .i64 0) (.slice none 0 0) (.slice none 0 0) 27)
  have HKA : Hid (Keep (fun _ => False) w (w.alloc (.cells #[.int .i64 ep, .slice ma mn mc, .slice oa on oc] 27))) := Lib.hid ((Keep.refl _ w).alloc _)
  have HKB : Hid (Keep (fun _ => False) (w.alloc (.cells #[.int .i64 ep, .slice ma mn mc, .slice oa on oc] 27)) ((w.alloc (.cells #[.int .i64 ep, .slice ma mn mc, .slice oa on oc] 27)).alloc (.cells #[.int .i64 0, .slice none 0 0, .slice none 0 0] 27))) := Lib.hid ((Keep.refl _ _).alloc _)
  have HX0 := Lib.hid (HX.out.kept HKB.out)
  rw [World.size_alloc] at HY
  have HK0 := Lib.hid (HKA.out.trans HKB.out)
  clear HX HKA HKB
  go_enter Tryz.func22, Tryz.ntmps22
  go_wp2_with fail
  generalize (w.alloc (.cells #[.int .i64 ep, .slice ma mn mc, .slice oa on oc] 27)).alloc (.cells #[.int .i64 0, .slice none 0 0, .slice none 0 0] 27) = W0 at *
  generalize hz : w.heap.size = z at HX0 HY ⊢
  have HZ := Lib.hid hz
  clear hz
  obtain ⟨x0, x1, x2, xf⟩ := HX0.out
  go_step3
  go_wp2_with fail
  clear x0 x1 x2 xf
  have hvc := validRing_any _ ep lr ow W0 (HRG.out.kept HK0.out)
  rw [HB1.out] at hvc
  with_reducible refine hvc.mono ?_
  clear hvc
  rintro e W1 ⟨rfl, k1⟩
  have HX1 := Lib.hid (HX0.out.kept k1)
  have HY1 := Lib.hid (HY.out.kept k1)
  have HK1 := Lib.hid (HK0.out.trans k1)
  clear k1 HX0 HY HK0
  have fin : ∀ W, Hid (Keep (fun _ => False) w W) → Hid (Box3 W (z + 1) (.int .i64 0) (.slice none 0 0) (.slice none 0 0)) → Hid (Box3 (((W.setCell ⟨z + 1, 0, none⟩ (.int .i64 0)).setCell ⟨z + 1, 1, none⟩ (.slice none 0 0)).setCell ⟨z + 1, 2, none⟩ (.slice none 0 0)) (z + 1) (.int .i64 0) (.slice none 0 0) (.slice none 0 0) ∧ Keep (fun _ => False) w (((W.setCell ⟨z + 1, 0, none⟩ (.int .i64 0)).setCell ⟨z + 1, 1, none⟩ (.slice none 0 0)).setCell ⟨z + 1, 2, none⟩ (.slice none 0 0))) := fun W k h =>
    Lib.hid ⟨((h.out.set0 _).set1 _).set2 _, k.out.trans' ((((Keep.refl (fun j => j = z + 1) W).setCell (p := ⟨z + 1, 0, none⟩) _ (.inl rfl)).setCell (p := ⟨z + 1, 1, none⟩) _ (.inl rfl)).setCell (p := ⟨z + 1, 2, none⟩) _ (.inl rfl)) (fun j e => .inr (by have h5 : j = z + 1 := e; have := HZ.out; omega))⟩
  have FIN := Lib.hid fin
  clear fin
  cases b1 with
  | false =>
    obtain ⟨y0, y1, y2, yf⟩ := HY1.out
    go_upto_region 2 with (fail)
    go_wp2_with fail
    clear y0 y1 y2 yf
    obtain ⟨⟨g0, g1, g2, -⟩, kf⟩ := (FIN.out W1 HK1 HY1).out
    generalize ((W1.setCell ⟨z + 1, 0, none⟩ (.int .i64 0)).setCell ⟨z + 1, 1, none⟩ (.slice none 0 0)).setCell ⟨z + 1, 2, none⟩ (.slice none 0 0) = WF at *
    refine bodyPost_ret (v := .tuple #[ringV 0 (.slice none 0 0) (.slice none 0 0), .int .i64 120]) (by simp [results, Tryz.results22, go_sem, g0, g1, g2]) rfl ?_
    exact ⟨rfl, kf⟩
  | true =>
    go_wp2_with fail
    have hvc := valid_any _ l W1 (HML.out.kept HK1.out)
    rw [HB2.out] at hvc
    with_reducible refine hvc.mono ?_
    clear hvc
    rintro e W2 ⟨rfl, k2⟩
    have HX2 := Lib.hid (HX1.out.kept k2)
    have HY2 := Lib.hid (HY1.out.kept k2)
    have HK2 := Lib.hid (HK1.out.trans k2)
    clear k2 HX1 HY1 HK1
    cases b2 with
    | false =>
      obtain ⟨y0, y1, y2, yf⟩ := HY2.out
      go_upto_region 2 with (fail)
      go_wp2_with fail
      clear y0 y1 y2 yf
      obtain ⟨⟨g0, g1, g2, -⟩, kf⟩ := (FIN.out W2 HK2 HY2).out
      generalize ((W2.setCell ⟨z + 1, 0, none⟩ (.int .i64 0)).setCell ⟨z + 1, 1, none⟩ (.slice none 0 0)).setCell ⟨z + 1, 2, none⟩ (.slice none 0 0) = WF at *
      refine bodyPost_ret (v := .tuple #[ringV 0 (.slice none 0 0) (.slice none 0 0), .int .i64 120]) (by simp [results, Tryz.results22, go_sem, g0, g1, g2]) rfl ?_
      exact ⟨rfl, kf⟩
    | true =>
      have hep : 1000000 ≤ ep := by
        rcases hbad with h | h | h
        · cases h
        · cases h
        · exact h
      obtain ⟨x0, x1, x2, xf⟩ := HX2.out
      obtain ⟨y0, y1, y2, yf⟩ := HY2.out
      go_upto_region 2 with (fail)
      go_wp2_with fail
      clear x0 x1 x2 xf y0 y1 y2 yf
      obtain ⟨⟨g0, g1, g2, -⟩, kf⟩ := (FIN.out W2 HK2 HY2).out
      generalize ((W2.setCell ⟨z + 1, 0, none⟩ (.int .i64 0)).setCell ⟨z + 1, 1, none⟩ (.slice none 0 0)).setCell ⟨z + 1, 2, none⟩ (.slice none 0 0) = WF at *
      refine bodyPost_ret (v := .tuple #[ringV 0 (.slice none 0 0) (.slice none 0 0), .int .i64 120]) (by simp [results, Tryz.results22, go_sem, g0, g1, g2]) rfl ?_
      exact ⟨rfl, kf⟩

/-- The function that tells a node. -/
abbrev isV (b : Nat) : Value := .func (.func 102) #[] #[ptr b]
set_option maxRecDepth 100000 in
theorem is_any (n : Int) (w : World) : Calls Tryz.prog 57 #[.int .i64 n] w fun e w' => e = .returned (isV w.heap.size) ∧ w'.cell? ⟨w.heap.size, 0, none⟩ = some (.int .i64 n) ∧ Keep (fun _ => False) w w' ∧ w.heap.size < w'.heap.size := by
  have HC := Lib.hid (cells_new0 w (.int .i64 n) 3 (.int .i64 n) rfl)
  have HK : Hid (Keep (fun _ => False) w (w.alloc (.cells #[.int .i64 n] 3))) := Lib.hid ((Keep.refl _ w).alloc _)
  have HS : Hid (w.heap.size < (w.alloc (.cells #[.int .i64 n] 3)).heap.size) := Lib.hid (by simp)
  go_enter Tryz.func57, Tryz.ntmps57
  go_wp2_with fail
  go_ret
  exact ⟨rfl, HC.out, HK.out, HS.out⟩
abbrev mbV (m : Mb) : Value := .agg #[.int .i64 m.node, .int .i64 m.region, .int .i64 m.weight]
/-- The first place of a node. -/
def idxK (l : List Mb) (n : Int) : Nat → Int
  | 0 => -1
  | k + 1 => if idxK l n k = -1 then (match l[k]? with | some m => if m.node = n then (k : Int) else -1 | none => -1) else idxK l n k
end Go.Proofs.YtplkmbfeeegaiaaGreatDoor

/-
  IndexFunc, ContainsFunc over members.
-/
namespace Go.Proofs.YtplkmbfeeegaiaaGreatDoor
open Go.RowKit Go.Shelf

/-- r is the first place of node n, or -1. -/
def IdxOf (l : List Mb) (n r : Int) : Prop := (r = -1 ∧ ∀ m ∈ l, m.node ≠ n) ∨ ∃ (k : Nat) (m : Mb), r = k ∧ l[k]? = some m ∧ m.node = n ∧ ∀ j m', j < k → l[j]? = some m' → m'.node ≠ n
set_option maxRecDepth 100000 in
theorem is1_any (m : Mb) (b : Nat) (n : Int) (w : World) (h : w.cell? ⟨b, 0, none⟩ = some (.int .i64 n)) : Calls Tryz.prog 102 #[mbV m, ptr b] w fun e w' => e = .returned (.bool (m.node == n)) ∧ Keep (fun _ => False) w w' := by
  obtain ⟨x, y, z⟩ := m
  have HK : Hid (Keep (fun _ => False) w (w.alloc (.cells #[.int .i64 x, .int .i64 y, .int .i64 z] 35))) := Lib.hid ((Keep.refl _ w).alloc _)
  have HB := Lib.hid (Box3.new w (.int .i64 x) (.int .i64 y) (.int .i64 z) 35)
  have c := HK.out.cell h (fun h => h)
  go_enter Tryz.func102, Tryz.ntmps102
  go_wp2_with fail
  generalize w.alloc (.cells #[.int .i64 x, .int .i64 y, .int .i64 z] 35) = W at *
  obtain ⟨b0, -, -, -⟩ := HB.out
  go_wp2_with fail
  go_ret
  exact ⟨rfl, HK.out⟩
set_option maxRecDepth 100000 in
set_option maxHeartbeats 1000000 in
theorem indexIs_any (v : Value) (l : List Mb) (b : Nat) (n : Int) (w : World) (h : Mbs w v l) (hb : w.cell? ⟨b, 0, none⟩ = some (.int .i64 n)) (hl : l.length ≤ 100000) : Calls Tryz.prog 64 #[v, isV b] w fun e w' => (∃ r, e = .returned (.int .i64 r) ∧ IdxOf l n r) ∧ Keep (fun _ => False) w w' := by
  obtain ⟨hn, -, a, c, bb, off, rfl, hc, ha, hcell⟩ := h
  have HC := Lib.hid hcell
  have HA := Lib.hid ha
  have HB := Lib.hid hb
  clear hcell ha hb hn
  obtain ⟨ln, hn'⟩ : ∃ n, l.length = n := ⟨_, rfl⟩
  have HL := Lib.hid hn'
  rw [hn'] at hc hl ⊢
  clear hn'
  go_enter Tryz.func64, Tryz.ntmps64
  go_wp2_with fail
  go_loopg [8] ln (fun gh v wr => ∃ k : Nat, gh + k = ln ∧ v = .int .i64 k ∧ Hid (∀ j m, j < k → l[j]? = some m → m.node ≠ n) ∧ Keep (fun _ => False) w wr)
  case atStart => exact ⟨0, by omega, rfl, Lib.hid (fun j m h => by omega), Keep.refl _ _⟩
  case round =>
    obtain ⟨k, hk, rfl, HN, hkeep⟩ := hrel
    have HK := Lib.hid hkeep
    clear hkeep
    by_cases hlt : k < ln
    · obtain ⟨m, hm⟩ : ∃ m, l[k]? = some m := ⟨_, List.getElem?_eq_getElem (by have := HL.out; omega)⟩
      obtain rfl := HA.out (by have := HL.out; omega)
      have c0 := HK.out.cell (HC.out k m hm).1 (fun h => h)
      have c1 := HK.out.cell (HC.out k m hm).2.1 (fun h => h)
      have c2 := HK.out.cell (HC.out k m hm).2.2 (fun h => h)
      have HM := Lib.hid hm
      have hkz : (k : Int) < (ln : Int) := by omega
      have hk0 : (0 : Int) ≤ (k : Int) := by omega
      have HIS := Lib.hid (is1_any m b n wr (HK.out.cell HB.out (fun h => h)))
      clear hm
      obtain ⟨x, y, z⟩ := m
      simp only [] at c0 c1 c2
      go_wp2_with fail
      clear c0 c1 c2
      refine HIS.out.mono ?_
      rintro e W2 ⟨rfl, k2⟩
      have HK2 := Lib.hid (HK.out.trans k2)
      clear k2 HIS
      by_cases hx : x = n
      · have hb : (x == n) = true := by simpa using hx
        simp only [hb]
        go_wp2_with fail
        go_ret
        exact ⟨⟨_, rfl, .inr ⟨k, _, rfl, HM.out, hx, HN.out⟩⟩, HK2.out⟩
      · have hb : (x == n) = false := by simpa using hx
        simp only [hb]
        have HNN : Hid (∀ j m, j < k + 1 → l[j]? = some m → m.node ≠ n) := Lib.hid (fun j m hj hm => by
          by_cases e : j = k
          · subst e
            rw [HM.out] at hm
            cases hm
            exact hx
          · exact HN.out j m (by omega) hm)
        go_wp2_with fail
        go_roundg (gk - 1)
        case rel => exact ⟨k + 1, by omega, by go_num, HNN, HK2.out⟩
        case measure => omega
    · go_wp2_with fail
      go_ret
      exact ⟨⟨_, rfl, .inl ⟨rfl, fun m hm => by
        obtain ⟨j, hj⟩ := List.mem_iff_getElem?.1 hm
        exact HN.out j m (by have := (List.getElem?_eq_some_iff.1 hj).1; have := HL.out; omega) hj⟩⟩, HK.out⟩
theorem IdxOf.any {l : List Mb} {n r : Int} (h : IdxOf l n r) : decide (0 ≤ r) = l.any (fun m => decide (m.node = n)) := by
  rcases h with ⟨rfl, h⟩ | ⟨k, m, rfl, hk, hm, -⟩
  · rw [decide_eq_false (by decide), eq_comm, List.any_eq_false]
    intro m hm
    simpa using h m hm
  · rw [decide_eq_true (by omega), eq_comm, List.any_eq_true]
    exact ⟨m, List.mem_of_getElem? hk, decide_eq_true hm⟩
set_option maxRecDepth 100000 in
set_option maxHeartbeats 1000000 in
theorem containsIs_any (v : Value) (l : List Mb) (b : Nat) (n : Int) (w : World) (h : Mbs w v l) (hb : w.cell? ⟨b, 0, none⟩ = some (.int .i64 n)) (hl : l.length ≤ 100000) : Calls Tryz.prog 56 #[v, isV b] w fun e w' => e = .returned (.bool (l.any (fun m => decide (m.node = n)))) ∧ Keep (fun _ => False) w w' := by
  have HI := Lib.hid (indexIs_any v l b n w h hb hl)
  clear h hb hl
  go_enter Tryz.func56, Tryz.ntmps56
  go_wp2_with fail
  with_reducible refine HI.out.mono ?_
  rintro e W1 ⟨⟨r, rfl, hr⟩, k⟩
  have HK := Lib.hid k
  have HR := Lib.hid hr.any
  clear k hr
  go_wp2_with fail
  go_ret
  exact ⟨by rw [← HR.out] <;> rfl, HK.out⟩
end Go.Proofs.YtplkmbfeeegaiaaGreatDoor

/-
  DeleteFunc over members of a row of its own.
-/
namespace Go.Proofs.YtplkmbfeeegaiaaGreatDoor
open Go.RowKit Go.Shelf

theorem zeroMb (w : World) : (zeroValue 35).run Tryz.prog w = .ok (.agg #[.int .i64 0, .int .i64 0, .int .i64 0]) w := by kernel_rfl
theorem own_cap {W : World} {lo : Nat} {e : TypeId} {z g n c : Nat} {xs : List Value} (h : W.ownsRow lo e z (.slice (some ⟨g, 0, none⟩) n c) n xs) : n ≤ c := by
  rcases h.2 with ⟨h1, _⟩ | ⟨g', c', cur, h1, _, _, h2, _⟩
  · cases h1
  · cases h1; exact h2
/-- clear of a row's end. -/
theorem clear_end {W : World} {lo g n i cap : Nat} {l : List Mb} (h : W.ownsRow lo 35 3 (.slice (some ⟨g, 0, none⟩) n cap) n (flatB l)) (hi : i < n) (ty : TypeId) (cc : Nat) :
    ∃ W', (Builtin.clear_ #[25] ty #[.slice (some ⟨g, i * 3, none⟩) (n - i) cc]).run Tryz.prog W = .ok (.tuple #[]) W' ∧ W'.ownsRow lo 35 3 (.slice (some ⟨g, 0, none⟩) i cap) i (flatB (l.take i)) ∧ Keep (fun j => j = g) W W' := by
  obtain ⟨hlen, hrow⟩ := h
  rcases hrow with ⟨e0, _⟩ | ⟨g', cap', cur, e0, hb, hg, hn, hmax, hcur, htake⟩
  · cases e0
  · cases e0
    obtain ⟨vs, hvs⟩ : ∃ vs, (Builtin.zeroCells (Value.agg #[.int .i64 0, .int .i64 0, .int .i64 0]).cells (n - i)).toList = vs := ⟨_, rfl⟩
    have hvl : vs.length = (n - i) * 3 := by
      rw [← hvs]
      simp [Builtin.zeroCells, Value.cells]
    have hv1 : ∀ v ∈ vs, v.oneCell' = true := by
      intro v hv
      rw [← hvs] at hv
      simp only [Builtin.zeroCells, Array.toList_map, List.mem_map] at hv
      obtain ⟨j, -, rfl⟩ := hv
      have : j % 3 = 0 ∨ j % 3 = 1 ∨ j % 3 = 2 := by omega
      show (#[Value.int .i64 0, .int .i64 0, .int .i64 0][j % 3]!).oneCell' = true
      rcases this with e | e | e <;> rw [e] <;> rfl
    have hfl : (flatB l).length = n * 3 := hlen
    have hll : l.length = n := by rw [flatB_len] at hfl; omega
    have hst := run_storeCells_at (P := Tryz.prog) g (i * 3) 35 vs 0 cur W hg (by rw [hvl, hcur]; have : n * 3 ≤ cap * 3 := Nat.mul_le_mul_right 3 hn; omega) hv1
    obtain ⟨m, hm⟩ : ∃ m, n - i = m + 1 := ⟨n - i - 1, by omega⟩
    have h3 : n * 3 ≤ cap * 3 := Nat.mul_le_mul_right 3 hn
    have hcl : cur.toList.length = cap * 3 := by rw [Array.length_toList, hcur]
    refine ⟨W.setRow g (cur.toList.take (i * 3 + 0) ++ vs ++ cur.toList.drop (i * 3 + 0 + vs.length)).toArray, ?_, ⟨by rw [flatB_len, List.length_take]; omega, .inr ⟨g, cap, _, rfl, hb, setRow_heap W g cur _ 35 _ hg, by omega, by omega, ?_, ?_⟩⟩, Keep.setRow W g _⟩
    · rw [hm] at hvs ⊢
      simp [Builtin.clear_, run_underlying Tryz.underlying25, hvs, hst, Result.andThen]
    · simp only [List.size_toArray, List.length_append, List.length_take, List.length_drop]
      omega
    · show List.take (i * 3) (List.take (i * 3 + 0) cur.toList ++ vs ++ List.drop (i * 3 + 0 + vs.length) cur.toList) = flatB (l.take i)
      rw [List.append_assoc, List.take_append_of_le_length (by rw [List.length_take]; omega), Nat.add_zero, List.take_take, Nat.min_self]
      have h2 : cur.toList.take (i * 3) = (flatB l).take (i * 3) := by
        rw [← htake, List.take_take, Nat.min_eq_left (by omega)]
      rw [h2]
      exact flat_take encMb_len l i

theorem wpList_clr {P : Program} {ops : Array Oper} {rest : List Oper} {o : Oper} {a : Act} {w w' : World} {Q : Exit → Act → World → Prop} {v v' : Value}
    (hg : o.guard = none) (s : Operand) (t : TypeId) (hop : o.op = Op.call { callee := Callee.builtin Builtin.clear, args := #[s], argTypes := #[t] })
    (hs : a.eval s = v) (hrun : (Builtin.clear_ #[t] o.type #[v]).run P w = .ok v' w') (hK : wpList P ops Q rest (a.put o.dst v') w') : wpList P ops Q (o :: rest) a w := by
  refine wpList_plain hg fun K hK' => ?_
  unfold Oper.wp
  simp [execOp, hop, resolve, invoke, builtin, hs, hrun, Result.andThen]
  exact hK' _ _ hK

def notN (n : Int) (m : Mb) : Bool := decide (m.node ≠ n)
theorem set_flat3 {l : List Mb} {i : Nat} {x m : Mb} (h : l[i]? = some x) : (((flatB l).set (i * 3) (.int .i64 m.node)).set (i * 3 + 1) (.int .i64 m.region)).set (i * 3 + 2) (.int .i64 m.weight) = flatB (l.set i m) := by
  unfold flatB
  obtain ⟨a, b, c⟩ := x
  obtain ⟨a', b', c'⟩ := m
  have hi := (List.getElem?_eq_some_iff.1 h).1
  have e0 := flat_set (enc := encMb) (k := 3) encMb_len (r := 0) (u := .int .i64 a') (by decide) l i _ ⟨a', b, c⟩ h rfl
  rw [Nat.add_zero] at e0
  rw [e0]
  have e1 := flat_set (enc := encMb) (k := 3) encMb_len (r := 1) (u := .int .i64 b') (by decide) (l.set i ⟨a', b, c⟩) i _ ⟨a', b', c⟩ (List.getElem?_set_self hi) rfl
  rw [e1, List.set_set]
  have e2 := flat_set (enc := encMb) (k := 3) encMb_len (r := 2) (u := .int .i64 c') (by decide) (l.set i ⟨a', b', c⟩) i _ ⟨a', b', c'⟩ (List.getElem?_set_self hi) rfl
  rw [e2, List.set_set]
/-- A member is stored in a row of its own. -/
theorem row_store {W : World} {lo g n cap : Nat} {l : List Mb} (h : W.ownsRow lo 35 3 (.slice (some ⟨g, 0, none⟩) n cap) n (flatB l)) (hl : l.length = n) {i : Nat} (hi : i < n) (m : Mb) :
    (((W.setCell ⟨g, i * 3, none⟩ (.int .i64 m.node)).setCell ⟨g, i * 3 + 1, none⟩ (.int .i64 m.region)).setCell ⟨g, i * 3 + 2, none⟩ (.int .i64 m.weight)).ownsRow lo 35 3 (.slice (some ⟨g, 0, none⟩) n cap) n (flatB (l.set i m)) := by
  have h1 := ((h.stored (i * 3) (.int .i64 m.node)).1.stored (i * 3 + 1) (.int .i64 m.region)).1.stored (i * 3 + 2) (.int .i64 m.weight)
  have h2 := h1.1
  rw [set_flat3 (List.getElem?_eq_getElem (by omega : i < l.length))] at h2
  exact h2
theorem row_cells {W : World} {lo g n cap : Nat} {l : List Mb} (h : W.ownsRow lo 35 3 (.slice (some ⟨g, 0, none⟩) n cap) n (flatB l)) {i : Nat} {m : Mb} (hi : i < n) (hm : l[i]? = some m) :
    W.cell? ⟨g, i * 3, none⟩ = some (.int .i64 m.node) ∧ W.cell? ⟨g, i * 3 + 1, none⟩ = some (.int .i64 m.region) ∧ W.cell? ⟨g, i * 3 + 2, none⟩ = some (.int .i64 m.weight) := by
  refine ⟨?_, ?_, ?_⟩
  · rw [h.cellAt (i * 3) (by omega)]; exact flat_get encMb_len l i m 0 hm (by decide)
  · rw [h.cellAt (i * 3 + 1) (by omega)]; exact flat_get encMb_len l i m 1 hm (by decide)
  · rw [h.cellAt (i * 3 + 2) (by omega)]; exact flat_get encMb_len l i m 2 hm (by decide)
def DelPost (lo : Nat) (a : Option Addr) (c : Nat) (l : List Mb) (w : World) (e : Ending) (w' : World) : Prop := e = .returned (.slice a l.length c) ∧ w'.ownsRow lo 35 3 (.slice a l.length c) l.length (flatB l) ∧ Keep (fun j => (Value.slice a l.length c).ownBlock = some j) w w'
set_option maxRecDepth 100000 in
set_option maxHeartbeats 2000000 in
theorem deleteIs_any (lo : Nat) (a : Option Addr) (c : Nat) (l : List Mb) (b : Nat) (n : Int) (w : World) (h : w.ownsRow lo 35 3 (.slice a l.length c) l.length (flatB l)) (hbd : ∀ m ∈ l, I64 m.node ∧ I64 m.region ∧ I64 m.weight) (hl : l.length ≤ 100000) (hb : w.cell? ⟨b, 0, none⟩ = some (.int .i64 n)) (hne : (Value.slice a l.length c).ownBlock ≠ some b) :
    Calls Tryz.prog 62 #[.slice a l.length c, isV b] w (DelPost lo a c (l.filter (notN n)) w) := by
  have hmb : Mbs w (.slice a l.length c) l := mbs_owns h (by omega) hbd
  have HI := Lib.hid (indexIs_any _ l b n w hmb hb hl)
  have HO := Lib.hid h
  have HB := Lib.hid hb
  clear hmb h hb hbd
  obtain ⟨ln, hln⟩ : ∃ n, l.length = n := ⟨_, rfl⟩
  have HL := Lib.hid hln
  rw [hln] at HI HO hl hne ⊢
  clear hln
  go_enter Tryz.func62, Tryz.ntmps62
  go_wp2_with fail
  with_reducible refine HI.out.mono ?_
  rintro e W1 ⟨⟨r, rfl, hr⟩, k1⟩
  have HR := Lib.hid hr
  have HK1 := Lib.hid k1
  have HO1 := Lib.hid (ownsRow_keep HO.out k1 (fun _ _ h => h))
  have HB1 := Lib.hid (k1.cell HB.out (fun h => h))
  clear hr k1 HI HO HB
  rcases HR.out with ⟨rfl, hnone⟩ | ⟨k, m, rfl, hk, hm, hfirst⟩
  · have HF : Hid (l.filter (notN n) = l) := Lib.hid (List.filter_eq_self.2 (fun m hm => by unfold notN; simpa using hnone m hm))
    clear hnone HR
    go_wp2_with fail
    go_ret
    unfold DelPost
    rw [HF.out, HL.out]
    exact ⟨rfl, HO1.out, HK1.out.mono (fun _ h => h.elim)⟩
  · have hkl : k < ln := by have := (List.getElem?_eq_some_iff.1 hk).1; have := HL.out; omega
    obtain ⟨g, rfl⟩ := own_some' HO1.out (by omega)
    have hgb : g ≠ b := fun e => hne (by rw [e]; rfl)
    have HGB := Lib.hid hgb
    have HST : Hid (∃ cur : List Mb, cur.length = ln ∧ cur.take k = (l.take (k + 1)).filter (notN n) ∧ cur.drop (k + 1) = l.drop (k + 1) ∧ flatB cur = flatB l) := Lib.hid ⟨l, HL.out, by
      rw [List.take_add_one, hk, List.filter_append]
      have e1 : (l.take k).filter (notN n) = l.take k := List.filter_eq_self.2 (fun x hx => by
        obtain ⟨j, hj⟩ := List.mem_iff_getElem?.1 hx
        have hjk : j < k := by have := (List.getElem?_eq_some_iff.1 hj).1; rw [List.length_take] at this; omega
        rw [List.getElem?_take_of_lt hjk] at hj
        unfold notN
        simpa using hfirst j x hjk hj)
      rw [e1]
      simp [notN, hm], rfl, rfl⟩
    have hne1 : ((k : Int) == -1) = false := by simp
    have hk0 : (0 : Int) ≤ (k : Int) := by omega
    clear hfirst hk hm HR hne hgb
    go_wp2_with fail
    obtain ⟨cur0, q1, q2, q3, q4⟩ := HST.out
    have HO2 : Hid (W1.ownsRow lo 35 3 (.slice (some ⟨g, 0, none⟩) ln c) ln (flatB cur0)) := Lib.hid (by rw [q4]; exact HO1.out)
    have Q1 := Lib.hid q1
    have Q2 := Lib.hid q2
    have Q3 := Lib.hid q3
    clear q1 q2 q3 q4 HST
    go_loopg [5, 6] ln (fun gh v5 v6 wq => ∃ (i j : Nat) (cur : List Mb), v5 = .int .i64 i ∧ v6 = .int .i64 j ∧ i < j ∧ j ≤ ln ∧ ln ≤ gh + j ∧ cur.length = ln ∧ Hid (cur.take i = (l.take j).filter (notN n)) ∧ Hid (cur.drop j = l.drop j) ∧ wq.ownsRow lo 35 3 (.slice (some ⟨g, 0, none⟩) ln c) ln (flatB cur) ∧ Keep (fun j => j = g) W1 wq)
    case atStart => exact ⟨k, k + 1, cur0, rfl, by go_num, by omega, by omega, by omega, Q1.out, Q2, Q3, HO2.out, Keep.refl _ _⟩
    case round =>
      clear HO2 Q1 Q2 Q3 cur0
      obtain ⟨i, j, cur, rfl, rfl, hij, hjn, hg, hcl, HT, HD, hown, hkeep⟩ := hrel
      have HO := Lib.hid hown
      have HK := Lib.hid hkeep
      have HCL := Lib.hid hcl
      clear hown hkeep hcl
      by_cases hlt : j < ln
      · obtain ⟨m, hm⟩ : ∃ m, cur[j]? = some m := ⟨_, List.getElem?_eq_getElem (by have := HCL.out; omega)⟩
        have HML : Hid (l[j]? = some m) := Lib.hid (by
          have h1 : (cur.drop j)[0]? = (l.drop j)[0]? := by rw [HD.out]
          rw [List.getElem?_drop, List.getElem?_drop, Nat.add_zero] at h1
          rw [← h1]; exact hm)
        obtain ⟨c0, c1, c2⟩ := row_cells HO.out hlt hm
        have cf : ∀ o, wr.frozen? ⟨g, o, none⟩ = false := fun o => HO.out.frozenAt o
        have HM := Lib.hid hm
        have hjz : (j : Int) < (ln : Int) := by omega
        have hj0 : (0 : Int) ≤ (j : Int) := by omega
        have hi0 : (0 : Int) ≤ (i : Int) := by omega
        have hiz : (i : Int) < (ln : Int) := by omega
        clear hm
        obtain ⟨x, y, z⟩ := m
        simp only [] at c0 c1 c2
        have HV := Lib.hid (Box3.new wr (.int .i64 x) (.int .i64 y) (.int .i64 z) 35)
        have HKA : Hid (Keep (fun _ => False) wr (wr.alloc (.cells #[.int .i64 x, .int .i64 y, .int .i64 z] 35))) := Lib.hid ((Keep.refl _ wr).alloc _)
        go_upto_region 8 with (fail)
        clear c0 c1 c2 cf
        have hgw := (HO.out.lt g rfl).2
        generalize wr.alloc (.cells #[.int .i64 x, .int .i64 y, .int .i64 z] 35) = V at *
        generalize wr.heap.size = zv at *
        have HZV : Hid (zv ≠ g) := Lib.hid (by omega)
        clear hgw
        obtain ⟨b0, b1, b2, -⟩ := HV.out
        go_wp2_with fail
        clear b0 b1 b2
        refine (is1_any ⟨x, y, z⟩ b n V ((HKA.out.cell (HK.out.cell HB1.out (fun e => HGB.out e.symm)) (fun h => h)))).mono ?_
        rintro e V2 ⟨rfl, k2⟩
        have HKV := Lib.hid (HKA.out.trans k2)
        have HV2 := Lib.hid (HV.out.kept k2)
        have HO2 := Lib.hid (ownsRow_keep HO.out HKV.out (fun _ _ h => h))
        clear k2 HV HKA
        by_cases hx : x = n
        · have hb : (x == n) = true := by simpa using hx
          simp only [hb]
          have HTN : Hid (cur.take i = (l.take (j + 1)).filter (notN n)) := Lib.hid (by
            rw [List.take_add_one, HML.out, List.filter_append, HT.out]
            simp [notN, hx])
          have HDN : Hid (cur.drop (j + 1) = l.drop (j + 1)) := Lib.hid (by rw [← List.drop_drop, ← List.drop_drop, HD.out])
          go_wp2_with fail
          go_roundg (gk - 1)
          case rel => exact ⟨i, j + 1, cur, rfl, by go_num, by omega, by omega, by omega, HCL.out, HTN, HDN, HO2.out, HK.out.trans (HKV.out.mono (fun _ h => h.elim))⟩
          case measure => omega
        · have hb : (x == n) = false := by simpa using hx
          simp only [hb]
          have HTN : Hid ((cur.set i ⟨x, y, z⟩).take (i + 1) = (l.take (j + 1)).filter (notN n)) := Lib.hid (by
            rw [List.take_add_one, List.getElem?_set_self (by have := HCL.out; omega), List.take_set_of_le (Nat.le_refl _), HT.out, List.take_add_one, HML.out, List.filter_append]
            simp [notN, hx])
          have HDN : Hid ((cur.set i ⟨x, y, z⟩).drop (j + 1) = l.drop (j + 1)) := Lib.hid (by
            rw [List.drop_set_of_lt (by omega), ← List.drop_drop, ← List.drop_drop, HD.out])
          have HON := Lib.hid (row_store HO2.out HCL.out (show i < ln by omega) ⟨x, y, z⟩)
          have kq : Keep (fun j => j = g) V2 (((V2.setCell ⟨g, i * 3, none⟩ (.int .i64 x)).setCell ⟨g, i * 3 + 1, none⟩ (.int .i64 y)).setCell ⟨g, i * 3 + 2, none⟩ (.int .i64 z)) := (((Keep.refl (fun j => j = g) V2).setCell (p := ⟨g, i * 3, none⟩) _ (.inl rfl)).setCell (p := ⟨g, i * 3 + 1, none⟩) _ (.inl rfl)).setCell (p := ⟨g, i * 3 + 2, none⟩) _ (.inl rfl)
          have HKN := Lib.hid ((HK.out.trans (HKV.out.mono (fun _ h => h.elim))).trans kq)
          obtain ⟨w0, hw0⟩ : ∃ w0, cur[i]? = some w0 := ⟨_, List.getElem?_eq_getElem (by have := HCL.out; omega)⟩
          obtain ⟨e0, e1, e2⟩ := row_cells HO2.out (show i < ln by omega) hw0
          have cf : ∀ o, V2.frozen? ⟨g, o, none⟩ = false := fun o => HO2.out.frozenAt o
          obtain ⟨b0, b1, b2, -⟩ := HV2.out
          clear kq hw0
          go_wp2_with fail
          clear e0 e1 e2 cf b0 b1 b2
          generalize ((V2.setCell ⟨g, i * 3, none⟩ (.int .i64 x)).setCell ⟨g, i * 3 + 1, none⟩ (.int .i64 y)).setCell ⟨g, i * 3 + 2, none⟩ (.int .i64 z) = V3 at *
          go_roundg (gk - 1)
          case rel => exact ⟨i + 1, j + 1, _, by go_num, by go_num, by omega, by omega, by omega, by rw [List.length_set]; exact HCL.out, HTN, HDN, HON.out, HKN.out⟩
          case measure => omega
      · have hjl : j = ln := by omega
        have hil : i < ln := by omega
        have HFI : Hid (cur.take i = l.filter (notN n) ∧ (l.filter (notN n)).length = i) := Lib.hid (by
          have h1 := HT.out
          have e2 : l.take ln = l := List.take_of_length_le (by have := HL.out; omega)
          rw [hjl, e2] at h1
          refine ⟨h1, ?_⟩
          rw [← h1, List.length_take, HCL.out]
          omega)
        have hsc : i ≤ c := by
          have := own_cap HO.out
          omega
        have hcap : ln ≤ c := own_cap HO.out
        have hjz : ¬ ((j : Int) < (ln : Int)) := by omega
        have hi0 : (0 : Int) ≤ (i : Int) := by omega
        have hiz : (i : Int) ≤ (ln : Int) := by omega
        obtain ⟨W3, hrun, hown3, hk3⟩ := clear_end HO.out hil 0 (c - i)
        have HRUN := Lib.hid hrun
        have HO3 := Lib.hid hown3
        have HK3 := Lib.hid (HK.out.trans hk3)
        clear hrun hown3 hk3
        have hrn := HRUN.out
        go_upto_region 12 with (fail)
        clear hrn
        go_wp2_with fail
        go_ret
        unfold DelPost
        rw [HFI.out.2, ← HFI.out.1]
        exact ⟨rfl, HO3.out, (HK1.out.mono (fun _ h => h.elim)).trans (HK3.out.mono (fun j e => by rw [show j = g from e]; rfl))⟩
end Go.Proofs.YtplkmbfeeegaiaaGreatDoor

/-
  The stable sort of members that are in order but for the last one.
-/
namespace Go.Proofs.YtplkmbfeeegaiaaGreatDoor
open Go.RowKit Go.Shelf

set_option maxRecDepth 100000 in
theorem byNode_any (x y : Mb) (w : World) : Calls Tryz.prog 60 #[mbV x, mbV y] w fun e w' => e = .returned (.int .i64 (cmpI x.node y.node)) ∧ Keep (fun _ => False) w w' := by
  obtain ⟨x0, x1, x2⟩ := x
  obtain ⟨y0, y1, y2⟩ := y
  have HB1 := Lib.hid (Box3.new w (.int .i64 x0) (.int .i64 x1) (.int .i64 x2) 35)
  have HB2 := Lib.hid (Box3.new (w.alloc (.cells #[.int .i64 x0, .int .i64 x1, .int .i64 x2] 35)) (.int .i64 y0) (.int .i64 y1) (.int .i64 y2) 35)
  have k1 : Keep (fun _ => False) w (w.alloc (.cells #[.int .i64 x0, .int .i64 x1, .int .i64 x2] 35)) := (Keep.refl _ w).alloc _
  have k2 : Keep (fun _ => False) (w.alloc (.cells #[.int .i64 x0, .int .i64 x1, .int .i64 x2] 35)) ((w.alloc (.cells #[.int .i64 x0, .int .i64 x1, .int .i64 x2] 35)).alloc (.cells #[.int .i64 y0, .int .i64 y1, .int .i64 y2] 35)) := (Keep.refl _ _).alloc _
  have HK := Lib.hid (k1.trans k2)
  have HB3 := Lib.hid (HB1.out.kept k2)
  rw [World.size_alloc] at HB2
  clear k1 k2 HB1
  go_enter Tryz.func60, Tryz.ntmps60
  go_wp2_with fail
  generalize (w.alloc (.cells #[.int .i64 x0, .int .i64 x1, .int .i64 x2] 35)).alloc (.cells #[.int .i64 y0, .int .i64 y1, .int .i64 y2] 35) = W at *
  generalize w.heap.size = z at *
  obtain ⟨a0, -, -, -⟩ := HB3.out
  obtain ⟨b0, -, -, -⟩ := HB2.out
  go_wp2_with fail
  with_reducible refine (cmp_int x0 y0 W).mono ?_
  rintro e w' ⟨rfl, rfl⟩
  go_wp2_with fail
  go_ret
  exact ⟨rfl, HK.out⟩

theorem swap_list {l : List Mb} {q : Nat} {y m : Mb} (h : l[q]? = some y) : ((l.take (q + 1) ++ m :: l.drop (q + 1)).set (q + 1) y).set q m = l.take q ++ m :: l.drop q := by
  have hq : q < l.length := (List.getElem?_eq_some_iff.1 h).1
  have e1 : l.take (q + 1) = l.take q ++ [y] := by rw [List.take_add_one, h]; rfl
  have e2 : l.drop q = y :: l.drop (q + 1) := by
    rw [List.drop_eq_getElem_cons hq]
    congr 1
    exact (List.getElem?_eq_some_iff.1 h).2
  have hl : (l.take q).length = q := by rw [List.length_take]; omega
  rw [e1, e2]
  generalize l.take q = A at *
  generalize l.drop (q + 1) = B at *
  rw [List.append_assoc, List.set_append_right _ _ (by omega), hl, show q + 1 - q = 1 by omega, List.set_append_right _ _ (by omega), hl, Nat.sub_self]
  rfl
/-- The place of a further member. -/
theorem lo_hi_at {l : List Mb} {m : Mb} {j : Nat} (_h : l.Pairwise (fun a b => a.node < b.node)) (h1 : ∀ x ∈ l.take j, x.node < m.node) (h2 : ∀ x ∈ l.drop j, m.node < x.node) : l.take j ++ m :: l.drop j = moreM l m := by
  unfold moreM
  have e : l = l.take j ++ l.drop j := (List.take_append_drop j l).symm
  have f1 : (l.take j).filter (fun x => decide (x.node < m.node)) = l.take j := List.filter_eq_self.2 (fun x hx => by simpa using h1 x hx)
  have f2 : (l.drop j).filter (fun x => decide (x.node < m.node)) = [] := List.filter_eq_nil_iff.2 (fun x hx => by have := h2 x hx; simp; omega)
  have f3 : (l.take j).filter (fun x => decide (m.node < x.node)) = [] := List.filter_eq_nil_iff.2 (fun x hx => by have := h1 x hx; simp; omega)
  have f4 : (l.drop j).filter (fun x => decide (m.node < x.node)) = l.drop j := List.filter_eq_self.2 (fun x hx => by simpa using h2 x hx)
  have a1 : loM l m.node = l.take j := by
    unfold loM
    conv => lhs; rw [e]
    rw [List.filter_append, f1, f2, List.append_nil]
  have a2 : hiM l m.node = l.drop j := by
    unfold hiM
    conv => lhs; rw [e]
    rw [List.filter_append, f3, f4, List.nil_append]
  rw [a1, a2]

abbrev byNodeV : Value := .func (.func 60) #[] #[]
set_option maxRecDepth 100000 in
set_option maxHeartbeats 4000000 in
theorem insSort_any (lo g c : Nat) (l : List Mb) (m : Mb) (w : World) (hs : l.Pairwise (fun a b => a.node < b.node)) (hm : ∀ x ∈ l, x.node ≠ m.node) (hl : l.length ≤ 1000) (h : w.ownsRow lo 35 3 (.slice (some ⟨g, 0, none⟩) (l.length + 1) c) (l.length + 1) (flatB (l ++ [m]))) :
    Calls Tryz.prog 146 #[.slice (some ⟨g, 0, none⟩) (l.length + 1) c, .int .i64 0, .int .i64 (l.length + 1 : Nat), byNodeV] w fun e w' => e = .returned (.tuple #[]) ∧ w'.ownsRow lo 35 3 (.slice (some ⟨g, 0, none⟩) (l.length + 1) c) (l.length + 1) (flatB (moreM l m)) ∧ Keep (fun j => j = g) w w' := by
  have HO := Lib.hid h
  have HS := Lib.hid hs
  have HM := Lib.hid hm
  obtain ⟨n, hn⟩ : ∃ n, l.length = n := ⟨_, rfl⟩
  have HL := Lib.hid hn
  rw [hn] at hl HO ⊢
  obtain ⟨N, hN⟩ : ∃ N, n + 1 = N := ⟨_, rfl⟩
  rw [hN] at HO ⊢
  clear h hs hm hn
  go_enter Tryz.func146, Tryz.ntmps146
  go_wp2_with fail
  go_loopg [8] N (fun gh v8 wq => ∃ (i : Nat) (cur : List Mb), v8 = .int .i64 i ∧ 1 ≤ i ∧ i ≤ N ∧ N ≤ gh + i ∧ Hid (i ≤ n → cur = l ++ [m]) ∧ Hid (i = N → cur = moreM l m) ∧ wq.ownsRow lo 35 3 (.slice (some ⟨g, 0, none⟩) N c) N (flatB cur) ∧ Keep (fun j => j = g) w wq)
  case atStart => exact ⟨1, l ++ [m], rfl, by omega, by omega, by omega, Lib.hid (fun _ => rfl), Lib.hid (fun e => by
    have : l = [] := List.eq_nil_of_length_eq_zero (by have := HL.out; omega)
    subst this
    simp [moreM, loM, hiM]), HO.out, Keep.refl _ _⟩
  case round =>
    clear HO
    obtain ⟨i, cur, rfl, hi1, hi2, hg, HC1, HC2, hown, hkeep⟩ := hrel
    have HO := Lib.hid hown
    have HK := Lib.hid hkeep
    clear hown hkeep
    by_cases hlt : i < N
    · have HCE := Lib.hid (HC1.out (by omega))
      have hiz : (i : Int) < (N : Int) := by omega
      have hi0 : (0 : Int) ≤ (i : Int) := by omega
      clear HC1 HC2
      -- the row, with the place of the member that moves
      go_wp2_with fail
      go_loopg [9] (N + 1) (fun gq v9 wz => ∃ (j : Nat) (cu : List Mb), v9 = .int .i64 j ∧ j ≤ i ∧ j < gq ∧ Hid ((i < n ∧ j = i ∧ cu = l ++ [m]) ∨ (i = n ∧ cu = l.take j ++ m :: l.drop j ∧ ∀ x ∈ l.drop j, m.node < x.node)) ∧ wz.ownsRow lo 35 3 (.slice (some ⟨g, 0, none⟩) N c) N (flatB cu) ∧ Keep (fun j => j = g) w wz)
      case atStart => exact ⟨i, cur, rfl, Nat.le_refl _, by omega, Lib.hid (by
        by_cases e : i < n
        · exact .inl ⟨e, rfl, HCE.out⟩
        · refine .inr ⟨by omega, ?_, ?_⟩
          · rw [HCE.out, List.take_of_length_le (by have := HL.out; omega), List.drop_of_length_le (by have := HL.out; omega)]
          · rw [List.drop_of_length_le (by have := HL.out; omega)]
            intro x hx
            cases hx), HO.out, HK.out⟩
      case round =>
        clear HO HK HCE
        obtain ⟨j, cu, rfl, hj, hjg, HST, hown, hkeep⟩ := hrel
        have HO := Lib.hid hown
        have HK := Lib.hid hkeep
        clear hown hkeep
        have HCUL : Hid (cu.length = N) := Lib.hid (by
          rcases HST.out with ⟨_, _, rfl⟩ | ⟨_, rfl, _⟩
          · rw [List.length_append, HL.out]; exact hN
          · rw [List.length_append, List.length_cons, List.length_take, List.length_drop, HL.out]; omega)
        by_cases hj0 : j = 0
        · subst hj0
          have HEND : Hid (i = n ∧ cu = moreM l m) := Lib.hid (by
            rcases HST.out with ⟨h1, h2, _⟩ | ⟨h1, h2, h3⟩
            · omega
            · exact ⟨h1, by rw [h2]; exact lo_hi_at HS.out (by simp) h3⟩)
          go_upto_region 4 with (fail)
          go_quiet (fail)
          have HOP := Lib.hid (fun k => ownsRow_keep HO.out ((Keep.refl (fun _ => False) wr).drewN k) (fun _ _ h => h))
          have HKP := Lib.hid (fun k => HK.out.trans ((Keep.refl (fun j => j = g) wr).drewN k))
          go_wp2_with fail
          go_roundg (n - i)
          case rel => exact ⟨i + 1, cu, by go_num, by omega, by omega, by omega, Lib.hid (fun h => by have := HEND.out.1; omega), Lib.hid (fun _ => HEND.out.2), HOP.out _, HKP.out _⟩
          case measure => omega
        · obtain ⟨q, hjq⟩ : ∃ q, j = q + 1 := ⟨j - 1, by omega⟩
          have HJQ := Lib.hid hjq
          obtain ⟨x, hx⟩ : ∃ x, cu[j]? = some x := ⟨_, List.getElem?_eq_getElem (by have := HCUL.out; omega)⟩
          obtain ⟨y, hy⟩ : ∃ y, cu[q]? = some y := ⟨_, List.getElem?_eq_getElem (by have := HCUL.out; omega)⟩
          have HX := Lib.hid hx
          have HY := Lib.hid hy
          have hxc := row_cells HO.out (show j < N by omega) hx
          have hyc := row_cells HO.out (show q < N by omega) hy
          have HXC := Lib.hid hxc
          have HYC := Lib.hid hyc
          have hql : q < n := by omega
          have HYL : Hid (l[q]? = some y) := Lib.hid (by
            rcases HST.out with ⟨h1, h2, h3⟩ | ⟨h1, h2, h3⟩
            · rw [h3, List.getElem?_append_left (by have := HL.out; omega)] at hy
              exact hy
            · rw [h2, List.getElem?_append_left (by rw [List.length_take]; have := HL.out; omega), List.getElem?_take_of_lt (by omega)] at hy
              exact hy)
          clear hx hy hxc hyc
          have HBY : Hid (∀ W, Calls Tryz.prog 60 #[mbV x, mbV y] W fun e w' => e = .returned (.int .i64 (cmpI x.node y.node)) ∧ Keep (fun _ => False) W w') := Lib.hid (fun W => byNode_any x y W)
          have HCN := Lib.hid (cmpI_neg x.node y.node)
          obtain ⟨x0, x1, x2⟩ := x
          obtain ⟨y0, y1, y2⟩ := y
          simp only [mbV] at HXC HYC HBY HCN
          have ek : (j : Int) - 1 = (q : Int) := by omega
          have hgt : (0 : Int) < (j : Int) := by omega
          have hgn : 0 < j := by omega
          have hw1 : IntKind.i64.wrap (q : Int) = (q : Int) := wrapI (by unfold I64; omega)
          have hq0 : (0 : Int) ≤ (q : Int) := by omega
          have hqz : (q : Int) < (N : Int) := by omega
          have hqz1 : (j : Int) < (N : Int) := by omega
          have hj0' : (0 : Int) ≤ (j : Int) := by omega
          have ca0 : ∀ p : KW wr, p.val.cell? ⟨g, j * 3, none⟩ = some (.int .i64 x0) := fun p => p.k.cell HXC.out.1 (fun h => h)
          have ca1 : ∀ p : KW wr, p.val.cell? ⟨g, j * 3 + 1, none⟩ = some (.int .i64 x1) := fun p => p.k.cell HXC.out.2.1 (fun h => h)
          have ca2 : ∀ p : KW wr, p.val.cell? ⟨g, j * 3 + 2, none⟩ = some (.int .i64 x2) := fun p => p.k.cell HXC.out.2.2 (fun h => h)
          have cb0 : ∀ p : KW wr, p.val.cell? ⟨g, q * 3, none⟩ = some (.int .i64 y0) := fun p => p.k.cell HYC.out.1 (fun h => h)
          have cb1 : ∀ p : KW wr, p.val.cell? ⟨g, q * 3 + 1, none⟩ = some (.int .i64 y1) := fun p => p.k.cell HYC.out.2.1 (fun h => h)
          have cb2 : ∀ p : KW wr, p.val.cell? ⟨g, q * 3 + 2, none⟩ = some (.int .i64 y2) := fun p => p.k.cell HYC.out.2.2 (fun h => h)
          generalize cmpI x0 y0 = cv at *
          clear hjq
          go_upto_region 4 with (fail)
          refine wp_region_quiet_kept (by kernel_rfl) (by kernel_rfl) ?_
          repeat (quiet_step ((go_at_call 60; with_reducible refine Calls.kept_of (HBY.out _))))
          refine wpQuiet_nil ?_
          rintro _ ⟨p, rfl⟩
          have HOP := Lib.hid (ownsRow_keep HO.out p.k (fun _ _ h => h))
          have HKP := Lib.hid (HK.out.trans (p.k.mono (fun _ h => h.elim)))
          clear ca0 ca1 ca2 cb0 cb1 cb2
          generalize p.val = V at *
          by_cases hneg : cv < 0
          · have HSW : Hid (i = n ∧ cu = l.take j ++ m :: l.drop j ∧ (∀ z ∈ l.drop j, m.node < z.node) ∧ (⟨x0, x1, x2⟩ : Mb) = m) := Lib.hid (by
              have hjq := HJQ.out
              rcases HST.out with ⟨h1, h2, h3⟩ | ⟨h1, h2, h3⟩
              · exfalso
                have h4 := HX.out
                rw [h3, List.getElem?_append_left (by have := HL.out; omega)] at h4
                obtain ⟨a1, a2⟩ := List.getElem?_eq_some_iff.1 h4
                obtain ⟨b1, b2⟩ := List.getElem?_eq_some_iff.1 HYL.out
                have h8 := List.pairwise_iff_getElem.1 HS.out q j b1 a1 (by omega)
                rw [a2, b2] at h8
                have h9 := HCN.out.1 hneg
                simp only [] at h8
                omega
              · refine ⟨h1, h2, h3, ?_⟩
                have h4 := HX.out
                rw [h2, List.getElem?_append_right (by rw [List.length_take]; omega), List.length_take, HL.out, Nat.min_eq_left (by omega), Nat.sub_self] at h4
                simpa using h4.symm)
            have HOU : Hid (V.drew.ownsRow lo 35 3 (.slice (some ⟨g, 0, none⟩) N c) N (flatB cu)) := Lib.hid (ownsRow_keep HOP.out (Keep.refl (fun _ => False) V).drew (fun _ _ h => h))
            have HKU : Hid (Keep (fun j => j = g) w V.drew) := Lib.hid (HKP.out.trans (Keep.refl (fun j => j = g) V).drew)
            have HUV : Hid (Keep (fun j => j = g) V V.drew) := Lib.hid (Keep.refl _ V).drew
            go_upto_region 6 with (fail)
            refine wp_region_walkT (.read 0 (.read 1 (.read 2 (.read 3 (.read 4 (.read 5 (.read 6 (.read 7 (.read 8 (.read 10 (.read 11 (.read 12 (.two 9 (.one 13 (.one 14 (.one 15 (.one 16 (.one 17 .done))))) 13 (.one 9 (.one 14 (.one 15 (.one 16 (.one 17 .done)))))))))))))))))) (inKA (fun j => j = g) V.drew) (by kernel_rfl) (by kernel_rfl) ?_
            iterate 12 (refine walkT_read rfl (fun K hK => ?_); go_simp; refine hK _ ?_; clear hK K)
            clear HOP HKP
            generalize V.drew = U at *
            have hxc := row_cells HOU.out (show j < N by omega) HX.out
            simp only [] at hxc
            have HO1 := Lib.hid (row_store HOU.out HCUL.out (show j < N by omega) ⟨y0, y1, y2⟩)
            have HC1 : Hid ((cu.set j ⟨y0, y1, y2⟩).length = N) := Lib.hid (by rw [List.length_set]; exact HCUL.out)
            have hjq := HJQ.out
            have HY1 : Hid ((cu.set j ⟨y0, y1, y2⟩)[q]? = some ⟨y0, y1, y2⟩) := Lib.hid (by rw [List.getElem?_set_ne (by omega)]; exact HY.out)
            clear hjq
            have hyc := row_cells HO1.out (show q < N by omega) HY1.out
            simp only [] at hyc
            have HO2 := Lib.hid (row_store HO1.out HC1.out (show q < N by omega) ⟨x0, x1, x2⟩)
            have cf1 : ∀ o, U.frozen? ⟨g, o, none⟩ = false := fun o => HOU.out.frozenAt o
            have cf2 : ∀ o, (((U.setCell ⟨g, j * 3, none⟩ (.int .i64 y0)).setCell ⟨g, j * 3 + 1, none⟩ (.int .i64 y1)).setCell ⟨g, j * 3 + 2, none⟩ (.int .i64 y2)).frozen? ⟨g, o, none⟩ = false := fun o => HO1.out.frozenAt o
            obtain ⟨d0, d1, d2⟩ := hxc
            obtain ⟨e0, e1, e2⟩ := hyc
            have kq : Keep (fun j => j = g) U ((((((U.setCell ⟨g, j * 3, none⟩ (.int .i64 y0)).setCell ⟨g, j * 3 + 1, none⟩ (.int .i64 y1)).setCell ⟨g, j * 3 + 2, none⟩ (.int .i64 y2)).setCell ⟨g, q * 3, none⟩ (.int .i64 x0)).setCell ⟨g, q * 3 + 1, none⟩ (.int .i64 x1)).setCell ⟨g, q * 3 + 2, none⟩ (.int .i64 x2)) := ((((((Keep.refl (fun j => j = g) U).setCell (p := ⟨g, j * 3, none⟩) _ (.inl rfl)).setCell (p := ⟨g, j * 3 + 1, none⟩) _ (.inl rfl)).setCell (p := ⟨g, j * 3 + 2, none⟩) _ (.inl rfl)).setCell (p := ⟨g, q * 3, none⟩) _ (.inl rfl)).setCell (p := ⟨g, q * 3 + 1, none⟩) _ (.inl rfl)).setCell (p := ⟨g, q * 3 + 2, none⟩) _ (.inl rfl)
            have HKN := Lib.hid (HKU.out.trans kq)
            have HCUN : Hid ((cu.set j ⟨y0, y1, y2⟩).set q ⟨x0, x1, x2⟩ = l.take q ++ m :: l.drop q ∧ ∀ z ∈ l.drop q, m.node < z.node) := Lib.hid (by
              obtain ⟨s1, s2, s3, s4⟩ := HSW.out
              have hjq := HJQ.out
              subst hjq
              refine ⟨by rw [s2, s4]; exact swap_list HYL.out, fun z hz => ?_⟩
              have hq : q < l.length := (List.getElem?_eq_some_iff.1 HYL.out).1
              rw [List.drop_eq_getElem_cons hq] at hz
              rcases List.mem_cons.1 hz with h | h
              · rw [h, (List.getElem?_eq_some_iff.1 HYL.out).2, ← s4]
                exact HCN.out.1 hneg
              · exact s3 z h)
            have hjq' := HJQ.out
            have hjg' : q < gk := by omega
            have hjg2 : gk - 1 < gk := by omega
            have hqi : q ≤ i := by omega
            have hqg : q < gk - 1 := by omega
            clear kq hjq'
            have fc0 := (row_cells HOU.out (show q < N by omega) HY.out)
            simp only [] at fc0
            obtain ⟨y0c, y1c, y2c⟩ := fc0
            refine walkT_two rfl rfl (inKA.of (Keep.refl _ U)) (fun K hK => ?_) (fun K hK => ?_)
            · go_simp
              refine hK _ _ ?_; clear hK K
              refine walkT_do rfl (inKA.of (Keep.refl _ U)) (fun K hK => ?_)
              go_simp
              refine hK _ _ ?_; clear hK K
              refine walkT_do rfl (inKA.of (Keep.refl _ U)) (fun K hK => ?_)
              go_simp
              refine hK _ _ ?_; clear hK K
              refine walkT_do rfl (inKA.of (Keep.refl _ U)) (fun K hK => ?_)
              go_simp
              refine hK _ _ ?_; clear hK K
              refine walkT_do rfl (inKA.of ((((Keep.refl (fun j => j = g) U).setCell (p := ⟨g, j * 3, none⟩) _ (.inl rfl)).setCell (p := ⟨g, j * 3 + 1, none⟩) _ (.inl rfl)).setCell (p := ⟨g, j * 3 + 2, none⟩) _ (.inl rfl))) (fun K hK => ?_)
              go_simp
              refine hK _ _ ?_; clear hK K
              refine walkT_do rfl (inKA.of ((((Keep.refl (fun j => j = g) U).setCell (p := ⟨g, j * 3, none⟩) _ (.inl rfl)).setCell (p := ⟨g, j * 3 + 1, none⟩) _ (.inl rfl)).setCell (p := ⟨g, j * 3 + 2, none⟩) _ (.inl rfl))) (fun K hK => ?_)
              go_simp
              refine hK _ _ ?_; clear hK K
              refine ⟨inKA.of (((((((Keep.refl (fun j => j = g) U).setCell (p := ⟨g, j * 3, none⟩) _ (.inl rfl)).setCell (p := ⟨g, j * 3 + 1, none⟩) _ (.inl rfl)).setCell (p := ⟨g, j * 3 + 2, none⟩) _ (.inl rfl)).setCell (p := ⟨g, q * 3, none⟩) _ (.inl rfl)).setCell (p := ⟨g, q * 3 + 1, none⟩) _ (.inl rfl)).setCell (p := ⟨g, q * 3 + 2, none⟩) _ (.inl rfl)), ?_⟩
              go_wp2_with fail
              clear d0 d1 d2 e0 e1 e2 cf1 cf2
              generalize (((((U.setCell ⟨g, j * 3, none⟩ (.int .i64 y0)).setCell ⟨g, j * 3 + 1, none⟩ (.int .i64 y1)).setCell ⟨g, j * 3 + 2, none⟩ (.int .i64 y2)).setCell ⟨g, q * 3, none⟩ (.int .i64 x0)).setCell ⟨g, q * 3 + 1, none⟩ (.int .i64 x1)).setCell ⟨g, q * 3 + 2, none⟩ (.int .i64 x2) = WF at *
              go_roundg (gk - 1)
              case rel => exact ⟨q, _, rfl, hqi, hqg, Lib.hid (.inr ⟨HSW.out.1, HCUN.out.1, HCUN.out.2⟩), HO2.out, HKN.out⟩
              case measure => exact hjg2
            · go_simp
              refine hK _ _ ?_; clear hK K
              refine walkT_do rfl (inKA.of (Keep.refl _ U)) (fun K hK => ?_)
              go_simp
              refine hK _ _ ?_; clear hK K
              refine walkT_do rfl (inKA.of (Keep.refl _ U)) (fun K hK => ?_)
              go_simp
              refine hK _ _ ?_; clear hK K
              refine walkT_do rfl (inKA.of (Keep.refl _ U)) (fun K hK => ?_)
              go_simp
              refine hK _ _ ?_; clear hK K
              refine walkT_do rfl (inKA.of ((((Keep.refl (fun j => j = g) U).setCell (p := ⟨g, j * 3, none⟩) _ (.inl rfl)).setCell (p := ⟨g, j * 3 + 1, none⟩) _ (.inl rfl)).setCell (p := ⟨g, j * 3 + 2, none⟩) _ (.inl rfl))) (fun K hK => ?_)
              go_simp
              refine hK _ _ ?_; clear hK K
              refine walkT_do rfl (inKA.of ((((Keep.refl (fun j => j = g) U).setCell (p := ⟨g, j * 3, none⟩) _ (.inl rfl)).setCell (p := ⟨g, j * 3 + 1, none⟩) _ (.inl rfl)).setCell (p := ⟨g, j * 3 + 2, none⟩) _ (.inl rfl))) (fun K hK => ?_)
              go_simp
              refine hK _ _ ?_; clear hK K
              refine ⟨inKA.of (((((((Keep.refl (fun j => j = g) U).setCell (p := ⟨g, j * 3, none⟩) _ (.inl rfl)).setCell (p := ⟨g, j * 3 + 1, none⟩) _ (.inl rfl)).setCell (p := ⟨g, j * 3 + 2, none⟩) _ (.inl rfl)).setCell (p := ⟨g, q * 3, none⟩) _ (.inl rfl)).setCell (p := ⟨g, q * 3 + 1, none⟩) _ (.inl rfl)).setCell (p := ⟨g, q * 3 + 2, none⟩) _ (.inl rfl)), ?_⟩
              go_wp2_with fail
              clear d0 d1 d2 e0 e1 e2 cf1 cf2
              generalize (((((U.setCell ⟨g, j * 3, none⟩ (.int .i64 y0)).setCell ⟨g, j * 3 + 1, none⟩ (.int .i64 y1)).setCell ⟨g, j * 3 + 2, none⟩ (.int .i64 y2)).setCell ⟨g, q * 3, none⟩ (.int .i64 x0)).setCell ⟨g, q * 3 + 1, none⟩ (.int .i64 x1)).setCell ⟨g, q * 3 + 2, none⟩ (.int .i64 x2) = WF at *
              go_roundg (gk - 1)
              case rel => exact ⟨q, _, rfl, hqi, hqg, Lib.hid (.inr ⟨HSW.out.1, HCUN.out.1, HCUN.out.2⟩), HO2.out, HKN.out⟩
              case measure => exact hjg2
          · have HEND : Hid ((i < n ∧ cu = l ++ [m]) ∨ (i = n ∧ cu = moreM l m)) := Lib.hid (by
              have hjq := HJQ.out
              rcases HST.out with ⟨h1, h2, h3⟩ | ⟨h1, h2, h3⟩
              · exact .inl ⟨h1, h3⟩
              · refine .inr ⟨h1, ?_⟩
                rw [h2]
                refine lo_hi_at HS.out (fun z hz => ?_) h3
                have hxm : (⟨x0, x1, x2⟩ : Mb) = m := by
                  have h4 := HX.out
                  rw [h2, List.getElem?_append_right (by rw [List.length_take]; omega), List.length_take, HL.out, Nat.min_eq_left (by omega), Nat.sub_self] at h4
                  simpa using h4.symm
                have h5 : ¬ x0 < y0 := fun h => hneg (HCN.out.2 h)
                have h6 : (⟨y0, y1, y2⟩ : Mb).node ≠ m.node := HM.out _ (List.mem_of_getElem? HYL.out)
                rw [← hxm] at h6 ⊢
                simp only [] at h6 ⊢
                obtain ⟨t, ht⟩ := List.mem_iff_getElem?.1 hz
                have htq : t < j := by have := (List.getElem?_eq_some_iff.1 ht).1; rw [List.length_take] at this; omega
                rw [List.getElem?_take_of_lt htq] at ht
                rcases Nat.lt_or_ge t q with h7 | h7
                · obtain ⟨a1, a2⟩ := List.getElem?_eq_some_iff.1 ht
                  obtain ⟨b1, b2⟩ := List.getElem?_eq_some_iff.1 HYL.out
                  have h8 := List.pairwise_iff_getElem.1 HS.out t q a1 b1 h7
                  rw [a2, b2] at h8
                  simp only [] at h8
                  omega
                · obtain rfl : t = q := by omega
                  rw [HYL.out] at ht
                  cases ht
                  simp only []
                  omega)
            go_wp2_with fail
            go_roundg (n - i)
            case rel => exact ⟨i + 1, cu, by go_num, by omega, by omega, by omega, Lib.hid (fun h => by
              rcases HEND.out with h | h
              · exact h.2
              · omega), Lib.hid (fun h => by
              rcases HEND.out with h | h
              · omega
              · exact h.2), HOP.out, HKP.out⟩
            case measure => omega
    · have hi : i = N := by omega
      have HCE := Lib.hid (HC2.out hi)
      have hiz : ¬ ((i : Int) < (N : Int)) := by omega
      go_wp2_with fail
      go_end0
      exact ⟨rfl, by rw [← HCE.out]; exact HO.out, HK.out⟩
end Go.Proofs.YtplkmbfeeegaiaaGreatDoor

/-
  SortStableFunc, edited.
-/
namespace Go.Proofs.YtplkmbfeeegaiaaGreatDoor
open Go.RowKit Go.Shelf

def SortedPost (lo g c n : Nat) (l : List Mb) (w : World) (e : Ending) (w' : World) : Prop := e = .returned (.tuple #[]) ∧ w'.ownsRow lo 35 3 (.slice (some ⟨g, 0, none⟩) n c) n (flatB l) ∧ Keep (fun j => j = g) w w'
set_option maxRecDepth 100000 in
set_option maxHeartbeats 1000000 in
theorem stable_any (lo g c : Nat) (l : List Mb) (m : Mb) (w : World) (hs : l.Pairwise (fun a b => a.node < b.node)) (hm : ∀ x ∈ l, x.node ≠ m.node) (hl : l.length ≤ 18) (h : w.ownsRow lo 35 3 (.slice (some ⟨g, 0, none⟩) (l.length + 1) c) (l.length + 1) (flatB (l ++ [m]))) :
    Calls Tryz.prog 133 #[.slice (some ⟨g, 0, none⟩) (l.length + 1) c, .int .i64 (l.length + 1 : Nat), byNodeV] w (SortedPost lo g c (l.length + 1) (moreM l m) w) := by
  have HI := Lib.hid (insSort_any lo g c l m w hs hm (by omega) h)
  clear hs hm h
  obtain ⟨n, hn⟩ : ∃ n, l.length + 1 = n := ⟨_, rfl⟩
  have hn19 : n ≤ 19 := by omega
  have hn0 : 0 < n := by omega
  rw [hn] at HI ⊢
  clear hl hn
  have hz : ¬ ((20 : Int) ≤ (n : Int)) := by omega
  have hz2 : ¬ ((20 : Int) < (n : Int)) := by omega
  have hz3 : ¬ (20 ≤ n) := by omega
  have hz4 : ¬ (20 < n) := by omega
  go_enter Tryz.func133, Tryz.ntmps133
  go_wp2_with fail
  go_loopg [7, 8] 1 (fun gh v7 v8 wr => v7 = .int .i64 0 ∧ v8 = .int .i64 20 ∧ wr = w)
  case atStart => exact ⟨rfl, rfl, rfl⟩
  case round =>
    obtain ⟨rfl, rfl, rfl⟩ := hrel
    go_wp2_with fail
    with_reducible refine HI.out.mono ?_
    rintro e W1 ⟨rfl, hown, k1⟩
    have HO := Lib.hid hown
    have HK := Lib.hid k1
    clear hown k1 HI
    go_wp2_with fail
    go_loopg [6] 1 (fun gh v6 wr => v6 = .int .i64 20 ∧ wr = W1)
    case atStart => exact ⟨rfl, rfl⟩
    case round =>
      obtain ⟨rfl, rfl⟩ := hrel
      go_wp2_with fail
      go_end0
      exact ⟨rfl, HO.out, HK.out⟩
set_option maxRecDepth 100000 in
set_option maxHeartbeats 1000000 in
theorem sortStable_any (lo g c : Nat) (l : List Mb) (m : Mb) (w : World) (hs : l.Pairwise (fun a b => a.node < b.node)) (hm : ∀ x ∈ l, x.node ≠ m.node) (hl : l.length ≤ 18) (h : w.ownsRow lo 35 3 (.slice (some ⟨g, 0, none⟩) (l.length + 1) c) (l.length + 1) (flatB (l ++ [m]))) :
    Calls Tryz.prog 103 #[.slice (some ⟨g, 0, none⟩) (l.length + 1) c, byNodeV] w (SortedPost lo g c (l.length + 1) (moreM l m) w) := by
  have HI := Lib.hid (stable_any lo g c l m w hs hm hl h)
  clear hs hm h
  obtain ⟨n, hn⟩ : ∃ n, l.length + 1 = n := ⟨_, rfl⟩
  rw [hn] at HI ⊢
  go_enter Tryz.func103, Tryz.ntmps103
  go_wp2_with fail
  with_reducible refine HI.out.mono ?_
  rintro e W1 ⟨rfl, hown, k1⟩
  have HO := Lib.hid hown
  have HK := Lib.hid k1
  clear hown k1 HI
  go_wp2_with fail
  go_end0
  exact ⟨rfl, HO.out, HK.out⟩

/-- The function that tells nobody. -/
abbrev noneV : Value := .func (.func 59) #[] #[]
set_option maxRecDepth 100000 in
theorem none1_any (m : Mb) (w : World) : Calls Tryz.prog 59 #[mbV m] w fun e w' => e = .returned (.bool false) ∧ Keep (fun _ => False) w w' := by
  obtain ⟨x, y, z⟩ := m
  have HK : Hid (Keep (fun _ => False) w (w.alloc (.cells #[.int .i64 x, .int .i64 y, .int .i64 z] 35))) := Lib.hid ((Keep.refl _ w).alloc _)
  go_enter Tryz.func59, Tryz.ntmps59
  go_wp2_with fail
  go_ret
  exact ⟨rfl, HK.out⟩
set_option maxRecDepth 100000 in
set_option maxHeartbeats 1000000 in
theorem indexNone_any (v : Value) (l : List Mb) (w : World) (h : Mbs w v l) (hl : l.length ≤ 100000) : Calls Tryz.prog 64 #[v, noneV] w fun e w' => e = .returned (.int .i64 (-1)) ∧ Keep (fun _ => False) w w' := by
  obtain ⟨hn, -, a, c, bb, off, rfl, hc, ha, hcell⟩ := h
  have HC := Lib.hid hcell
  have HA := Lib.hid ha
  clear hcell ha hn
  obtain ⟨ln, hn'⟩ : ∃ n, l.length = n := ⟨_, rfl⟩
  have HL := Lib.hid hn'
  rw [hn'] at hc hl ⊢
  clear hn'
  go_enter Tryz.func64, Tryz.ntmps64
  go_wp2_with fail
  go_loopg [8] ln (fun gh v wr => ∃ k : Nat, gh + k = ln ∧ v = .int .i64 k ∧ Keep (fun _ => False) w wr)
  case atStart => exact ⟨0, by omega, rfl, Keep.refl _ _⟩
  case round =>
    obtain ⟨k, hk, rfl, hkeep⟩ := hrel
    have HK := Lib.hid hkeep
    clear hkeep
    by_cases hlt : k < ln
    · obtain ⟨m, hm⟩ : ∃ m, l[k]? = some m := ⟨_, List.getElem?_eq_getElem (by have := HL.out; omega)⟩
      obtain rfl := HA.out (by have := HL.out; omega)
      have c0 := HK.out.cell (HC.out k m hm).1 (fun h => h)
      have c1 := HK.out.cell (HC.out k m hm).2.1 (fun h => h)
      have c2 := HK.out.cell (HC.out k m hm).2.2 (fun h => h)
      have hkz : (k : Int) < (ln : Int) := by omega
      have hk0 : (0 : Int) ≤ (k : Int) := by omega
      have HIS := Lib.hid (none1_any m wr)
      clear hm
      obtain ⟨x, y, z⟩ := m
      simp only [] at c0 c1 c2
      go_wp2_with fail
      clear c0 c1 c2
      refine HIS.out.mono ?_
      rintro e W2 ⟨rfl, k2⟩
      have HK2 := Lib.hid (HK.out.trans k2)
      clear k2 HIS
      go_wp2_with fail
      go_roundg (gk - 1)
      case rel => exact ⟨k + 1, by omega, by go_num, HK2.out⟩
      case measure => omega
    · go_wp2_with fail
      go_ret
      exact ⟨rfl, HK.out⟩
set_option maxRecDepth 100000 in
set_option maxHeartbeats 1000000 in
theorem deleteNone_any (a : Option Addr) (n c : Nat) (l : List Mb) (w : World) (h : Mbs w (.slice a n c) l) (hl : l.length ≤ 100000) : Calls Tryz.prog 62 #[.slice a n c, noneV] w fun e w' => e = .returned (.slice a n c) ∧ Keep (fun _ => False) w w' := by
  have HI := Lib.hid (indexNone_any _ l w h hl)
  clear h hl
  go_enter Tryz.func62, Tryz.ntmps62
  go_wp2_with fail
  with_reducible refine HI.out.mono ?_
  rintro e W1 ⟨rfl, k1⟩
  have HK := Lib.hid k1
  clear k1 HI
  go_wp2_with fail
  go_ret
  exact ⟨rfl, HK.out⟩

/-- A list with one more at its place, as a row of its own. -/
def EditPost (l : List Mb) (w : World) (e : Ending) (w' : World) : Prop := ∃ g c, e = .returned (.slice (some ⟨g, 0, none⟩) l.length c) ∧ w'.ownsRow w.heap.size 35 3 (.slice (some ⟨g, 0, none⟩) l.length c) l.length (flatB l) ∧ Keep (fun _ => False) w w'
theorem moreM_len {l : List Mb} {m : Mb} (hs : l.Pairwise (fun a b => a.node < b.node)) (hm : ∀ x ∈ l, x.node ≠ m.node) : (moreM l m).length = l.length + 1 := by
  have h := split_lo_hi hs m.node hm
  have h2 := congrArg List.length h
  rw [List.length_append] at h2
  unfold moreM
  rw [List.length_append, List.length_cons]
  omega
/-- From the row without those that go, on. -/
theorem edited_rest {w W : World} {lo : Nat} (hlo : w.heap.size = lo) {a : Option Addr} {c : Nat} {l : List Mb} {m : Mb} {vm : Value} (hs : l.Pairwise (fun a b => a.node < b.node)) (hm : ∀ x ∈ l, x.node ≠ m.node) (hl : l.length ≤ 18)
    (h : W.ownsRow lo 35 3 (.slice a l.length c) l.length (flatB l)) (k : Keep (fun _ => False) w W) (hv : Mbs W vm [m]) :
    ∃ g c' W', (Builtin.append_ #[25, 25] 25 #[.slice a l.length c, vm]).run Tryz.prog W = .ok (.slice (some ⟨g, 0, none⟩) (l.length + 1) c') W' ∧
      Calls Tryz.prog 103 #[.slice (some ⟨g, 0, none⟩) (l.length + 1) c', byNodeV] W' fun e w' => e = .returned (.tuple #[]) ∧ EditPost (moreM l m) w (.returned (.slice (some ⟨g, 0, none⟩) (l.length + 1) c')) w' := by
  obtain ⟨v', W', r1, r2, r3⟩ := app_mbs0 W 25 lo (.slice a l.length c) vm l [m] h hv (by simp; omega) (by rw [← hlo]; exact k.size)
  rw [List.length_append] at r2
  change W'.ownsRow lo 35 3 v' (l.length + 1) (flatB (l ++ [m])) at r2
  obtain ⟨a', c', rfl⟩ := own_form r2
  obtain ⟨g, rfl⟩ := own_some' r2 (by omega)
  refine ⟨g, c', W', r1, ?_⟩
  refine (sortStable_any lo g c' l m W' hs hm hl r2).mono ?_
  rintro e w' ⟨rfl, ho, kk⟩
  have hg := (r2.lt g rfl).1
  have hle := moreM_len hs hm
  refine ⟨rfl, g, c', by rw [hle], by rw [hle, hlo]; exact ho, ?_⟩
  refine (k.trans' r3 (fun j e => .inr ?_)).trans' kk (fun j e => .inr ?_)
  · rw [hlo]; exact (h.lt j e).1
  · rw [hlo, show j = g from e]; exact hg
set_option maxRecDepth 100000 in
set_option maxHeartbeats 1000000 in
theorem editedJ_any (v vm : Value) (l : List Mb) (m : Mb) (w : World) (h : Mbs w v l) (hv : Mbs w vm [m]) (hs : l.Pairwise (fun a b => a.node < b.node)) (hm : ∀ x ∈ l, x.node ≠ m.node) (hl : l.length ≤ 18) :
    Calls Tryz.prog 58 #[v, noneV, byNodeV, vm] w (EditPost (moreM l m) w) := by
  have HC := Lib.hid (cloneM_any v l w h (by omega))
  have HV := Lib.hid hv
  have HS := Lib.hid hs
  have HM := Lib.hid hm
  have HBD := Lib.hid h.bd
  clear h hv hs hm
  go_enter Tryz.func58, Tryz.ntmps58
  go_wp2_with fail
  with_reducible refine HC.out.mono ?_
  rintro e W1 ⟨a, c, rfl, hown, k1⟩
  have HO := Lib.hid hown
  have HK := Lib.hid k1
  clear hown k1 HC
  go_wp2_with fail
  with_reducible refine (deleteNone_any a l.length c l W1 (mbs_owns HO.out (by omega) HBD.out) (by omega)).mono ?_
  rintro e W2 ⟨rfl, k2⟩
  obtain ⟨g, c', W3, hr, hsort⟩ := edited_rest rfl HS.out HM.out hl (ownsRow_keep HO.out k2 (fun _ _ h => h)) (HK.out.trans k2) (HV.out.kept (HK.out.trans k2))
  have HR := Lib.hid hr
  have HSO := Lib.hid hsort
  clear hr hsort k2 HK HO
  go_wp2_with (at_builtin; refine wpList_app rfl (.tmp 13) (.tmp 14) 25 rfl rfl rfl HR.out ?_)
  with_reducible refine HSO.out.mono ?_
  rintro e W4 ⟨rfl, hp⟩
  have HP := Lib.hid hp
  clear hp HSO HR
  go_wp2_with fail
  go_ret
  exact HP.out
set_option maxRecDepth 100000 in
set_option maxHeartbeats 1000000 in
theorem editedR_any (v vm : Value) (b : Nat) (n : Int) (l : List Mb) (m : Mb) (w : World) (h : Mbs w v l) (hb : w.cell? ⟨b, 0, none⟩ = some (.int .i64 n)) (hv : Mbs w vm [m]) (hs : l.Pairwise (fun a b => a.node < b.node)) (hm : ∀ x ∈ l, x.node ≠ m.node) (hl : l.length ≤ 18) :
    Calls Tryz.prog 58 #[v, isV b, byNodeV, vm] w (EditPost (moreM (l.filter (notN n)) m) w) := by
  have HC := Lib.hid (cloneM_any v l w h (by omega))
  have HV := Lib.hid hv
  have HS := Lib.hid hs
  have HM := Lib.hid hm
  have HB := Lib.hid hb
  have HBD := Lib.hid h.bd
  have HBL : Hid (b < w.heap.size) := Lib.hid (World.block_lt_of_cell? _ _ hb)
  clear h hv hs hm hb
  go_enter Tryz.func58, Tryz.ntmps58
  go_wp2_with fail
  with_reducible refine HC.out.mono ?_
  rintro e W1 ⟨a, c, rfl, hown, k1⟩
  have HO := Lib.hid hown
  have HK := Lib.hid k1
  clear hown k1 HC
  go_wp2_with fail
  with_reducible refine (deleteIs_any w.heap.size a c l b n W1 HO.out HBD.out (by omega) (HK.out.cell HB.out (fun h => h)) (fun e => by have := (HO.out.lt b e).1; have := HBL.out; omega)).mono ?_
  rintro e W2 ⟨rfl, hown2, k2⟩
  have hfl : (l.filter (notN n)).length ≤ 18 := Nat.le_trans (List.length_filter_le _ _) hl
  obtain ⟨g, c', W3, hr, hsort⟩ := edited_rest rfl (HS.out.sublist List.filter_sublist) (fun x hx => HM.out x (List.mem_filter.1 hx).1) hfl hown2 (HK.out.trans' k2 (fun j e => .inr (hown2.lt j e).1)) (HV.out.kept (HK.out.trans' k2 (fun j e => .inr (hown2.lt j e).1)))
  have HR := Lib.hid hr
  have HSO := Lib.hid hsort
  clear hr hsort k2 HK HO hown2
  go_wp2_with (at_builtin; refine wpList_app rfl (.tmp 13) (.tmp 14) 25 rfl rfl rfl HR.out ?_)
  with_reducible refine HSO.out.mono ?_
  rintro e W4 ⟨rfl, hp⟩
  have HP := Lib.hid hp
  clear hp HSO HR
  go_wp2_with fail
  go_ret
  exact HP.out
end Go.Proofs.YtplkmbfeeegaiaaGreatDoor

/-
  Join of package reshard.
-/
namespace Go.Proofs.YtplkmbfeeegaiaaGreatDoor
open Go.RowKit Go.Shelf

/-- A ring and OK, or none and ErrRing. -/
def RingRes (ok : Bool) (ep : Int) (l : List Mb) (ow : List Int) (w : World) (e : Ending) (w' : World) : Prop := ∃ (ep' : Int) (l' : List Mb) (ow' : List Int) (err : Int) (am : Option Addr) (nm cm : Nat) (ao : Option Addr) (no co : Nat),
  (ok = true → ep' = ep ∧ l' = l ∧ ow' = ow ∧ err = 0) ∧ (ok = false → ep' = 0 ∧ l' = [] ∧ ow' = [] ∧ err = 120) ∧ nm = l'.length ∧ no = ow'.length ∧
  e = .returned (.tuple #[.agg #[.int .i64 ep', .slice am nm cm, .slice ao no co], .int .i64 err]) ∧ w'.ownsRow w.heap.size 35 3 (.slice am nm cm) nm (flatB l') ∧ w'.ownsRow w.heap.size 3 1 (.slice ao no co) no (ow'.map (fun x => Value.int .i64 x)) ∧ Keep (fun _ => False) w w'
theorem RingRes.bad {ep : Int} {l : List Mb} {ow : List Int} {w : World} {e : Ending} {w' : World} (h : NewBad w e w') : RingRes false ep l ow w e w' :=
  ⟨0, [], [], 120, none, 0, 0, none, 0, 0, (fun h => by cases h), fun _ => ⟨rfl, rfl, rfl, rfl⟩, rfl, rfl, h.1, World.ownsRow_nil _ _ _ _, World.ownsRow_nil _ _ _ _, h.2⟩
theorem RingRes.ok' {ep : Int} {l : List Mb} {ow : List Int} {w : World} {e : Ending} {w' : World} (h : RingPost ep l ow w e w') : RingRes true ep l ow w e w' := by
  obtain ⟨am, cm, ao, co, h1, h2, h3, h4⟩ := h
  exact ⟨ep, l, ow, 0, am, _, cm, ao, _, co, fun _ => ⟨rfl, rfl, rfl, rfl⟩, (fun h => by cases h), rfl, rfl, h1, h2, h3, h4⟩
/-- Whether Change accepts. -/
def chOk (ep : Int) (lr l : List Mb) (ow : List Int) : Bool := validRB ep lr ow && (validL l && decide (ep < 1000000))
theorem changeU (v vl : Value) (ep : Int) (lr l : List Mb) (ow : List Int) (w : World) (h : Rng w v ep lr ow) (hl : Mbs w vl l) (hT : Tab w) : Calls Tryz.prog 22 #[v, vl] w (RingRes (chOk ep lr l ow) (ep + 1) l (changeL PN QS l ow) w) := by
  unfold chOk
  cases h1 : validRB ep lr ow with
  | false => exact (changeR_bad v vl ep lr l ow w h hl (.inl h1)).mono (fun _ _ => RingRes.bad)
  | true =>
    cases h2 : validL l with
    | false => exact (changeR_bad v vl ep lr l ow w h hl (.inr (.inl h2))).mono (fun _ _ => RingRes.bad)
    | true =>
      by_cases h3 : ep < 1000000
      · rw [decide_eq_true h3]
        exact (changeR_ok v vl ep lr l ow w h h1 h3 hl ((validL_iff l).1 h2) hT).mono (fun _ _ => RingRes.ok')
      · rw [decide_eq_false h3]
        exact (changeR_bad v vl ep lr l ow w h hl (.inr (.inr (by omega)))).mono (fun _ _ => RingRes.bad)
def hasN (l : List Mb) (n : Int) : Bool := l.any (fun m => decide (m.node = n))
theorem hasN_false {l : List Mb} {n : Int} (h : hasN l n = false) : ∀ x ∈ l, x.node ≠ n := fun x hx => by
  unfold hasN at h
  rw [List.any_eq_false] at h
  simpa using h x hx
/-- Whether Join accepts. -/
def joinOk (ep : Int) (lr : List Mb) (ow : List Int) (m : Mb) : Bool := !hasN lr m.node && chOk ep lr (moreM lr m) ow

set_option maxRecDepth 100000 in
set_option maxHeartbeats 8000000 in
theorem join_any (v : Value) (ep : Int) (lr : List Mb) (ow : List Int) (m : Mb) (w : World) (h : Rng w v ep lr ow) (hm : I64 m.node ∧ I64 m.region ∧ I64 m.weight) (hl : lr.length ≤ 18) (hT : Tab w) : Calls Tryz.prog 16 #[v, mbV m] w (RingRes (joinOk ep lr ow m) (ep + 1) (moreM lr m) (changeL PN QS (moreM lr m) ow) w) := by
  have HRG := Lib.hid h
  have HT := Lib.hid hT
  have HMI := Lib.hid hm
  obtain ⟨hb0, vm, vo, rfl, hm0, ho0⟩ := h
  have HML := Lib.hid hm0
  obtain ⟨ma, mn, mc, rfl⟩ : ∃ a n c, vm = .slice a n c := by obtain ⟨a, c, b, off, h, _⟩ := hm0.at_; exact ⟨_, _, _, h⟩
  obtain ⟨oa, on, oc, rfl⟩ : ∃ a n c, vo = .slice a n c := by obtain ⟨a, c, b, off, h, _⟩ := ho0.at_; exact ⟨_, _, _, h⟩
  clear hm0 hb0 ho0 hT hm
  obtain ⟨m0, m1, m2⟩ := m
  simp only [mbV] at HMI ⊢
  obtain ⟨mb, hmb⟩ : ∃ mb : Mb, (⟨m0, m1, m2⟩ : Mb) = mb := ⟨_, rfl⟩
  have HMB := Lib.hid hmb
  have HX := Lib.hid (Box3.new w (.int .i64 ep) (.slice ma mn mc) (.slice oa on oc) 27)
  have HY := Lib.hid (Box3.new (w.alloc (.cells #[.int .i64 ep, .slice ma mn mc, .slice oa on oc] 27)) (.int .i64 m0) (.int .i64 m1) (.int .i64 m2) 35)
  have HU := Lib.hid (Box3.new ((w.alloc (.cells #[.int .i64 ep, .slice ma mn mc, .slice oa on oc] 27)).alloc (.cells #[.int .i64 m0, .int .i64 m1, .int .i64 m2] 35)) (.int .i64 0) (.slice none 0 0) (.slice none 0 0) 27)
  have k1 : Keep (fun _ => False) w (w.alloc (.cells #[.int .i64 ep, .slice ma mn mc, .slice oa on oc] 27)) := (Keep.refl _ w).alloc _
  have k2 : Keep (fun _ => False) (w.alloc (.cells #[.int .i64 ep, .slice ma mn mc, .slice oa on oc] 27)) ((w.alloc (.cells #[.int .i64 ep, .slice ma mn mc, .slice oa on oc] 27)).alloc (.cells #[.int .i64 m0, .int .i64 m1, .int .i64 m2] 35)) := (Keep.refl _ _).alloc _
  have k3 : Keep (fun _ => False) ((w.alloc (.cells #[.int .i64 ep, .slice ma mn mc, .slice oa on oc] 27)).alloc (.cells #[.int .i64 m0, .int .i64 m1, .int .i64 m2] 35)) (((w.alloc (.cells #[.int .i64 ep, .slice ma mn mc, .slice oa on oc] 27)).alloc (.cells #[.int .i64 m0, .int .i64 m1, .int .i64 m2] 35)).alloc (.cells #[.int .i64 0, .slice none 0 0, .slice none 0 0] 27)) := (Keep.refl _ _).alloc _
  have HX0 := Lib.hid (HX.out.kept (k2.trans k3))
  have HY0 := Lib.hid (HY.out.kept k3)
  have HK0 := Lib.hid (k1.trans (k2.trans k3))
  simp only [World.size_alloc] at HY0 HU
  clear k1 k2 k3 HX HY
  go_enter Tryz.func16, Tryz.ntmps16
  go_wp2_with fail
  generalize ((w.alloc (.cells #[.int .i64 ep, .slice ma mn mc, .slice oa on oc] 27)).alloc (.cells #[.int .i64 m0, .int .i64 m1, .int .i64 m2] 35)).alloc (.cells #[.int .i64 0, .slice none 0 0, .slice none 0 0] 27) = W0 at *
  generalize hz : w.heap.size = z at HX0 HY0 HU ⊢
  have HZ := Lib.hid hz
  clear hz
  obtain ⟨hc, hhc⟩ : ∃ b, hasN lr m0 = b := ⟨_, rfl⟩
  have HHC := Lib.hid hhc
  clear hhc
  have x1 : ∀ p : KA (fun _ => False) W0, p.val.cell? ⟨z, 1, none⟩ = some (.slice ma mn mc) := fun p => (HX0.out.kept p.k).2.1
  have y0 : ∀ p : KA (fun _ => False) W0, p.val.cell? ⟨z + 1, 0, none⟩ = some (.int .i64 m0) := fun p => (HY0.out.kept p.k).1
  refine wp_region_walk [(true, 0), (true, 1), (true, 2), (true, 3), (false, 4), (false, 5), (false, 6), (false, 7), (false, 8), (false, 9), (false, 10)] (inKA (fun _ => False) W0) (by kernel_rfl) (by kernel_rfl) ?_
  iterate 4 (refine walkW_read rfl (fun K hK => ?_); go_simp; refine hK _ ?_; clear hK K)
  clear x1 y0
  have HKD : Hid (Keep (fun _ => False) W0 W0.drew) := Lib.hid (Keep.refl _ W0).drew
  have HIS := Lib.hid (is_any m0 W0.drew)
  generalize W0.drew = W1 at *
  refine walkW_do rfl (inKA.of HKD.out) (fun K hK => ?_)
  go_simp
  refine HIS.out.mono ?_
  rintro e W2 ⟨rfl, hcell, k2, -⟩
  refine hK _ _ ?_; clear hK K
  have HK2 := Lib.hid (HKD.out.trans k2)
  have hci := containsIs_any _ lr W1.heap.size m0 W2 (HML.out.kept (HK0.out.trans HK2.out)) hcell (by omega)
  rw [show (lr.any fun m => decide (m.node = m0)) = hc from HHC.out] at hci
  have HCI := Lib.hid hci
  clear hci hcell k2 HIS
  generalize W1.heap.size = b1 at *
  refine walkW_do rfl (inKA.of HK2.out) (fun K hK => ?_)
  go_simp
  refine HCI.out.mono ?_
  rintro e W3 ⟨rfl, k3⟩
  refine hK _ _ ?_; clear hK K
  have HK3 := Lib.hid (HK2.out.trans k3)
  clear k3 HCI
  refine walkW_do rfl (inKA.of HK3.out) (fun K hK => ?_)
  go_simp
  refine hK _ _ ?_; clear hK K
  have FIN : Hid (∀ W, Hid (Keep (fun _ => False) W0 W) → Hid (Box3 (((W.setCell ⟨z + 1 + 1, 0, none⟩ (.int .i64 0)).setCell ⟨z + 1 + 1, 1, none⟩ (.slice none 0 0)).setCell ⟨z + 1 + 1, 2, none⟩ (.slice none 0 0)) (z + 1 + 1) (.int .i64 0) (.slice none 0 0) (.slice none 0 0) ∧ Keep (fun _ => False) w (((W.setCell ⟨z + 1 + 1, 0, none⟩ (.int .i64 0)).setCell ⟨z + 1 + 1, 1, none⟩ (.slice none 0 0)).setCell ⟨z + 1 + 1, 2, none⟩ (.slice none 0 0)))) := Lib.hid (fun W k =>
    Lib.hid ⟨(((HU.out.kept k.out).set0 _).set1 _).set2 _, (HK0.out.trans k.out).trans' ((((Keep.refl (fun j => j = z + 1 + 1) W).setCell (p := ⟨z + 1 + 1, 0, none⟩) _ (.inl rfl)).setCell (p := ⟨z + 1 + 1, 1, none⟩) _ (.inl rfl)).setCell (p := ⟨z + 1 + 1, 2, none⟩) _ (.inl rfl)) (fun j e => .inr (by have h5 : j = z + 1 + 1 := e; have := HZ.out; omega))⟩)
  cases hc with
  | true =>
    have HJ : Hid (joinOk ep lr ow ⟨m0, m1, m2⟩ = false) := Lib.hid (by unfold joinOk; rw [show hasN lr (⟨m0, m1, m2⟩ : Mb).node = true from HHC.out]; rfl)
    iterate 4 (refine walkW_do rfl (inKA.of HK3.out) (fun K hK => ?_); go_simp; refine hK _ _ ?_; clear hK K)
    refine ⟨inKA.of HK3.out, ?_⟩
    obtain ⟨u0, u1, u2, uf⟩ := (HU.out.kept HK3.out)
    go_upto_region 2 with (fail)
    go_wp2_with fail
    clear u0 u1 u2 uf
    obtain ⟨⟨g0, g1, g2, -⟩, kf⟩ := (FIN.out W3 HK3).out
    generalize ((W3.setCell ⟨z + 1 + 1, 0, none⟩ (.int .i64 0)).setCell ⟨z + 1 + 1, 1, none⟩ (.slice none 0 0)).setCell ⟨z + 1 + 1, 2, none⟩ (.slice none 0 0) = WF at *
    refine bodyPost_ret (v := .tuple #[ringV 0 (.slice none 0 0) (.slice none 0 0), .int .i64 120]) (by simp [results, Tryz.results16, go_sem, g0, g1, g2]) rfl ?_
    rw [← HMB.out, HJ.out]
    exact RingRes.bad ⟨rfl, kf⟩
  | false =>
    obtain ⟨vr, hvr⟩ : ∃ b, validRB ep lr ow = b := ⟨_, rfl⟩
    have HVR := Lib.hid hvr
    have hvc := validRing_any _ ep lr ow W3 (HRG.out.kept (HK0.out.trans HK3.out))
    rw [hvr] at hvc
    have HVC := Lib.hid hvc
    clear hvc hvr
    obtain ⟨x0, x1, x2, -⟩ := HX0.out.kept HK3.out
    refine walkW_do rfl (inKA.of HK3.out) (fun K hK => ?_)
    go_simp
    refine hK _ _ ?_; clear hK K
    clear x0 x1 x2
    refine walkW_do rfl (inKA.of HK3.out) (fun K hK => ?_)
    go_simp
    refine HVC.out.mono ?_
    rintro e W4 ⟨rfl, k4⟩
    refine hK _ _ ?_; clear hK K
    have HK4 := Lib.hid (HK3.out.trans k4)
    clear k4 HVC
    iterate 2 (refine walkW_do rfl (inKA.of HK4.out) (fun K hK => ?_); go_simp; refine hK _ _ ?_; clear hK K)
    refine ⟨inKA.of HK4.out, ?_⟩
    cases vr with
    | false =>
      have HJ : Hid (joinOk ep lr ow ⟨m0, m1, m2⟩ = false) := Lib.hid (by
        unfold joinOk chOk
        rw [HVR.out]
        simp)
      obtain ⟨u0, u1, u2, uf⟩ := (HU.out.kept HK4.out)
      go_upto_region 2 with (fail)
      go_wp2_with fail
      clear u0 u1 u2 uf
      obtain ⟨⟨g0, g1, g2, -⟩, kf⟩ := (FIN.out W4 HK4).out
      generalize ((W4.setCell ⟨z + 1 + 1, 0, none⟩ (.int .i64 0)).setCell ⟨z + 1 + 1, 1, none⟩ (.slice none 0 0)).setCell ⟨z + 1 + 1, 2, none⟩ (.slice none 0 0) = WF at *
      refine bodyPost_ret (v := .tuple #[ringV 0 (.slice none 0 0) (.slice none 0 0), .int .i64 120]) (by simp [results, Tryz.results16, go_sem, g0, g1, g2]) rfl ?_
      rw [← HMB.out, HJ.out]
      exact RingRes.bad ⟨rfl, kf⟩
    | true =>
      have HOK := Lib.hid ((validRB_iff ep lr ow).1 HVR.out)
      have HJ : Hid (joinOk ep lr ow ⟨m0, m1, m2⟩ = chOk ep lr (moreM lr mb) ow) := Lib.hid (by
        unfold joinOk
        rw [show hasN lr (⟨m0, m1, m2⟩ : Mb).node = false from HHC.out, HMB.out]
        rfl)
      have HNM : Hid (∀ x ∈ lr, x.node ≠ mb.node) := Lib.hid (by rw [← HMB.out]; exact hasN_false HHC.out)
      have HX4 := Lib.hid (HX0.out.kept HK4.out)
      have HY4 := Lib.hid (HY0.out.kept HK4.out)
      have HU4 := Lib.hid (HU.out.kept HK4.out)
      have HKW4 := Lib.hid (HK0.out.trans HK4.out)
      clear HX0 HY0 HU HK3 HK4 HK2 HKD FIN
      have x0 : ∀ p : KA (fun j => j = z + 1 + 1) W4, p.val.cell? ⟨z, 0, none⟩ = some (.int .i64 ep) := fun p => (HX4.out.keep p.k (by omega)).1
      have x1 : ∀ p : KA (fun j => j = z + 1 + 1) W4, p.val.cell? ⟨z, 1, none⟩ = some (.slice ma mn mc) := fun p => (HX4.out.keep p.k (by omega)).2.1
      have x2 : ∀ p : KA (fun j => j = z + 1 + 1) W4, p.val.cell? ⟨z, 2, none⟩ = some (.slice oa on oc) := fun p => (HX4.out.keep p.k (by omega)).2.2.1
      go_upto_region 3 with (fail)
      refine wp_region_walk [(true, 0), (true, 1), (true, 2), (false, 3), (false, 4), (false, 5), (false, 6), (true, 7), (false, 8), (false, 9), (false, 10)] (inKA (fun j => j = z + 1 + 1) W4) (by kernel_rfl) (by kernel_rfl) ?_
      iterate 3 (refine walkW_read rfl (fun K hK => ?_); go_simp; refine hK _ ?_; clear hK K)
      clear x0 x1 x2
      have HKD : Hid (Keep (fun _ => False) W4 W4.drew) := Lib.hid (Keep.refl _ W4).drew
      obtain ⟨y0, y1, y2, -⟩ := HY4.out.kept HKD.out
      generalize W4.drew = W5 at *
      refine walkW_do rfl (inKA.of (HKD.out.mono (fun _ h => h.elim))) (fun K hK => ?_)
      go_simp
      refine hK _ _ ?_; clear hK K
      clear y0 y1 y2
      have HVM : Hid (Mbs (W5.alloc (.cells #[.int .i64 m0, .int .i64 m1, .int .i64 m2] 35)) (.slice (some ⟨W5.heap.size, 0, none⟩) 1 1) [mb]) := Lib.hid (by
        obtain ⟨t0, t1, t2, -⟩ := Box3.new W5 (.int .i64 m0) (.int .i64 m1) (.int .i64 m2) 35
        refine ⟨by simp, fun x hx => ?_, some ⟨W5.heap.size, 0, none⟩, 1, W5.heap.size, 0, rfl, by simp, fun _ => rfl, fun j x hj => ?_⟩
        · simp only [List.mem_singleton] at hx
          rw [hx, ← HMB.out]
          exact HMI.out
        · rcases j with _ | j
          · simp only [List.getElem?_cons_zero, Option.some.injEq] at hj
            rw [← hj, ← HMB.out]
            exact ⟨t0, t1, t2⟩
          · simp at hj)
      have HKA : Hid (Keep (fun _ => False) W4 (W5.alloc (.cells #[.int .i64 m0, .int .i64 m1, .int .i64 m2] 35))) := Lib.hid (HKD.out.alloc _)
      refine walkW_do rfl (inKA.of (HKD.out.mono (fun _ h => h.elim))) (fun K hK => ?_)
      go_simp
      refine hK _ _ ?_; clear hK K
      generalize W5.alloc (.cells #[.int .i64 m0, .int .i64 m1, .int .i64 m2] 35) = W6 at *
      generalize W5.heap.size = zv at *
      have HED := Lib.hid (editedJ_any _ _ lr mb W6 (HML.out.kept (HKW4.out.trans HKA.out)) HVM.out HOK.out.2.2.1.asc HNM.out hl)
      refine walkW_do rfl (inKA.of (HKA.out.mono (fun _ h => h.elim))) (fun K hK => ?_)
      go_simp
      refine HED.out.mono ?_
      rintro e W7 ⟨g, c, rfl, hown, k7⟩
      refine hK _ _ ?_; clear hK K
      have HK7 := Lib.hid (HKA.out.trans k7)
      have HMM : Hid (Mbs W7 (.slice (some ⟨g, 0, none⟩) (moreM lr mb).length c) (moreM lr mb)) := Lib.hid (mbs_owns hown (by rw [moreM_len HOK.out.2.2.1.asc HNM.out]; omega) (by
        intro x hx
        unfold moreM at hx
        rcases List.mem_append.1 hx with hx | hx
        · exact HML.out.bd x (List.mem_filter.1 hx).1
        · rcases List.mem_cons.1 hx with hx | hx
          · rw [hx, ← HMB.out]; exact HMI.out
          · exact HML.out.bd x (List.mem_filter.1 hx).1))
      clear hown k7 HED HVM HKA HKD
      have HCH := Lib.hid (changeU _ _ ep lr (moreM lr mb) ow W7 (HRG.out.kept (HKW4.out.trans HK7.out)) HMM.out (HT.out.kept (HKW4.out.trans HK7.out)))
      generalize (moreM lr mb).length = nl at *
      refine walkW_do rfl (inKA.of (HK7.out.mono (fun _ h => h.elim))) (fun K hK => ?_)
      go_simp
      refine HCH.out.mono ?_
      rintro e W8 ⟨ep', l', ow', err, am, nm, cm, ao, no, co, q1, q2, q3, q4, rfl, r1, r2, k8⟩
      refine hK _ _ ?_; clear hK K
      have HK8 := Lib.hid (HK7.out.trans k8)
      have HR1 := Lib.hid r1
      have HR2 := Lib.hid r2
      have HQ := Lib.hid (And.intro q1 (And.intro q2 (And.intro q3 q4)))
      have HS7 : Hid (w.heap.size ≤ W7.heap.size ∧ z + 1 + 1 < W7.heap.size) := Lib.hid ⟨Nat.le_trans HKW4.out.size HK7.out.size, Nat.lt_of_lt_of_le HU4.out.lt HK7.out.size⟩
      clear q1 q2 q3 q4 r1 r2 k8 HCH
      refine walkW_read rfl (fun K hK => ?_)
      go_simp
      refine hK _ ?_; clear hK K
      refine walkW_do rfl (inKA.of (HK8.out.mono (fun _ h => h.elim))) (fun K hK => ?_)
      go_simp
      refine hK _ _ ?_; clear hK K
      have HU8 := Lib.hid (HU4.out.kept HK8.out)
      obtain ⟨u0, u1, u2, uf⟩ := HU8.out
      refine walkW_do rfl (inKA.of (HK8.out.mono (fun _ h => h.elim))) (fun K hK => ?_)
      go_simp
      refine hK _ _ ?_; clear hK K
      clear u0 u1 u2 uf
      have kq : Keep (fun j => j = z + 1 + 1) W8 (((W8.setCell ⟨z + 1 + 1, 0, none⟩ (.int .i64 ep')).setCell ⟨z + 1 + 1, 1, none⟩ (.slice am nm cm)).setCell ⟨z + 1 + 1, 2, none⟩ (.slice ao no co)) := (((Keep.refl (fun j => j = z + 1 + 1) W8).setCell (p := ⟨z + 1 + 1, 0, none⟩) _ (.inl rfl)).setCell (p := ⟨z + 1 + 1, 1, none⟩) _ (.inl rfl)).setCell (p := ⟨z + 1 + 1, 2, none⟩) _ (.inl rfl)
      have HU9 := Lib.hid (((HU8.out.set0 (.int .i64 ep')).set1 (.slice am nm cm)).set2 (.slice ao no co))
      have HR19 := Lib.hid (ownsRow_keep HR1.out kq (fun b hb e => by have h5 : b = z + 1 + 1 := e; have := (HR1.out.lt b hb).1; have := HS7.out; omega))
      have HR29 := Lib.hid (ownsRow_keep HR2.out kq (fun b hb e => by have h5 : b = z + 1 + 1 := e; have := (HR2.out.lt b hb).1; have := HS7.out; omega))
      have HK9 : Hid (Keep (fun j => j = z + 1 + 1) W4 (((W8.setCell ⟨z + 1 + 1, 0, none⟩ (.int .i64 ep')).setCell ⟨z + 1 + 1, 1, none⟩ (.slice am nm cm)).setCell ⟨z + 1 + 1, 2, none⟩ (.slice ao no co))) := Lib.hid ((HK8.out.mono (fun _ h => h.elim)).trans kq)
      have HF9 : Hid (Keep (fun _ => False) w (((W8.setCell ⟨z + 1 + 1, 0, none⟩ (.int .i64 ep')).setCell ⟨z + 1 + 1, 1, none⟩ (.slice am nm cm)).setCell ⟨z + 1 + 1, 2, none⟩ (.slice ao no co))) := Lib.hid ((HKW4.out.trans HK8.out).trans' kq (fun j e => .inr (by have h5 : j = z + 1 + 1 := e; have := HZ.out; omega)))
      clear kq
      generalize ((W8.setCell ⟨z + 1 + 1, 0, none⟩ (.int .i64 ep')).setCell ⟨z + 1 + 1, 1, none⟩ (.slice am nm cm)).setCell ⟨z + 1 + 1, 2, none⟩ (.slice ao no co) = W9 at *
      refine walkW_do rfl (inKA.of HK9.out) (fun K hK => ?_)
      go_simp
      refine hK _ _ ?_; clear hK K
      refine ⟨inKA.of HK9.out, ?_⟩
      go_wp2_with fail
      obtain ⟨g0, g1, g2, -⟩ := HU9.out
      refine bodyPost_ret (v := .tuple #[.agg #[.int .i64 ep', .slice am nm cm, .slice ao no co], .int .i64 err]) (by simp [results, Tryz.results16, go_sem, g0, g1, g2]) rfl ?_
      rw [HJ.out, HMB.out]
      exact ⟨ep', l', ow', err, am, nm, cm, ao, no, co, HQ.out.1, HQ.out.2.1, HQ.out.2.2.1, HQ.out.2.2.2, rfl, ownsRow_lo HR19.out HS7.out.1, ownsRow_lo HR29.out HS7.out.1, HF9.out⟩
end Go.Proofs.YtplkmbfeeegaiaaGreatDoor

/-
  Leave of package reshard.
-/
namespace Go.Proofs.YtplkmbfeeegaiaaGreatDoor
open Go.RowKit Go.Shelf

/-- Whether Leave accepts. -/
def leaveOk (ep : Int) (lr : List Mb) (ow : List Int) (n : Int) : Bool := hasN lr n && chOk ep lr (lr.filter (notN n)) ow
set_option maxRecDepth 100000 in
set_option maxHeartbeats 8000000 in
theorem leave_any (v : Value) (ep : Int) (lr : List Mb) (ow : List Int) (n : Int) (w : World) (h : Rng w v ep lr ow) (hl : lr.length ≤ 1000) (hT : Tab w) : Calls Tryz.prog 18 #[v, .int .i64 n] w (RingRes (leaveOk ep lr ow n) (ep + 1) (lr.filter (notN n)) (changeL PN QS (lr.filter (notN n)) ow) w) := by
  have HRG := Lib.hid h
  have HT := Lib.hid hT
  obtain ⟨hb0, vm, vo, rfl, hm0, ho0⟩ := h
  have HML := Lib.hid hm0
  obtain ⟨ma, mn, mc, rfl⟩ : ∃ a n c, vm = .slice a n c := by obtain ⟨a, c, b, off, h, _⟩ := hm0.at_; exact ⟨_, _, _, h⟩
  obtain ⟨oa, on, oc, rfl⟩ : ∃ a n c, vo = .slice a n c := by obtain ⟨a, c, b, off, h, _⟩ := ho0.at_; exact ⟨_, _, _, h⟩
  clear hm0 hb0 ho0 hT
  have HX := Lib.hid (Box3.new w (.int .i64 ep) (.slice ma mn mc) (.slice oa on oc) 27)
  have HU := Lib.hid (Box3.new (w.alloc (.cells #[.int .i64 ep, .slice ma mn mc, .slice oa on oc] 27)) (.int .i64 0) (.slice none 0 0) (.slice none 0 0) 27)
  have k1 : Keep (fun _ => False) w (w.alloc (.cells #[.int .i64 ep, .slice ma mn mc, .slice oa on oc] 27)) := (Keep.refl _ w).alloc _
  have k3 : Keep (fun _ => False) (w.alloc (.cells #[.int .i64 ep, .slice ma mn mc, .slice oa on oc] 27)) ((w.alloc (.cells #[.int .i64 ep, .slice ma mn mc, .slice oa on oc] 27)).alloc (.cells #[.int .i64 0, .slice none 0 0, .slice none 0 0] 27)) := (Keep.refl _ _).alloc _
  have HX0 := Lib.hid (HX.out.kept k3)
  have HK0 := Lib.hid (k1.trans k3)
  simp only [World.size_alloc] at HU
  clear k1 k3 HX
  go_enter Tryz.func18, Tryz.ntmps18
  go_wp2_with fail
  generalize (w.alloc (.cells #[.int .i64 ep, .slice ma mn mc, .slice oa on oc] 27)).alloc (.cells #[.int .i64 0, .slice none 0 0, .slice none 0 0] 27) = W0 at *
  generalize hz : w.heap.size = z at HX0 HU ⊢
  have HZ := Lib.hid hz
  clear hz
  obtain ⟨hc, hhc⟩ : ∃ b, hasN lr n = b := ⟨_, rfl⟩
  have HHC := Lib.hid hhc
  clear hhc
  have x1 : ∀ p : KA (fun _ => False) W0, p.val.cell? ⟨z, 1, none⟩ = some (.slice ma mn mc) := fun p => (HX0.out.kept p.k).2.1
  refine wp_region_walk [(true, 0), (true, 1), (false, 2), (false, 3), (false, 4), (false, 5)] (inKA (fun _ => False) W0) (by kernel_rfl) (by kernel_rfl) ?_
  iterate 2 (refine walkW_read rfl (fun K hK => ?_); go_simp; refine hK _ ?_; clear hK K)
  clear x1
  have HKD : Hid (Keep (fun _ => False) W0 W0.drew) := Lib.hid (Keep.refl _ W0).drew
  have HIS := Lib.hid (is_any n W0.drew)
  generalize W0.drew = W1 at *
  refine walkW_do rfl (inKA.of HKD.out) (fun K hK => ?_)
  go_simp
  refine hK _ _ ?_; clear hK K
  refine walkW_do rfl (inKA.of HKD.out) (fun K hK => ?_)
  go_simp
  refine HIS.out.mono ?_
  rintro e W2 ⟨rfl, hcell, k2, -⟩
  refine hK _ _ ?_; clear hK K
  have HK2 := Lib.hid (HKD.out.trans k2)
  have hci := containsIs_any _ lr W1.heap.size n W2 (HML.out.kept (HK0.out.trans HK2.out)) hcell (by omega)
  rw [show (lr.any fun m => decide (m.node = n)) = hc from HHC.out] at hci
  have HCI := Lib.hid hci
  clear hci hcell k2 HIS
  generalize W1.heap.size = b1 at *
  refine walkW_do rfl (inKA.of HK2.out) (fun K hK => ?_)
  go_simp
  refine HCI.out.mono ?_
  rintro e W3 ⟨rfl, k3⟩
  refine hK _ _ ?_; clear hK K
  have HK3 := Lib.hid (HK2.out.trans k3)
  clear k3 HCI
  refine walkW_do rfl (inKA.of HK3.out) (fun K hK => ?_)
  go_simp
  refine hK _ _ ?_; clear hK K
  refine ⟨inKA.of HK3.out, ?_⟩
  cases hc with
  | false =>
    have HJ : Hid (leaveOk ep lr ow n = false) := Lib.hid (by unfold leaveOk; rw [HHC.out]; rfl)
    have HU3 := Lib.hid (HU.out.kept HK3.out)
    obtain ⟨u0, u1, u2, uf⟩ := HU3.out
    go_upto_region 2 with (fail)
    go_wp2_with fail
    clear u0 u1 u2 uf
    have HU9 := Lib.hid (((HU3.out.set0 (.int .i64 0)).set1 (.slice none 0 0)).set2 (.slice none 0 0))
    have HF9 : Hid (Keep (fun _ => False) w (((W3.setCell ⟨z + 1, 0, none⟩ (.int .i64 0)).setCell ⟨z + 1, 1, none⟩ (.slice none 0 0)).setCell ⟨z + 1, 2, none⟩ (.slice none 0 0))) := Lib.hid ((HK0.out.trans HK3.out).trans' ((((Keep.refl (fun j => j = z + 1) W3).setCell (p := ⟨z + 1, 0, none⟩) _ (.inl rfl)).setCell (p := ⟨z + 1, 1, none⟩) _ (.inl rfl)).setCell (p := ⟨z + 1, 2, none⟩) _ (.inl rfl)) (fun j e => .inr (by have h5 : j = z + 1 := e; have := HZ.out; omega)))
    generalize ((W3.setCell ⟨z + 1, 0, none⟩ (.int .i64 0)).setCell ⟨z + 1, 1, none⟩ (.slice none 0 0)).setCell ⟨z + 1, 2, none⟩ (.slice none 0 0) = WF at *
    obtain ⟨g0, g1, g2, -⟩ := HU9.out
    refine bodyPost_ret (v := .tuple #[ringV 0 (.slice none 0 0) (.slice none 0 0), .int .i64 120]) (by simp [results, Tryz.results18, go_sem, g0, g1, g2]) rfl ?_
    rw [HJ.out]
    exact RingRes.bad ⟨rfl, HF9.out⟩
  | true =>
    have HJ : Hid (leaveOk ep lr ow n = chOk ep lr (lr.filter (notN n)) ow) := Lib.hid (by unfold leaveOk; rw [HHC.out]; rfl)
    have HX4 := Lib.hid (HX0.out.kept HK3.out)
    have HU4 := Lib.hid (HU.out.kept HK3.out)
    have HKW4 := Lib.hid (HK0.out.trans HK3.out)
    clear HX0 HU HK3 HK2 HKD
    have x0 : ∀ p : KA (fun j => j = z + 1) W3, p.val.cell? ⟨z, 0, none⟩ = some (.int .i64 ep) := fun p => (HX4.out.keep p.k (by omega)).1
    have x1 : ∀ p : KA (fun j => j = z + 1) W3, p.val.cell? ⟨z, 1, none⟩ = some (.slice ma mn mc) := fun p => (HX4.out.keep p.k (by omega)).2.1
    have x2 : ∀ p : KA (fun j => j = z + 1) W3, p.val.cell? ⟨z, 2, none⟩ = some (.slice oa on oc) := fun p => (HX4.out.keep p.k (by omega)).2.2.1
    go_upto_region 3 with (fail)
    refine wp_region_walk [(true, 0), (true, 1), (true, 2), (true, 4), (false, 3), (false, 5), (false, 6), (false, 7), (true, 8), (false, 9), (false, 10), (false, 11)] (inKA (fun j => j = z + 1) W3) (by kernel_rfl) (by kernel_rfl) ?_
    iterate 4 (refine walkW_read rfl (fun K hK => ?_); go_simp; refine hK _ ?_; clear hK K)
    clear x0 x1 x2
    have HKD : Hid (Keep (fun _ => False) W3 W3.drew) := Lib.hid (Keep.refl _ W3).drew
    generalize W3.drew = W5 at *
    have HCL := Lib.hid (cloneM_any _ lr W5 (HML.out.kept (HKW4.out.trans HKD.out)) hl)
    refine walkW_do rfl (inKA.of (HKD.out.mono (fun _ h => h.elim))) (fun K hK => ?_)
    go_simp
    refine HCL.out.mono ?_
    rintro e W6 ⟨ca, cc, rfl, hown, k6⟩
    refine hK _ _ ?_; clear hK K
    have HO6 := Lib.hid hown
    have HK6 := Lib.hid (HKD.out.trans k6)
    clear hown k6 HCL
    have HI6 := Lib.hid (is_any n W6)
    refine walkW_do rfl (inKA.of (HK6.out.mono (fun _ h => h.elim))) (fun K hK => ?_)
    go_simp
    refine HI6.out.mono ?_
    rintro e W7 ⟨rfl, hcell, k7, -⟩
    refine hK _ _ ?_; clear hK K
    have HK7 := Lib.hid (HK6.out.trans k7)
    have HDL := Lib.hid (deleteIs_any W5.heap.size ca cc lr W6.heap.size n W7 (ownsRow_keep HO6.out k7 (fun _ _ h => h)) HML.out.bd (by omega) hcell (fun e => by have := (HO6.out.lt _ e).2; omega))
    clear hcell k7 HI6
    generalize W6.heap.size = b6 at *
    have hff : (lr.filter (notN n)).length ≤ lr.length := List.length_filter_le _ _
    refine walkW_do rfl (inKA.of (HK7.out.mono (fun _ h => h.elim))) (fun K hK => ?_)
    go_simp
    refine HDL.out.mono ?_
    rintro e W8 ⟨rfl, hown8, k8⟩
    refine hK _ _ ?_; clear hK K
    have HK8 := Lib.hid (HK7.out.trans' k8 (fun j e => .inr (by have := (hown8.lt j e).1; have := HKD.out.size; omega)))
    have HM8 : Hid (Mbs W8 (.slice ca (lr.filter (notN n)).length cc) (lr.filter (notN n))) := Lib.hid (mbs_owns hown8 (by omega) (fun x hx => HML.out.bd x (List.mem_filter.1 hx).1))
    clear hown8 k8 HDL HK7 HK6 HO6
    have HCH := Lib.hid (changeU _ _ ep lr (lr.filter (notN n)) ow W8 (HRG.out.kept (HKW4.out.trans HK8.out)) HM8.out (HT.out.kept (HKW4.out.trans HK8.out)))
    generalize (lr.filter (notN n)).length = nl at *
    refine walkW_do rfl (inKA.of (HK8.out.mono (fun _ h => h.elim))) (fun K hK => ?_)
    go_simp
    refine HCH.out.mono ?_
    rintro e W9 ⟨ep', l', ow', err, am, nm, cm, ao, no, co, q1, q2, q3, q4, rfl, r1, r2, k9⟩
    refine hK _ _ ?_; clear hK K
    have HK9 := Lib.hid (HK8.out.trans k9)
    have HR1 := Lib.hid r1
    have HR2 := Lib.hid r2
    have HQ := Lib.hid (And.intro q1 (And.intro q2 (And.intro q3 q4)))
    have HS7 : Hid (w.heap.size ≤ W8.heap.size ∧ z + 1 < W8.heap.size) := Lib.hid ⟨Nat.le_trans HKW4.out.size HK8.out.size, Nat.lt_of_lt_of_le HU4.out.lt HK8.out.size⟩
    clear q1 q2 q3 q4 r1 r2 k9 HCH
    refine walkW_read rfl (fun K hK => ?_)
    go_simp
    refine hK _ ?_; clear hK K
    refine walkW_do rfl (inKA.of (HK9.out.mono (fun _ h => h.elim))) (fun K hK => ?_)
    go_simp
    refine hK _ _ ?_; clear hK K
    have HU8 := Lib.hid (HU4.out.kept HK9.out)
    obtain ⟨u0, u1, u2, uf⟩ := HU8.out
    refine walkW_do rfl (inKA.of (HK9.out.mono (fun _ h => h.elim))) (fun K hK => ?_)
    go_simp
    refine hK _ _ ?_; clear hK K
    clear u0 u1 u2 uf
    have kq : Keep (fun j => j = z + 1) W9 (((W9.setCell ⟨z + 1, 0, none⟩ (.int .i64 ep')).setCell ⟨z + 1, 1, none⟩ (.slice am nm cm)).setCell ⟨z + 1, 2, none⟩ (.slice ao no co)) := (((Keep.refl (fun j => j = z + 1) W9).setCell (p := ⟨z + 1, 0, none⟩) _ (.inl rfl)).setCell (p := ⟨z + 1, 1, none⟩) _ (.inl rfl)).setCell (p := ⟨z + 1, 2, none⟩) _ (.inl rfl)
    have HU9 := Lib.hid (((HU8.out.set0 (.int .i64 ep')).set1 (.slice am nm cm)).set2 (.slice ao no co))
    have HR19 := Lib.hid (ownsRow_keep HR1.out kq (fun b hb e => by have h5 : b = z + 1 := e; have := (HR1.out.lt b hb).1; have := HS7.out; omega))
    have HR29 := Lib.hid (ownsRow_keep HR2.out kq (fun b hb e => by have h5 : b = z + 1 := e; have := (HR2.out.lt b hb).1; have := HS7.out; omega))
    have HKX : Hid (Keep (fun j => j = z + 1) W3 (((W9.setCell ⟨z + 1, 0, none⟩ (.int .i64 ep')).setCell ⟨z + 1, 1, none⟩ (.slice am nm cm)).setCell ⟨z + 1, 2, none⟩ (.slice ao no co))) := Lib.hid ((HK9.out.mono (fun _ h => h.elim)).trans kq)
    have HF9 : Hid (Keep (fun _ => False) w (((W9.setCell ⟨z + 1, 0, none⟩ (.int .i64 ep')).setCell ⟨z + 1, 1, none⟩ (.slice am nm cm)).setCell ⟨z + 1, 2, none⟩ (.slice ao no co))) := Lib.hid ((HKW4.out.trans HK9.out).trans' kq (fun j e => .inr (by have h5 : j = z + 1 := e; have := HZ.out; omega)))
    clear kq
    generalize ((W9.setCell ⟨z + 1, 0, none⟩ (.int .i64 ep')).setCell ⟨z + 1, 1, none⟩ (.slice am nm cm)).setCell ⟨z + 1, 2, none⟩ (.slice ao no co) = WX at *
    refine walkW_do rfl (inKA.of HKX.out) (fun K hK => ?_)
    go_simp
    refine hK _ _ ?_; clear hK K
    refine ⟨inKA.of HKX.out, ?_⟩
    go_wp2_with fail
    obtain ⟨g0, g1, g2, -⟩ := HU9.out
    refine bodyPost_ret (v := .tuple #[.agg #[.int .i64 ep', .slice am nm cm, .slice ao no co], .int .i64 err]) (by simp [results, Tryz.results18, go_sem, g0, g1, g2]) rfl ?_
    rw [HJ.out]
    exact ⟨ep', l', ow', err, am, nm, cm, ao, no, co, HQ.out.1, HQ.out.2.1, HQ.out.2.2.1, HQ.out.2.2.2, rfl, ownsRow_lo HR19.out HS7.out.1, ownsRow_lo HR29.out HS7.out.1, HF9.out⟩
end Go.Proofs.YtplkmbfeeegaiaaGreatDoor

/-
  Replace of package reshard, where it accepts.
-/
namespace Go.Proofs.YtplkmbfeeegaiaaGreatDoor
open Go.RowKit Go.Shelf

/-- One owner for another. -/
def repF (n s x : Int) : Int := if x = n then s else x
/-- What the free operations of Replace's region answer. -/
def replS (ep n : Int) (m : Mb) (l : List Mb) (ow : List Int) (ln B : Nat) (t : Nat) (v : Value) (W : World) : Prop :=
  (t = 59 → ∃ b, v = isV b ∧ W.cell? ⟨b, 0, none⟩ = some (.int .i64 n)) ∧
  (t = 61 → ∃ b, v = .slice (some ⟨b, 0, none⟩) 1 1 ∧ Mbs W v [m]) ∧
  (t = 62 → ∃ a c, v = .slice a ln c ∧ W.ownsRow B 35 3 (.slice a ln c) ln (flatB l)) ∧
  (t = 65 → ∃ a c, v = .slice a 64 c ∧ W.ownsRow B 3 1 (.slice a 64 c) 64 (ow.map (fun x => Value.int .i64 x))) ∧
  (t = 66 → ∃ a c a' c', v = .agg #[.int .i64 ep, .slice a ln c, .slice a' 64 c'] ∧ W.ownsRow B 35 3 (.slice a ln c) ln (flatB l) ∧ W.ownsRow B 3 1 (.slice a' 64 c') 64 (ow.map (fun x => Value.int .i64 x))) ∧
  (t = 10 → ∃ z, v = ptr z ∧ B ≤ z ∧ Box3 W z (.int .i64 0) (.slice none 0 0) (.slice none 0 0) ∧ BoxT W z 27)
section
variable {ep n : Int} {m : Mb} {l : List Mb} {ow : List Int} {ln B : Nat} {v : Value} {W : World}
theorem replS_59 (h : ∃ b, v = isV b ∧ W.cell? ⟨b, 0, none⟩ = some (.int .i64 n)) : replS ep n m l ow ln B 59 v W := ⟨fun _ => h, fun e => absurd e (by decide), fun e => absurd e (by decide), fun e => absurd e (by decide), fun e => absurd e (by decide), fun e => absurd e (by decide)⟩
theorem replS_61 (h : ∃ b, v = .slice (some ⟨b, 0, none⟩) 1 1 ∧ Mbs W v [m]) : replS ep n m l ow ln B 61 v W := ⟨fun e => absurd e (by decide), fun _ => h, fun e => absurd e (by decide), fun e => absurd e (by decide), fun e => absurd e (by decide), fun e => absurd e (by decide)⟩
theorem replS_62 (h : ∃ a c, v = .slice a ln c ∧ W.ownsRow B 35 3 (.slice a ln c) ln (flatB l)) : replS ep n m l ow ln B 62 v W := ⟨fun e => absurd e (by decide), fun e => absurd e (by decide), fun _ => h, fun e => absurd e (by decide), fun e => absurd e (by decide), fun e => absurd e (by decide)⟩
theorem replS_65 (h : ∃ a c, v = .slice a 64 c ∧ W.ownsRow B 3 1 (.slice a 64 c) 64 (ow.map (fun x => Value.int .i64 x))) : replS ep n m l ow ln B 65 v W := ⟨fun e => absurd e (by decide), fun e => absurd e (by decide), fun e => absurd e (by decide), fun _ => h, fun e => absurd e (by decide), fun e => absurd e (by decide)⟩
theorem replS_66 (h : ∃ a c a' c', v = .agg #[.int .i64 ep, .slice a ln c, .slice a' 64 c'] ∧ W.ownsRow B 35 3 (.slice a ln c) ln (flatB l) ∧ W.ownsRow B 3 1 (.slice a' 64 c') 64 (ow.map (fun x => Value.int .i64 x))) : replS ep n m l ow ln B 66 v W := ⟨fun e => absurd e (by decide), fun e => absurd e (by decide), fun e => absurd e (by decide), fun e => absurd e (by decide), fun _ => h, fun e => absurd e (by decide)⟩
theorem replS_10 (h : ∃ z, v = ptr z ∧ B ≤ z ∧ Box3 W z (.int .i64 0) (.slice none 0 0) (.slice none 0 0) ∧ BoxT W z 27) : replS ep n m l ow ln B 10 v W := ⟨fun e => absurd e (by decide), fun e => absurd e (by decide), fun e => absurd e (by decide), fun e => absurd e (by decide), fun e => absurd e (by decide), fun _ => h⟩
end
theorem replS_keep {ep n : Int} {m : Mb} {l : List Mb} {ow : List Int} {ln B : Nat} (t : Nat) (v : Value) (w w' : World) (h : replS ep n m l ow ln B t v w) (k : Keep (fun _ => False) w w') : replS ep n m l ow ln B t v w' := by
  obtain ⟨h1, h2, h3, h4, h5, h6⟩ := h
  refine ⟨fun e => ?_, fun e => ?_, fun e => ?_, fun e => ?_, fun e => ?_, fun e => ?_⟩
  · obtain ⟨b, q1, q2⟩ := h1 e
    exact ⟨b, q1, k.cell q2 (fun h => h)⟩
  · obtain ⟨b, q1, q2⟩ := h2 e
    exact ⟨b, q1, q2.kept k⟩
  · obtain ⟨a, c, q1, q2⟩ := h3 e
    exact ⟨a, c, q1, ownsRow_keep q2 k (fun _ _ h => h)⟩
  · obtain ⟨a, c, q1, q2⟩ := h4 e
    exact ⟨a, c, q1, ownsRow_keep q2 k (fun _ _ h => h)⟩
  · obtain ⟨a, c, a', c', q1, q2, q3⟩ := h5 e
    exact ⟨a, c, a', c', q1, ownsRow_keep q2 k (fun _ _ h => h), ownsRow_keep q3 k (fun _ _ h => h)⟩
  · obtain ⟨z, q1, q2, q3, q4⟩ := h6 e
    exact ⟨z, q1, q2, q3.kept k, q4.kept k⟩
/-- The first i owners changed. -/
def repL (f : Int → Int) (ow : List Int) (i : Nat) : List Int := (ow.take i).map f ++ ow.drop i
theorem repL_zero (f : Int → Int) (ow : List Int) : repL f ow 0 = ow := by simp [repL]
theorem repL_all {f : Int → Int} {ow : List Int} {i : Nat} (h : ow.length = i) : repL f ow i = ow.map f := by
  unfold repL
  rw [← h, List.take_length, List.drop_length, List.append_nil]
theorem repL_len (f : Int → Int) (ow : List Int) (i : Nat) : (repL f ow i).length = ow.length := by
  unfold repL
  simp
  omega
theorem repL_get {f : Int → Int} {ow : List Int} {i : Nat} (h : i < ow.length) : (repL f ow i)[i]? = ow[i]? := by
  unfold repL
  rw [List.getElem?_append_right (by simp; omega)]
  simp [Nat.min_eq_left (Nat.le_of_lt h)]
theorem repL_next {f : Int → Int} {ow : List Int} {i : Nat} {x : Int} (h : ow[i]? = some x) : (repL f ow i).set i (f x) = repL f ow (i + 1) := by
  obtain ⟨hi, hx⟩ := List.getElem?_eq_some_iff.1 h
  have e1 : ow.drop i = x :: ow.drop (i + 1) := by rw [List.drop_eq_getElem_cons hi, hx]
  have e2 : ow.take (i + 1) = ow.take i ++ [x] := by rw [List.take_add_one, h]; rfl
  have e3 : i = ((ow.take i).map f).length := by simp; omega
  unfold repL
  rw [e1, e2, List.set_append]
  rw [if_neg (by rw [← e3]; exact Nat.lt_irrefl i), ← e3, Nat.sub_self]
  simp
theorem repL_same {f : Int → Int} {ow : List Int} {i : Nat} {x : Int} (h : ow[i]? = some x) (hf : f x = x) : repL f ow (i + 1) = repL f ow i := by
  rw [← repL_next h, hf]
  obtain ⟨hi, hx⟩ := List.getElem?_eq_some_iff.1 h
  apply List.ext_getElem?
  intro j
  rw [List.getElem?_set]
  by_cases e : i = j
  · subst e
    rw [if_pos rfl, repL_get hi, h, if_pos (by rw [repL_len]; exact hi)]
  · rw [if_neg e]
theorem mbs_one (W : World) (x y u : Int) (h : I64 x ∧ I64 y ∧ I64 u) : Mbs (W.alloc (.cells #[.int .i64 x, .int .i64 y, .int .i64 u] 35)) (.slice (some ⟨W.heap.size, 0, none⟩) 1 1) [⟨x, y, u⟩] := by
  obtain ⟨t0, t1, t2, -⟩ := Box3.new W (.int .i64 x) (.int .i64 y) (.int .i64 u) 35
  refine ⟨by simp, fun a ha => ?_, some ⟨W.heap.size, 0, none⟩, 1, W.heap.size, 0, rfl, by simp, fun _ => rfl, fun j a hj => ?_⟩
  · simp only [List.mem_singleton] at ha
    rw [ha]
    exact h
  · rcases j with _ | j
    · simp only [List.getElem?_cons_zero, Option.some.injEq] at hj
      rw [← hj]
      exact ⟨t0, t1, t2⟩
    · simp at hj
set_option maxRecDepth 100000 in
set_option maxHeartbeats 8000000 in
theorem replace_ok (v : Value) (ep : Int) (lr : List Mb) (ow : List Int) (nd sp : Int) (m : Mb) (k : Nat) (w : World) (h : Rng w v ep lr ow) (hvr : validRB ep lr ow = true) (he : ep < 1000000) (hk : lr[k]? = some m) (hmn : m.node = nd) (hsp : hasN lr sp = false) (hsb : 0 ≤ sp ∧ sp < 24) (hl : lr.length ≤ 18) (hT : Tab w) :
    Calls Tryz.prog 20 #[v, .int .i64 nd, .int .i64 sp] w (RingPost (ep + 1) (moreM (lr.filter (notN nd)) ⟨sp, m.region, m.weight⟩) (ow.map (repF nd sp)) w) := by
  have HRG := Lib.hid h
  have HT := Lib.hid hT
  have HVR := Lib.hid hvr
  have HHS : Hid ((lr.any fun m => decide (m.node = sp)) = false) := Lib.hid hsp
  have HOK := Lib.hid ((validRB_iff ep lr ow).1 hvr)
  have HKM := Lib.hid hk
  have HMN := Lib.hid hmn
  have HSP := Lib.hid hsp
  obtain ⟨hb0, vm, vo, rfl, hm0, ho0⟩ := h
  have HML := Lib.hid hm0
  have HIO := Lib.hid ho0
  obtain ⟨-, hmbd, ma, mc, mb, mo, rfl, hmc, hma, hmcell⟩ := hm0
  obtain ⟨-, -, oa, oc, ob, oo, rfl, hoc, hoa, hocell⟩ := ho0
  have hol : ow.length = 64 := HOK.out.2.2.2.1
  have hep1 : 1 ≤ ep := HOK.out.1
  have HOL := Lib.hid hol
  obtain ⟨mn, hmn'⟩ : ∃ n, lr.length = n := ⟨_, rfl⟩
  have HLN := Lib.hid hmn'
  have hkl : k < mn := by have := (List.getElem?_eq_some_iff.1 hk).1; omega
  obtain rfl := hma (by omega)
  obtain rfl := hoa (by omega)
  have HMC := Lib.hid (hmcell k m hk)
  have HMBD := Lib.hid (hmbd m (List.mem_of_getElem? hk))
  rw [hmn'] at hmc HRG HML hl ⊢
  rw [hol] at hoc HRG HIO ⊢
  have HLL := Lib.hid hl
  -- its index is found
  have HIX : Hid (∀ r, IdxOf lr nd r → r = (k : Int)) := Lib.hid (fun r hr => by
    rcases hr with ⟨rfl, h1⟩ | ⟨k', m', rfl, h1, h2, h3⟩
    · exact absurd hmn (h1 m (List.mem_of_getElem? hk))
    · have hasc := HOK.out.2.2.1.asc
      obtain ⟨a1, a2⟩ := List.getElem?_eq_some_iff.1 hk
      obtain ⟨b1, b2⟩ := List.getElem?_eq_some_iff.1 h1
      rcases Nat.lt_trichotomy k k' with h4 | h4 | h4
      · exact absurd hmn (h3 k m h4 hk)
      · rw [h4]
      · have h5 := List.pairwise_iff_getElem.1 hasc k' k b1 a1 h4
        rw [a2, b2] at h5
        omega)
  clear hT hvr hk hmn hsp hb0 hmbd hma hmcell hoa hocell hol hmn'
  obtain ⟨m0, m1, m2⟩ := m
  simp only [] at HMC HMBD HMN
  have HX := Lib.hid (Box3.new w (.int .i64 ep) (.slice (some ⟨mb, mo, none⟩) mn mc) (.slice (some ⟨ob, oo, none⟩) 64 oc) 27)
  have HU := Lib.hid (Box3.new (w.alloc (.cells #[.int .i64 ep, .slice (some ⟨mb, mo, none⟩) mn mc, .slice (some ⟨ob, oo, none⟩) 64 oc] 27)) (.int .i64 0) (.slice none 0 0) (.slice none 0 0) 27)
  have k1 : Keep (fun _ => False) w (w.alloc (.cells #[.int .i64 ep, .slice (some ⟨mb, mo, none⟩) mn mc, .slice (some ⟨ob, oo, none⟩) 64 oc] 27)) := (Keep.refl _ w).alloc _
  have k3 : Keep (fun _ => False) (w.alloc (.cells #[.int .i64 ep, .slice (some ⟨mb, mo, none⟩) mn mc, .slice (some ⟨ob, oo, none⟩) 64 oc] 27)) ((w.alloc (.cells #[.int .i64 ep, .slice (some ⟨mb, mo, none⟩) mn mc, .slice (some ⟨ob, oo, none⟩) 64 oc] 27)).alloc (.cells #[.int .i64 0, .slice none 0 0, .slice none 0 0] 27)) := (Keep.refl _ _).alloc _
  have HX0 := Lib.hid (HX.out.kept k3)
  have HK0 := Lib.hid (k1.trans k3)
  simp only [World.size_alloc] at HU
  clear k1 k3 HX
  go_enter Tryz.func20, Tryz.ntmps20
  go_wp2_with fail
  generalize (w.alloc (.cells #[.int .i64 ep, .slice (some ⟨mb, mo, none⟩) mn mc, .slice (some ⟨ob, oo, none⟩) 64 oc] 27)).alloc (.cells #[.int .i64 0, .slice none 0 0, .slice none 0 0] 27) = W0 at *
  generalize hz : w.heap.size = z at HX0 HU ⊢
  have HZ := Lib.hid hz
  clear hz
  have x1 : ∀ p : KA (fun _ => False) W0, p.val.cell? ⟨z, 1, none⟩ = some (.slice (some ⟨mb, mo, none⟩) mn mc) := fun p => (HX0.out.kept p.k).2.1
  refine wp_region_walk [(true, 0), (true, 1), (false, 2), (false, 3), (false, 4), (false, 5)] (inKA (fun _ => False) W0) (by kernel_rfl) (by kernel_rfl) ?_
  iterate 2 (refine walkW_read rfl (fun K hK => ?_); go_simp; refine hK _ ?_; clear hK K)
  clear x1
  have HKD : Hid (Keep (fun _ => False) W0 W0.drew) := Lib.hid (Keep.refl _ W0).drew
  have HIS := Lib.hid (is_any nd W0.drew)
  generalize W0.drew = W1 at *
  refine walkW_do rfl (inKA.of HKD.out) (fun K hK => ?_)
  go_simp
  refine hK _ _ ?_; clear hK K
  refine walkW_do rfl (inKA.of HKD.out) (fun K hK => ?_)
  go_simp
  refine HIS.out.mono ?_
  rintro e W2 ⟨rfl, hcell, k2, -⟩
  refine hK _ _ ?_; clear hK K
  have HK2 := Lib.hid (HKD.out.trans k2)
  have HCI := Lib.hid (indexIs_any _ lr W1.heap.size nd W2 (HML.out.kept (HK0.out.trans HK2.out)) hcell (by have := HLN.out; omega))
  clear hcell k2 HIS
  generalize W1.heap.size = b1 at *
  refine walkW_do rfl (inKA.of HK2.out) (fun K hK => ?_)
  go_simp
  refine HCI.out.mono ?_
  rintro e W3 ⟨⟨r, rfl, hr⟩, k3⟩
  obtain rfl := HIX.out r hr
  refine hK _ _ ?_; clear hK K
  have HK3 := Lib.hid (HK2.out.trans k3)
  clear k3 HCI hr
  refine walkW_do rfl (inKA.of HK3.out) (fun K hK => ?_)
  go_simp
  refine hK _ _ ?_; clear hK K
  refine ⟨inKA.of HK3.out, ?_⟩
  -- the conditions
  have HX3 := Lib.hid (HX0.out.kept HK3.out)
  have HU3 := Lib.hid (HU.out.kept HK3.out)
  have HKW3 := Lib.hid (HK0.out.trans HK3.out)
  clear HX0 HU HK2 HK3 HK0 HKD
  have x0 : ∀ p : KA (fun _ => False) W3, p.val.cell? ⟨z, 0, none⟩ = some (.int .i64 ep) := fun p => (HX3.out.kept p.k).1
  have x1 : ∀ p : KA (fun _ => False) W3, p.val.cell? ⟨z, 1, none⟩ = some (.slice (some ⟨mb, mo, none⟩) mn mc) := fun p => (HX3.out.kept p.k).2.1
  have x2 : ∀ p : KA (fun _ => False) W3, p.val.cell? ⟨z, 2, none⟩ = some (.slice (some ⟨ob, oo, none⟩) 64 oc) := fun p => (HX3.out.kept p.k).2.2.1
  have hk0 : ¬ ((k : Int) < 0) := by omega
  have hs0 : ¬ (sp < 0) := by omega
  have hs1 : ¬ (24 ≤ sp) := by omega
  have hep2 : ¬ (1000000 ≤ ep) := by omega
  go_wp2_with fail
  have z0 : W3.drew.cell? ⟨z, 0, none⟩ = some (.int .i64 ep) := (HX3.out.kept (Keep.refl _ W3).drew).1
  have z1 : W3.drew.cell? ⟨z, 1, none⟩ = some (.slice (some ⟨mb, mo, none⟩) mn mc) := (HX3.out.kept (Keep.refl _ W3).drew).2.1
  have z2 : W3.drew.cell? ⟨z, 2, none⟩ = some (.slice (some ⟨ob, oo, none⟩) 64 oc) := (HX3.out.kept (Keep.refl _ W3).drew).2.2.1
  refine wp_region_walk [(false, 0), (false, 1), (false, 2), (false, 3), (false, 4), (false, 5), (false, 6), (false, 7), (true, 8), (true, 9), (false, 10), (false, 11), (false, 12), (false, 13), (false, 14), (false, 15), (false, 16), (false, 17), (false, 18), (false, 19), (false, 20), (false, 21), (false, 22), (false, 23), (false, 24), (false, 25), (false, 26)] (inKA (fun _ => False) W3) (by kernel_rfl) (by kernel_rfl) ?_
  have HKD : Hid (Keep (fun _ => False) W3 W3.drew) := Lib.hid (Keep.refl _ W3).drew
  generalize W3.drew = V0 at *
  refine walkW_do rfl (inKA.of HKD.out) (fun K hK => ?_)
  go_simp
  refine hK _ _ ?_; clear hK K
  clear z0 z1 z2
  have hvc := validRing_any _ ep lr ow V0 (HRG.out.kept (HKW3.out.trans HKD.out))
  rw [HVR.out] at hvc
  have HVC := Lib.hid hvc
  clear hvc
  refine walkW_do rfl (inKA.of HKD.out) (fun K hK => ?_)
  go_simp
  refine HVC.out.mono ?_
  rintro e V1 ⟨rfl, k1⟩
  refine hK _ _ ?_; clear hK K
  have HK1 := Lib.hid (HKD.out.trans k1)
  clear k1 HVC HKD
  iterate 6 (refine walkW_do rfl (inKA.of HK1.out) (fun K hK => ?_); go_simp; refine hK _ _ ?_; clear hK K)
  iterate 2 (refine walkW_read rfl (fun K hK => ?_); go_simp; refine hK _ ?_; clear hK K)
  iterate 1 (refine walkW_do rfl (inKA.of HK1.out) (fun K hK => ?_); go_simp; refine hK _ _ ?_; clear hK K)
  have HIS := Lib.hid (is_any sp V1)
  refine walkW_do rfl (inKA.of HK1.out) (fun K hK => ?_)
  go_simp
  refine HIS.out.mono ?_
  rintro e V2 ⟨rfl, hcell, k2, -⟩
  refine hK _ _ ?_; clear hK K
  have HK2 := Lib.hid (HK1.out.trans k2)
  have hci := containsIs_any _ lr V1.heap.size sp V2 (HML.out.kept (HKW3.out.trans HK2.out)) hcell (by have := HLN.out; omega)
  rw [HHS.out] at hci
  have HCI := Lib.hid hci
  clear hci hcell k2 HIS HK1
  generalize V1.heap.size = b2 at *
  refine walkW_do rfl (inKA.of HK2.out) (fun K hK => ?_)
  go_simp
  refine HCI.out.mono ?_
  rintro e V3 ⟨rfl, k3⟩
  refine hK _ _ ?_; clear hK K
  have HK3 := Lib.hid (HK2.out.trans k3)
  clear k3 HCI HK2
  iterate 11 (refine walkW_do rfl (inKA.of HK3.out) (fun K hK => ?_); go_simp; refine hK _ _ ?_; clear hK K)
  have y0 : V3.cell? ⟨z, 0, none⟩ = some (.int .i64 ep) := (HX3.out.kept HK3.out).1
  iterate 3 (refine walkW_do rfl (inKA.of HK3.out) (fun K hK => ?_); go_simp; refine hK _ _ ?_; clear hK K)
  clear x0 x1 x2 y0
  refine ⟨inKA.of HK3.out, ?_⟩
  obtain ⟨x0, x1, x2, xf⟩ := (HX3.out.kept HK3.out)
  have c0 := (HKW3.out.trans HK3.out).cell HMC.out.1 (fun h => h)
  have c1 := (HKW3.out.trans HK3.out).cell HMC.out.2.1 (fun h => h)
  have c2 := (HKW3.out.trans HK3.out).cell HMC.out.2.2 (fun h => h)
  have hkz : (k : Int) < (mn : Int) := by omega
  have hkn : (0 : Int) ≤ (k : Int) := by omega
  go_upto_region 5 with (fail)
  clear c0 c1 c2 x0 x1 x2 xf hkz hkn hk0 hs0 hs1 hep2
  have HB0 := Lib.hid (Box3.new V3 (.int .i64 m0) (.int .i64 m1) (.int .i64 m2) 35)
  have HX4 := Lib.hid (HX3.out.kept (HK3.out.trans ((Keep.refl _ V3).alloc (.cells #[.int .i64 m0, .int .i64 m1, .int .i64 m2] 35))))
  have HU4 := Lib.hid (HU3.out.kept (HK3.out.trans ((Keep.refl _ V3).alloc (.cells #[.int .i64 m0, .int .i64 m1, .int .i64 m2] 35))))
  have HKW4 := Lib.hid ((HKW3.out.trans HK3.out).trans ((Keep.refl _ V3).alloc (.cells #[.int .i64 m0, .int .i64 m1, .int .i64 m2] 35)))
  have HZV : Hid (z + 1 < V3.heap.size) := Lib.hid (HU3.out.kept HK3.out).lt
  clear HX3 HU3 HKW3 HK3
  generalize V3.alloc (.cells #[.int .i64 m0, .int .i64 m1, .int .i64 m2] 35) = V4 at *
  generalize V3.heap.size = b9 at *
  obtain ⟨x0, x1, x2, xf⟩ := HB0.out
  go_upto_region 6 with (fail)
  clear x0 x1 x2 xf
  have kq : Keep (fun j => j = b9) V4 (V4.setCell ⟨b9, 0, none⟩ (.int .i64 sp)) := (Keep.refl (fun j => j = b9) V4).setCell (p := ⟨b9, 0, none⟩) _ (.inl rfl)
  have HB5 := Lib.hid (HB0.out.set0 (.int .i64 sp))
  have HX5 := Lib.hid (HX4.out.keep kq (by have := HZV.out; omega))
  have HU5 := Lib.hid (HU4.out.keep kq (by have := HZV.out; omega))
  have HKW5 := Lib.hid (HKW4.out.trans' kq (fun j e => .inr (by have h5 : j = b9 := e; have := HZ.out; have := HZV.out; omega)))
  clear kq HX4 HU4 HKW4 HB0
  generalize V4.setCell ⟨b9, 0, none⟩ (.int .i64 sp) = V5 at *
  generalize (decide ((k : Int) < 0) || decide (sp < 0) || decide (24 ≤ sp) || decide (1000000 ≤ ep)) = q1 at *
  generalize (decide ((k : Int) < 0) || decide (sp < 0) || decide (24 ≤ sp)) = q2 at *
  generalize (decide ((k : Int) < 0) || decide (sp < 0)) = q3 at *
  generalize decide ((k : Int) < 0) = q4 at *
  generalize decide (sp < 0) = q5 at *
  generalize decide (24 ≤ sp) = q6 at *
  generalize decide (1000000 ≤ ep) = q7 at *
  -- the new ring
  obtain ⟨lq, hlq⟩ : ∃ l, moreM (lr.filter (notN nd)) ⟨sp, m1, m2⟩ = l := ⟨_, rfl⟩
  rw [hlq]
  obtain ⟨ln, hln⟩ : ∃ n, lq.length = n := ⟨_, rfl⟩
  have HLQ := Lib.hid hlq
  have HLNQ := Lib.hid hln
  have HSB := Lib.hid hsb
  clear hlq hln hsb
  have hw1 : IntKind.i64.wrap (ep + 1) = ep + 1 := wrapI (by unfold I64; omega)
  have x0 : ∀ p : KA (fun _ => False) V5, p.val.cell? ⟨z, 0, none⟩ = some (.int .i64 ep) := fun p => (HX5.out.kept p.k).1
  have x1 : ∀ p : KA (fun _ => False) V5, p.val.cell? ⟨z, 1, none⟩ = some (.slice (some ⟨mb, mo, none⟩) mn mc) := fun p => (HX5.out.kept p.k).2.1
  have x2 : ∀ p : KA (fun _ => False) V5, p.val.cell? ⟨z, 2, none⟩ = some (.slice (some ⟨ob, oo, none⟩) 64 oc) := fun p => (HX5.out.kept p.k).2.2.1
  have c0 : ∀ p : KA (fun _ => False) V5, p.val.cell? ⟨b9, 0, none⟩ = some (.int .i64 sp) := fun p => (HB5.out.kept p.k).1
  have c1 : ∀ p : KA (fun _ => False) V5, p.val.cell? ⟨b9, 1, none⟩ = some (.int .i64 m1) := fun p => (HB5.out.kept p.k).2.1
  have c2 : ∀ p : KA (fun _ => False) V5, p.val.cell? ⟨b9, 2, none⟩ = some (.int .i64 m2) := fun p => (HB5.out.kept p.k).2.2.1
  refine wp_region_free [0, 1, 2, 3, 4, 5, 7, 10, 11] [⟨6, 59, []⟩, ⟨8, 61, []⟩, ⟨9, 62, [59, 61]⟩, ⟨12, 65, []⟩, ⟨14, 10, []⟩, ⟨13, 66, [62, 65]⟩] [(false, 15)] (inKA (fun _ => False) V5) (replS (ep + 1) nd ⟨sp, m1, m2⟩ lq ow ln V5.heap.size) (Keep (fun _ => False)) (by kernel_rfl) (by kernel_rfl) (inKA.of (Keep.refl _ V5).drew) replS_keep (fun w w' hw hk => by obtain ⟨p, rfl⟩ := hw; exact inKA.of (p.k.trans hk)) ?_
  iterate 9 (refine headW_step rfl (fun K hK => ?_); go_simp; refine hK _ ?_; clear hK K)
  clear x0 x1 x2 c0 c1 c2 hw1
  refine ⟨?_, ?_, ?_⟩
  · intro h hh
    simp only [List.mem_cons, List.not_mem_nil, or_false] at hh
    rcases hh with rfl | rfl | rfl | rfl | rfl | rfl <;> simp
  · refine freeW_step rfl (fun vs W hC hS K hK => ?_) (freeW_step rfl (fun vs W hC hS K hK => ?_) (freeW_step rfl (fun vs W hC hS K hK => ?_) (freeW_step rfl (fun vs W hC hS K hK => ?_) (freeW_step rfl (fun vs W hC hS K hK => ?_) (freeW_step rfl (fun vs W hC hS K hK => ?_) trivial)))))
    · obtain ⟨p, rfl⟩ := hC
      simp only [putL, List.foldl]
      have HI := Lib.hid (is_any nd p.val)
      go_simp
      refine HI.out.mono ?_
      rintro e W2 ⟨rfl, hcell, kk, -⟩
      exact hK _ _ (replS_59 ⟨_, rfl, hcell⟩) kk
    · obtain ⟨p, rfl⟩ := hC
      simp only [putL, List.foldl]
      go_simp
      exact hK _ _ (replS_61 ⟨_, rfl, mbs_one p.val sp m1 m2 ⟨by unfold I64; have := HSB.out; omega, HMBD.out.2.1, HMBD.out.2.2⟩⟩) ((Keep.refl _ p.val).alloc _)
    · obtain ⟨p, rfl⟩ := hC
      obtain ⟨b, e1, h1⟩ := (hS 59 (by simp)).1 rfl
      obtain ⟨b', e2, h2⟩ := (hS 61 (by simp)).2.1 rfl
      simp only [putL, List.foldl]
      generalize vs 59 = v59 at *
      generalize vs 61 = v61 at *
      subst e1 e2
      have HE := Lib.hid (editedR_any _ _ b nd lr ⟨sp, m1, m2⟩ p.val (HML.out.kept (HKW5.out.trans p.k)) h1 h2 HOK.out.2.2.1.asc (fun x hx e => by
        have := List.any_eq_false.1 HHS.out x hx
        simp only [decide_eq_true_eq] at this
        exact this e) (by rw [HLN.out]; exact HLL.out))
      have hsz := p.k.size
      go_simp
      refine HE.out.mono ?_
      rintro e W2 ⟨g, c, rfl, hown, kk⟩
      rw [HLQ.out, HLNQ.out] at hown ⊢
      exact hK _ _ (replS_62 ⟨_, c, rfl, ownsRow_lo hown hsz⟩) kk
    · obtain ⟨p, rfl⟩ := hC
      simp only [putL, List.foldl]
      have HCL := Lib.hid (cloneI_any _ ow p.val (HIO.out.kept (HKW5.out.trans p.k)) (by have := HOL.out; omega))
      have hsz := p.k.size
      go_simp
      refine HCL.out.mono ?_
      rintro e W2 ⟨a, c, rfl, hown, kk⟩
      rw [HOL.out] at hown ⊢
      exact hK _ _ (replS_65 ⟨a, c, rfl, ownsRow_lo hown hsz⟩) kk
    · obtain ⟨p, rfl⟩ := hC
      simp only [putL, List.foldl]
      have hsz := p.k.size
      go_simp
      exact hK _ _ (replS_10 ⟨p.val.heap.size, rfl, hsz, Box3.new _ _ _ _ _, ⟨_, World.alloc_heap_new _ _⟩⟩) ((Keep.refl _ p.val).alloc _)
    · obtain ⟨a, c, e1, h1⟩ := (hS 62 (by simp)).2.2.1 rfl
      obtain ⟨a', c', e2, h2⟩ := (hS 65 (by simp)).2.2.2.1 rfl
      simp only [putL, List.foldl]
      generalize vs 62 = v62 at *
      generalize vs 65 = v65 at *
      subst e1 e2
      go_simp
      exact hK _ _ (replS_66 ⟨a, c, a', c', rfl, h1, h2⟩) (Keep.refl _ W)
  · intro vs W hC hS
    obtain ⟨p, rfl⟩ := hC
    obtain ⟨b59, e1, -⟩ := (hS ⟨6, 59, []⟩ (by simp)).1 rfl
    obtain ⟨b61, e2, -⟩ := (hS ⟨8, 61, []⟩ (by simp)).2.1 rfl
    obtain ⟨a62, c62, e3, -⟩ := (hS ⟨9, 62, [59, 61]⟩ (by simp)).2.2.1 rfl
    obtain ⟨a65, c65, e4, -⟩ := (hS ⟨12, 65, []⟩ (by simp)).2.2.2.1 rfl
    obtain ⟨am, cm, ao, co, e5, hm9, ho9⟩ := (hS ⟨13, 66, [62, 65]⟩ (by simp)).2.2.2.2.1 rfl
    obtain ⟨z9, e6, hz9, hb9, ht9⟩ := (hS ⟨14, 10, []⟩ (by simp)).2.2.2.2.2 rfl
    simp only [] at e1 e2 e3 e4 e5 e6
    simp only [List.map, putL, List.foldl]
    generalize vs 59 = v59 at *
    generalize vs 61 = v61 at *
    generalize vs 62 = v62 at *
    generalize vs 65 = v65 at *
    generalize vs 66 = v66 at *
    generalize vs 10 = v10 at *
    subst e1 e2 e3 e4 e5 e6
    obtain ⟨og, rfl⟩ := own_some' ho9 (by decide)
    have HOGZ : Hid (og ≠ z9) := Lib.hid (own_ne ho9 ht9 (by decide) rfl)
    have HGMZ : Hid (∀ b, (Value.slice am ln cm).ownBlock = some b → b ≠ z9) := Lib.hid (fun b hb => own_ne hm9 ht9 (by decide) hb)
    have HGMO : Hid (∀ b, (Value.slice am ln cm).ownBlock = some b → b ≠ og) := Lib.hid (fun b hb e => own_apart hm9 ho9 (by decide) hb (by rw [e]; rfl))
    have HUP := Lib.hid (HU5.out.kept p.k)
    have HKP := Lib.hid p.k
    have HBP := Lib.hid hb9
    have HMP := Lib.hid hm9
    have HOP := Lib.hid ho9
    have HZ9 : Hid (V5.heap.size ≤ z9 ∧ z + 1 < V5.heap.size ∧ w.heap.size ≤ V5.heap.size) := Lib.hid ⟨hz9, HU5.out.lt, HKW5.out.size⟩
    have HOGB : Hid (V5.heap.size ≤ og) := Lib.hid (ho9.lt og rfl).1
    have HGMB : Hid (∀ b, (Value.slice am ln cm).ownBlock = some b → V5.heap.size ≤ b) := Lib.hid (fun b hb => (hm9.lt b hb).1)
    clear hS hz9 hb9 ht9 hm9 ho9
    have HKWP := Lib.hid (HKW5.out.trans p.k)
    generalize p.val = V at *
    obtain ⟨B, hB⟩ : ∃ B, V5.heap.size = B := ⟨_, rfl⟩
    have HSZ5 : Hid (V5.heap.size ≤ B) := Lib.hid (by omega)
    rw [hB] at HZ9 HOGB HGMB HMP HOP
    clear hB
    obtain ⟨y0, y1, y2, yf⟩ := HBP.out
    refine walkW_do rfl (inKA.of HKP.out) (fun K hK => ?_)
    go_simp
    refine hK _ _ ?_; clear hK K
    clear y0 y1 y2 yf
    have kq : Keep (fun j => j = z9) V (((V.setCell ⟨z9, 0, none⟩ (.int .i64 (ep + 1))).setCell ⟨z9, 1, none⟩ (.slice am ln cm)).setCell ⟨z9, 2, none⟩ (.slice (some ⟨og, 0, none⟩) 64 co)) := (((Keep.refl (fun j => j = z9) V).setCell (p := ⟨z9, 0, none⟩) _ (.inl rfl)).setCell (p := ⟨z9, 1, none⟩) _ (.inl rfl)).setCell (p := ⟨z9, 2, none⟩) _ (.inl rfl)
    have HBQ := Lib.hid (((HBP.out.set0 (.int .i64 (ep + 1))).set1 (.slice am ln cm)).set2 (.slice (some ⟨og, 0, none⟩) 64 co))
    have HMQ := Lib.hid (ownsRow_keep HMP.out kq (fun b hb e => HGMZ.out b hb e))
    have HOQ := Lib.hid (ownsRow_keep HOP.out kq (fun b hb e => by cases hb; exact HOGZ.out e))
    have HUQ := Lib.hid (HUP.out.keep kq (by have := HZ9.out; omega))
    have HKQ := Lib.hid (HKP.out.trans' kq (fun j e => .inr (by have h5 : j = z9 := e; have := HZ9.out; have := HSZ5.out; omega)))
    have HKWQ := Lib.hid (HKWP.out.trans' kq (fun j e => .inr (by have h5 : j = z9 := e; have := HZ9.out; omega)))
    clear kq HBP HMP HOP HUP HKP HKWP
    generalize ((V.setCell ⟨z9, 0, none⟩ (.int .i64 (ep + 1))).setCell ⟨z9, 1, none⟩ (.slice am ln cm)).setCell ⟨z9, 2, none⟩ (.slice (some ⟨og, 0, none⟩) 64 co) = V6 at *
    refine ⟨inKA.of HKQ.out, ?_⟩
    obtain ⟨y0, y1, y2, yf⟩ := HBQ.out
    go_upto_region 8 with (fail)
    clear y0 y1 y2 yf
    have HRQ : Hid (V6.ownsRow B 3 1 (.slice (some ⟨og, 0, none⟩) 64 co) 64 ((repL (repF nd sp) ow 0).map (fun x => Value.int .i64 x))) := Lib.hid (by rw [repL_zero]; exact HOQ.out)
    go_loopg [70] 64 (fun gh v70 wr => ∃ i : Nat, gh + i = 64 ∧ v70 = .int .i64 i ∧ wr.ownsRow B 3 1 (.slice (some ⟨og, 0, none⟩) 64 co) 64 ((repL (repF nd sp) ow i).map (fun x => Value.int .i64 x)) ∧ Keep (fun j => j = og) V6 wr)
    case atStart => exact ⟨0, by omega, rfl, HRQ.out, Keep.refl _ _⟩
    case round =>
      obtain ⟨i, hi, rfl, hown, hkeep⟩ := hrel
      have HOI := Lib.hid hown
      have HK := Lib.hid hkeep
      have HKW : Hid (Keep (fun _ => False) w wr) := Lib.hid (HKWQ.out.trans' hkeep (fun j e => .inr (by have h5 : j = og := e; have := HOGB.out; have := HZ9.out; omega)))
      clear hown hkeep
      by_cases hlt : i < 64
      · obtain ⟨x, hx⟩ : ∃ x, ow[i]? = some x := ⟨_, List.getElem?_eq_getElem (by have := HOL.out; omega)⟩
        have ci : wr.cell? ⟨og, i, none⟩ = some (.int .i64 x) := by
          rw [HOI.out.cellAt i hlt, List.getElem?_map, repL_get (by rw [HOL.out]; exact hlt), hx]; rfl
        have yf : ∀ o, wr.frozen? ⟨og, o, none⟩ = false := fun o => HOI.out.frozenAt o
        have HBI := Lib.hid (HBQ.out.keep HK.out (fun e => HOGZ.out e.symm))
        obtain ⟨y0, y1, y2, -⟩ := HBI.out
        have HX := Lib.hid hx
        have hiz : (i : Int) < 64 := by omega
        have hi0 : (0 : Int) ≤ (i : Int) := by omega
        clear hx
        by_cases hxn : x = nd
        · have HXN : Hid (repF nd sp x = sp) := Lib.hid (by unfold repF; rw [if_pos hxn])
          have HST := Lib.hid (HOI.out.stored i (.int .i64 sp)).1
          have HRN : Hid ((wr.setCell ⟨og, i, none⟩ (.int .i64 sp)).ownsRow B 3 1 (.slice (some ⟨og, 0, none⟩) 64 co) 64 ((repL (repF nd sp) ow (i + 1)).map (fun x => Value.int .i64 x))) := Lib.hid (by
            rw [← repL_next HX.out, HXN.out, List.map_set]
            exact HST.out)
          have HKN : Hid (Keep (fun j => j = og) V6 (wr.setCell ⟨og, i, none⟩ (.int .i64 sp))) := Lib.hid (HK.out.setCell (p := ⟨og, i, none⟩) _ (.inl rfl))
          clear HST
          go_wp2_with fail
          clear ci yf y0 y1 y2
          generalize wr.setCell ⟨og, i, none⟩ (.int .i64 sp) = W14 at *
          go_roundg (64 - (i + 1))
          case rel => exact ⟨i + 1, by omega, by go_num, HRN.out, HKN.out⟩
          case measure => omega
        · have HRN : Hid (wr.ownsRow B 3 1 (.slice (some ⟨og, 0, none⟩) 64 co) 64 ((repL (repF nd sp) ow (i + 1)).map (fun x => Value.int .i64 x))) := Lib.hid (by
            rw [repL_same HX.out (by unfold repF; rw [if_neg hxn])]
            exact HOI.out)
          go_wp2_with fail
          clear ci yf y0 y1 y2
          go_roundg (64 - (i + 1))
          case rel => exact ⟨i + 1, by omega, by go_num, HRN.out, HK.out⟩
          case measure => omega
      · have hie : i = 64 := by omega
        have HOE : Hid (wr.ownsRow B 3 1 (.slice (some ⟨og, 0, none⟩) 64 co) 64 ((ow.map (repF nd sp)).map (fun x => Value.int .i64 x))) := Lib.hid (by
          rw [← repL_all (HOL.out.trans hie.symm)]
          exact HOI.out)
        have HBI := Lib.hid (HBQ.out.keep HK.out (fun e => HOGZ.out e.symm))
        have HUI := Lib.hid (HUQ.out.keep HK.out (fun e => by have := HOGB.out; have := HZ9.out; omega))
        have HMI := Lib.hid (ownsRow_keep HMQ.out HK.out (fun b hb e => HGMO.out b hb e))
        obtain ⟨y0, y1, y2, -⟩ := HBI.out
        obtain ⟨u0, u1, u2, uf⟩ := HUI.out
        have hiz : ¬ ((i : Int) < 64) := by omega
        clear HOI HRQ
        go_upto_region 13 with (fail)
        go_wp2_with fail
        have g := ((HUI.out.set0 (.int .i64 (ep + 1))).set1 (.slice am ln cm)).set2 (.slice (some ⟨og, 0, none⟩) 64 co)
        have kq : Keep (fun j => j = z + 1) wr (((wr.setCell ⟨z + 1, 0, none⟩ (.int .i64 (ep + 1))).setCell ⟨z + 1, 1, none⟩ (.slice am ln cm)).setCell ⟨z + 1, 2, none⟩ (.slice (some ⟨og, 0, none⟩) 64 co)) := (((Keep.refl (fun j => j = z + 1) wr).setCell (p := ⟨z + 1, 0, none⟩) _ (.inl rfl)).setCell (p := ⟨z + 1, 1, none⟩) _ (.inl rfl)).setCell (p := ⟨z + 1, 2, none⟩) _ (.inl rfl)
        have HFM := Lib.hid (ownsRow_keep HMI.out kq (fun b hb e => by have h5 : b = z + 1 := e; have := HGMB.out b hb; have := HZ9.out; omega))
        have HFO := Lib.hid (ownsRow_keep HOE.out kq (fun b hb e => by cases hb; have h5 : og = z + 1 := e; have := HOGB.out; have := HZ9.out; omega))
        have HFK := Lib.hid (HKW.out.trans' kq (fun j e => .inr (by have h5 : j = z + 1 := e; have := HZ.out; omega)))
        clear y0 y1 y2 u0 u1 u2 uf kq
        generalize ((wr.setCell ⟨z + 1, 0, none⟩ (.int .i64 (ep + 1))).setCell ⟨z + 1, 1, none⟩ (.slice am ln cm)).setCell ⟨z + 1, 2, none⟩ (.slice (some ⟨og, 0, none⟩) 64 co) = WF at *
        obtain ⟨g0, g1, g2, -⟩ := g
        refine bodyPost_ret (v := .tuple #[.agg #[.int .i64 (ep + 1), .slice am ln cm, .slice (some ⟨og, 0, none⟩) 64 co], .int .i64 0]) (by simp [results, Tryz.results20, go_sem, g0, g1, g2]) rfl ?_
        rw [HLQ.out]
        refine ⟨am, cm, some ⟨og, 0, none⟩, co, by rw [HLNQ.out, List.length_map, HOL.out], ?_, ?_, HFK.out⟩
        · rw [HLNQ.out]; exact ownsRow_lo HFM.out HZ9.out.2.2
        · rw [List.length_map, HOL.out]; exact ownsRow_lo HFO.out HZ9.out.2.2
end Go.Proofs.YtplkmbfeeegaiaaGreatDoor

/-
  Moves of package reshard.
-/
namespace Go.Proofs.YtplkmbfeeegaiaaGreatDoor
open Go.RowKit Go.Shelf

/-- A move as three ints, named as a member's are. -/
def mvMb (m : Mv) : Mb := ⟨m.slot, m.frm, m.to_⟩
def encMv (m : Mv) : List Value := [.int .i64 m.slot, .int .i64 m.frm, .int .i64 m.to_]
def flatV (l : List Mv) : List Value := flatB (l.map mvMb)
theorem flatV_snoc (l : List Mv) (m : Mv) : flatV (l ++ [m]) = flatV l ++ encMv m := by
  unfold flatV
  rw [List.map_append, flatB_append]
  rfl
/-- Moves in a slice. -/
def Mvs (W : World) (v : Value) (l : List Mv) : Prop := Mbs W v (l.map mvMb)
theorem Mvs.kept {W W' : World} {v : Value} {l : List Mv} (h : Mvs W v l) (k : Keep (fun _ => False) W W') : Mvs W' v l := Mbs.kept h k
/-- Moves in a slice of their own. -/
def OwnV (w : World) (l : List Mv) (v : Value) (W : World) : Prop := Keep (fun _ => False) w W ∧ W.ownsRow w.heap.size 107 3 v l.length (flatV l)
theorem OwnV.nil {w W : World} (k : Keep (fun _ => False) w W) : OwnV w [] (.slice none 0 0) W := ⟨k, by simpa [flatV, flatB] using World.ownsRow_nil W w.heap.size 107 3⟩
theorem OwnV.keep {w W W' : World} {l : List Mv} {v : Value} (h : OwnV w l v W) (k : Keep (fun _ => False) W W') : OwnV w l v W' := ⟨h.1.trans k, ownsRow_keep h.2 k (fun _ _ h => h)⟩
theorem infoMv : (Tryz.prog.info? 107).map (fun i => (i.zero, i.size, i.bytes)) = some (some (.agg #[.int .i64 0, .int .i64 0, .int .i64 0]), 3, 24) := by kernel_rfl
theorem OwnV.snoc {w W : World} {l : List Mv} {v : Value} (h : OwnV w l v W) (x : Mv) (hl : l.length ≤ 100000) :
    ∃ v' w', (Builtin.append_ #[42, 42] 42 #[v, .slice (some ⟨W.heap.size, 0, none⟩) 1 1]).run Tryz.prog (W.alloc (.cells #[.int .i64 x.slot, .int .i64 x.frm, .int .i64 x.to_] 107)) = .ok v' w' ∧ OwnV w (l ++ [x]) v' w' := by
  obtain ⟨v', w', r1, r2, r3, r4, -⟩ := app_one 42 107 3 24 _ Tryz.underlying42 infoMv rfl (by decide) (by decide) W 42 w.heap.size v l.length (flatV l) (encMv x) h.2 rfl (by simp [encMv, Value.oneCell']) (by omega) h.1.size
  refine ⟨v', w', r1, ⟨h.1.trans' r3 (fun j e => .inr (h.2.lt j e).1), ?_⟩⟩
  rw [flatV_snoc, List.length_append]
  exact r2
theorem movesK_next {a b : List Int} {k : Nat} {x y : Int} (ha : a[k]? = some x) (hb : b[k]? = some y) (hne : y ≠ x) : movesK a b (k + 1) = movesK a b k ++ [⟨k, x, y⟩] := by
  have e1 : a.getD k 0 = x := by rw [List.getD_eq_getElem?_getD, ha]; rfl
  have e2 : b.getD k 0 = y := by rw [List.getD_eq_getElem?_getD, hb]; rfl
  conv => lhs; unfold movesK
  rw [e1, e2, if_pos hne]
theorem movesK_stay {a b : List Int} {k : Nat} {x y : Int} (ha : a[k]? = some x) (hb : b[k]? = some y) (he : y = x) : movesK a b (k + 1) = movesK a b k := by
  have e1 : a.getD k 0 = x := by rw [List.getD_eq_getElem?_getD, ha]; rfl
  have e2 : b.getD k 0 = y := by rw [List.getD_eq_getElem?_getD, hb]; rfl
  conv => lhs; unfold movesK
  rw [e1, e2, if_neg (fun h => h he), List.append_nil]
def MvPost (l : List Mv) (w : World) (e : Ending) (w' : World) : Prop := ∃ a c, e = .returned (.slice a l.length c) ∧ w'.ownsRow w.heap.size 107 3 (.slice a l.length c) l.length (flatV l) ∧ Keep (fun _ => False) w w'
set_option maxRecDepth 100000 in
set_option maxHeartbeats 8000000 in
theorem moves_any (va vb : Value) (ea eb : Int) (la lb : List Mb) (oa ob : List Int) (w : World) (ha : Rng w va ea la oa) (hb : Rng w vb eb lb ob) (hla : oa.length = 64) (hlb : ob.length = 64) :
    Calls Tryz.prog 30 #[va, vb] w (MvPost (movesK oa ob 64) w) := by
  obtain ⟨-, am, ao, rfl, hma, hia⟩ := ha
  obtain ⟨-, bm, bo, rfl, hmb, hib⟩ := hb
  obtain ⟨ma, mn, mc, rfl⟩ : ∃ a n c, am = .slice a n c := by obtain ⟨a, c, b, off, h, _⟩ := hma.at_; exact ⟨_, _, _, h⟩
  obtain ⟨na, nn, nc, rfl⟩ : ∃ a n c, bm = .slice a n c := by obtain ⟨a, c, b, off, h, _⟩ := hmb.at_; exact ⟨_, _, _, h⟩
  obtain ⟨-, -, aa, ac, ab, af, rfl, hac, haa, hacell⟩ := hia
  obtain ⟨-, -, ba, bc, bb, bf, rfl, hbc, hba, hbcell⟩ := hib
  obtain rfl := haa (by omega)
  obtain rfl := hba (by omega)
  have HCA := Lib.hid hacell
  have HCB := Lib.hid hbcell
  have HLA := Lib.hid hla
  have HLB := Lib.hid hlb
  rw [hla] at hac ⊢
  rw [hlb] at hbc ⊢
  clear haa hba hacell hbcell hla hlb hma hmb
  have HX := Lib.hid (Box3.new w (.int .i64 ea) (.slice ma mn mc) (.slice (some ⟨ab, af, none⟩) 64 ac) 27)
  have HY := Lib.hid (Box3.new (w.alloc (.cells #[.int .i64 ea, .slice ma mn mc, .slice (some ⟨ab, af, none⟩) 64 ac] 27)) (.int .i64 eb) (.slice na nn nc) (.slice (some ⟨bb, bf, none⟩) 64 bc) 27)
  have HKA : Hid (Keep (fun _ => False) w (w.alloc (.cells #[.int .i64 ea, .slice ma mn mc, .slice (some ⟨ab, af, none⟩) 64 ac] 27))) := Lib.hid ((Keep.refl _ w).alloc _)
  have HKB : Hid (Keep (fun _ => False) (w.alloc (.cells #[.int .i64 ea, .slice ma mn mc, .slice (some ⟨ab, af, none⟩) 64 ac] 27)) ((w.alloc (.cells #[.int .i64 ea, .slice ma mn mc, .slice (some ⟨ab, af, none⟩) 64 ac] 27)).alloc (.cells #[.int .i64 eb, .slice na nn nc, .slice (some ⟨bb, bf, none⟩) 64 bc] 27))) := Lib.hid ((Keep.refl _ _).alloc _)
  have HX0 := Lib.hid (HX.out.kept HKB.out)
  rw [World.size_alloc] at HY
  have HK0 := Lib.hid (HKA.out.trans HKB.out)
  clear HX HKA HKB
  go_enter Tryz.func30, Tryz.ntmps30
  go_wp2_with fail
  generalize ((w.alloc (.cells #[.int .i64 ea, .slice ma mn mc, .slice (some ⟨ab, af, none⟩) 64 ac] 27)).alloc (.cells #[.int .i64 eb, .slice na nn nc, .slice (some ⟨bb, bf, none⟩) 64 bc] 27)) = W0 at *
  generalize hz : w.heap.size = z at HX0 HY ⊢
  have HZ := Lib.hid hz
  clear hz
  obtain ⟨x0, x1, x2, -⟩ := HX0.out
  obtain ⟨y0, y1, y2, -⟩ := HY.out
  go_upto_region 5 with (fail)
  clear x0 x1 x2 y0 y1 y2
  have HW0 : Hid (OwnV W0 [] (.slice none 0 0) W0) := Lib.hid (OwnV.nil (Keep.refl _ W0))
  go_loopg [5, 21] 64 (fun gh v5 v21 wr => ∃ i : Nat, gh + i = 64 ∧ v21 = .int .i64 i ∧ OwnV W0 (movesK oa ob i) v5 wr)
  case atStart => exact ⟨0, by omega, rfl, HW0.out⟩
  case round =>
    obtain ⟨i, hi, rfl, hown⟩ := hrel
    have HOV := Lib.hid hown
    have HK := Lib.hid hown.1
    clear hown
    by_cases hlt : i < 64
    · obtain ⟨x, hx⟩ : ∃ x, oa[i]? = some x := ⟨_, List.getElem?_eq_getElem (by have := HLA.out; omega)⟩
      obtain ⟨y, hy⟩ : ∃ y, ob[i]? = some y := ⟨_, List.getElem?_eq_getElem (by have := HLB.out; omega)⟩
      have HMK := Lib.hid (movesK_len oa ob i)
      have cx := (HK0.out.trans HK.out).cell (HCA.out i x hx) (fun h => h)
      have cy := (HK0.out.trans HK.out).cell (HCB.out i y hy) (fun h => h)
      obtain ⟨x0, x1, x2, -⟩ := HX0.out.kept HK.out
      obtain ⟨y0, y1, y2, -⟩ := HY.out.kept HK.out
      have HXI := Lib.hid hx
      have HYI := Lib.hid hy
      have hiz : (i : Int) < 64 := by omega
      have hi0 : (0 : Int) ≤ (i : Int) := by omega
      clear hx hy
      by_cases hne : y = x
      · have HN : Hid (OwnV W0 (movesK oa ob (i + 1)) u5 wr) := Lib.hid (by rw [movesK_stay HXI.out HYI.out hne]; exact HOV.out)
        go_wp2_with fail
        clear x0 x1 x2 y0 y1 y2 cx cy
        go_roundg (64 - (i + 1))
        case rel => exact ⟨i + 1, by omega, by go_num, HN.out⟩
        case measure => omega
      · obtain ⟨v', w', hr, hn⟩ := HOV.out.snoc ⟨i, x, y⟩ (by have := HMK.out; omega)
        have HN : Hid (OwnV W0 (movesK oa ob (i + 1)) v' w') := Lib.hid (by rw [movesK_next HXI.out HYI.out hne]; exact hn)
        have HR := Lib.hid hr
        clear hr hn
        simp only [] at HR
        go_wp2_with (at_builtin; refine wpList_app rfl (.tmp 33) (.tmp 42) 42 rfl rfl rfl HR.out ?_)
        clear x0 x1 x2 y0 y1 y2 cx cy
        go_roundg (64 - (i + 1))
        case rel => exact ⟨i + 1, by omega, by go_num, HN.out⟩
        case measure => omega
    · obtain rfl : i = 64 := by omega
      have hiz : ¬ (((64 : Nat) : Int) < 64) := by omega
      obtain ⟨a, c, rfl⟩ := own_form HOV.out.2
      go_wp2_with fail
      go_ret
      exact ⟨a, c, rfl, ownsRow_lo HOV.out.2 (HK0.out.size), HK0.out.trans HK.out⟩
end Go.Proofs.YtplkmbfeeegaiaaGreatDoor

/-
  Apply of package reshard.
-/
namespace Go.Proofs.YtplkmbfeeegaiaaGreatDoor
open Go.RowKit Go.Shelf

theorem applyS_hit {o : List Int} {q : Nat} {x t : Int} (h : o[q]? = some x) : applyS o ⟨q, x, t⟩ = o.set q t := by
  have hq := (List.getElem?_eq_some_iff.1 h).1
  unfold applyS
  rw [if_pos ⟨by simp only []; omega, by simp only []; omega, by simp only [Int.toNat_natCast]; rw [List.getD_eq_getElem?_getD, h]; rfl⟩]
  simp only [Int.toNat_natCast]
theorem applyS_miss {o : List Int} {q : Nat} {x f t : Int} (h : o[q]? = some x) (hne : x ≠ f) : applyS o ⟨q, f, t⟩ = o := by
  unfold applyS
  rw [if_neg]
  rintro ⟨-, -, h3⟩
  simp only [Int.toNat_natCast] at h3
  rw [List.getD_eq_getElem?_getD, h] at h3
  exact hne h3
set_option maxRecDepth 100000 in
set_option maxHeartbeats 8000000 in
theorem apply_any (v vm : Value) (ep : Int) (lr : List Mb) (ow : List Int) (ms : List Mv) (w : World) (h : Rng w v ep lr ow) (ho : ow.length = 64) (hm : Mvs w vm ms) (hs : ∀ m ∈ ms, 0 ≤ m.slot ∧ m.slot < 64) :
    Calls Tryz.prog 27 #[v, vm] w (CloneI (applyL ow ms) w) := by
  obtain ⟨-, rm, ro, rfl, hrm, hro⟩ := h
  obtain ⟨ma, mn, mc, rfl⟩ : ∃ a n c, rm = .slice a n c := by obtain ⟨a, c, b, off, h, _⟩ := hrm.at_; exact ⟨_, _, _, h⟩
  have HIO := Lib.hid hro
  obtain ⟨-, -, oa, oc, ob, oo, rfl, hoc, hoa, -⟩ := hro
  obtain ⟨hml, hbd, va, vc, vb, vo, rfl, hvc, hva, hvcell⟩ := hm
  obtain ⟨ln, hln⟩ : ∃ n, ms.length = n := ⟨_, rfl⟩
  rw [List.length_map, hln] at hvc hva hml ⊢
  have HLN := Lib.hid hln
  have HOL := Lib.hid ho
  have HS := Lib.hid hs
  have HVA := Lib.hid hva
  have HVC := Lib.hid hvcell
  rw [ho] at HIO ⊢
  clear hrm hoc hoa hbd hva hvcell hln ho hs
  have HX := Lib.hid (Box3.new w (.int .i64 ep) (.slice ma mn mc) (.slice oa 64 oc) 27)
  have HK0 : Hid (Keep (fun _ => False) w (w.alloc (.cells #[.int .i64 ep, .slice ma mn mc, .slice oa 64 oc] 27))) := Lib.hid ((Keep.refl _ w).alloc _)
  go_enter Tryz.func27, Tryz.ntmps27
  go_upto_region 1 with (fail)
  generalize w.alloc (.cells #[.int .i64 ep, .slice ma mn mc, .slice oa 64 oc] 27) = W0 at *
  generalize hz : w.heap.size = z at HX ⊢
  have HZ := Lib.hid hz
  clear hz
  obtain ⟨x0, x1, x2, xf⟩ := HX.out
  go_wp2_with fail
  clear x0 x1 x2 xf
  with_reducible refine (cloneI_any _ ow W0 (HIO.out.kept HK0.out) (by have := HOL.out; omega)).mono ?_
  rintro e W1 ⟨ga, gc, rfl, hown, k1⟩
  rw [HOL.out] at hown ⊢
  obtain ⟨og, rfl⟩ := own_some' hown (by decide)
  have HOW : Hid (W1.ownsRow W0.heap.size 3 1 (.slice (some ⟨og, 0, none⟩) 64 gc) 64 ((applyL ow (ms.take 0)).map (fun x => Value.int .i64 x))) := Lib.hid hown
  have HOGB : Hid (w.heap.size ≤ og) := Lib.hid (by have := (hown.lt og rfl).1; have := HK0.out.size; omega)
  have HK1 := Lib.hid (HK0.out.trans k1)
  have HKS := Lib.hid HK0.out.size
  clear hown k1
  generalize W0.heap.size = B at *
  go_upto_region 3 with (fail)
  go_loopg [13] ln (fun gh v13 wr => ∃ i : Nat, gh + i = ln ∧ v13 = .int .i64 i ∧ wr.ownsRow B 3 1 (.slice (some ⟨og, 0, none⟩) 64 gc) 64 ((applyL ow (ms.take i)).map (fun x => Value.int .i64 x)) ∧ Keep (fun j => j = og) W1 wr)
  case atStart => exact ⟨0, by omega, rfl, HOW.out, Keep.refl _ _⟩
  case round =>
    obtain ⟨i, hi, rfl, hown, hkeep⟩ := hrel
    have HOI := Lib.hid hown
    have HK := Lib.hid hkeep
    have HKW : Hid (Keep (fun _ => False) w wr) := Lib.hid (HK1.out.trans' hkeep (fun j e => .inr (by have h5 : j = og := e; have := HOGB.out; omega)))
    clear hown hkeep
    by_cases hlt : i < ln
    · obtain ⟨m, hm⟩ : ∃ m, ms[i]? = some m := ⟨_, List.getElem?_eq_getElem (by have := HLN.out; omega)⟩
      obtain rfl := HVA.out (by omega)
      obtain ⟨c0, c1, c2⟩ := HVC.out i (mvMb m) (by rw [List.getElem?_map, hm]; rfl)
      have c0 := HKW.out.cell c0 (fun h => h)
      have c1 := HKW.out.cell c1 (fun h => h)
      have c2 := HKW.out.cell c2 (fun h => h)
      obtain ⟨hs0, hs1⟩ := HS.out m (List.mem_of_getElem? hm)
      have HMM := Lib.hid hm
      obtain ⟨ms0, mf, mt⟩ := m
      simp only [mvMb] at c0 c1 c2 hs0 hs1
      obtain ⟨q, rfl⟩ : ∃ q : Nat, ms0 = q := ⟨ms0.toNat, by omega⟩
      have hiz : (i : Int) < (ln : Int) := by omega
      have hi0 : (0 : Int) ≤ (i : Int) := by omega
      have hq : q < 64 := by omega
      clear hm
      go_upto_region 5 with (fail)
      clear c0 c1 c2
      have HB := Lib.hid (Box3.new wr (.int .i64 q) (.int .i64 mf) (.int .i64 mt) 107)
      have HKV : Hid (Keep (fun _ => False) wr (wr.alloc (.cells #[.int .i64 q, .int .i64 mf, .int .i64 mt] 107))) := Lib.hid ((Keep.refl _ wr).alloc _)
      have HOGL : Hid (og < wr.heap.size) := Lib.hid (HOI.out.lt og rfl).2
      generalize wr.alloc (.cells #[.int .i64 q, .int .i64 mf, .int .i64 mt] 107) = V at *
      generalize wr.heap.size = zb at *
      obtain ⟨xq, hxq⟩ : ∃ x, (applyL ow (ms.take i))[q]? = some x := ⟨_, List.getElem?_eq_getElem (by rw [applyL_len, HOL.out]; exact hq)⟩
      have HXQ := Lib.hid hxq
      have HOV := Lib.hid (ownsRow_keep HOI.out HKV.out (fun _ _ h => h))
      have cq : V.cell? ⟨og, q, none⟩ = some (.int .i64 xq) := by
        rw [HOV.out.cellAt q hq, List.getElem?_map, hxq]; rfl
      have HCQ := Lib.hid cq
      clear hxq cq
      have a0 : ∀ p : KA (fun _ => False) V, p.val.cell? ⟨zb, 0, none⟩ = some (.int .i64 q) := fun p => (HB.out.kept p.k).1
      have a1 : ∀ p : KA (fun _ => False) V, p.val.cell? ⟨zb, 1, none⟩ = some (.int .i64 mf) := fun p => (HB.out.kept p.k).2.1
      have aq : ∀ p : KA (fun _ => False) V, p.val.cell? ⟨og, q, none⟩ = some (.int .i64 xq) := fun p => p.k.cell HCQ.out (fun h => h)
      refine wp_region_walk [(false, 0), (false, 1), (false, 2), (false, 3), (true, 4), (true, 5), (false, 6), (false, 7), (false, 8), (false, 9), (false, 10), (true, 11), (true, 12), (true, 13), (true, 14), (true, 15), (false, 16), (false, 17), (false, 18), (false, 19)] (inKA (fun _ => False) V) (by kernel_rfl) (by kernel_rfl) ?_
      have HKD : Hid (Keep (fun _ => False) V V.drew) := Lib.hid (Keep.refl _ V).drew
      obtain ⟨b0, b1, b2, bf⟩ := HB.out.kept HKD.out
      generalize V.drew = V1 at *
      iterate 4 (refine walkW_do rfl (inKA.of HKD.out) (fun K hK => ?_); go_simp; refine hK _ _ ?_; clear hK K)
      iterate 2 (refine walkW_read rfl (fun K hK => ?_); go_simp; refine hK _ ?_; clear hK K)
      iterate 5 (refine walkW_do rfl (inKA.of HKD.out) (fun K hK => ?_); go_simp; refine hK _ _ ?_; clear hK K)
      iterate 5 (refine walkW_read rfl (fun K hK => ?_); go_simp; refine hK _ ?_; clear hK K)
      iterate 4 (refine walkW_do rfl (inKA.of HKD.out) (fun K hK => ?_); go_simp; refine hK _ _ ?_; clear hK K)
      clear a0 a1 aq
      refine ⟨inKA.of HKD.out, ?_⟩
      have HKR : Hid (Keep (fun j => j = og) W1 V1) := Lib.hid ((HK.out.trans (HKV.out.mono (fun _ h => h.elim))).trans (HKD.out.mono (fun _ h => h.elim)))
      have HOD := Lib.hid (ownsRow_keep HOV.out HKD.out (fun _ _ h => h))
      clear HK HKW HKV HKD HOV HOI HCQ HB
      by_cases hxm : xq = mf
      · subst hxm
        have HST := Lib.hid (HOD.out.stored q (.int .i64 mt)).1
        have HN : Hid ((V1.setCell ⟨og, q, none⟩ (.int .i64 mt)).ownsRow B 3 1 (.slice (some ⟨og, 0, none⟩) 64 gc) 64 ((applyL ow (ms.take (i + 1))).map (fun x => Value.int .i64 x))) := Lib.hid (by
          rw [applyL_take HMM.out, applyS_hit HXQ.out, List.map_set]
          exact HST.out)
        have HKN : Hid (Keep (fun j => j = og) W1 (V1.setCell ⟨og, q, none⟩ (.int .i64 mt))) := Lib.hid (HKR.out.setCell (p := ⟨og, q, none⟩) _ (.inl rfl))
        have yf : ∀ o, V1.frozen? ⟨og, o, none⟩ = false := fun o => HOD.out.frozenAt o
        have cq : ∃ u, V1.cell? ⟨og, q, none⟩ = some u := by
          rw [HOD.out.cellAt q hq, List.getElem?_map, HXQ.out]; exact ⟨_, rfl⟩
        obtain ⟨yu, cq⟩ := cq
        clear HST
        go_wp2_with fail
        clear yf cq b0 b1 b2 bf
        generalize V1.setCell ⟨og, q, none⟩ (.int .i64 mt) = W9 at *
        go_roundg (ln - (i + 1))
        case rel => exact ⟨i + 1, by omega, by go_num, HN.out, HKN.out⟩
        case measure => omega
      · have HN : Hid (V1.ownsRow B 3 1 (.slice (some ⟨og, 0, none⟩) 64 gc) 64 ((applyL ow (ms.take (i + 1))).map (fun x => Value.int .i64 x))) := Lib.hid (by
          rw [applyL_take HMM.out, applyS_miss HXQ.out hxm]
          exact HOD.out)
        have hxb : (xq == mf) = false := by simpa using hxm
        go_wp2_with fail
        clear b0 b1 b2 bf
        go_roundg (ln - (i + 1))
        case rel => exact ⟨i + 1, by omega, by go_num, HN.out, HKR.out⟩
        case measure => omega
    · obtain rfl : i = ln := by omega
      have hiz : ¬ ((i : Int) < (i : Int)) := by omega
      have HOE : Hid (wr.ownsRow B 3 1 (.slice (some ⟨og, 0, none⟩) 64 gc) 64 ((applyL ow ms).map (fun x => Value.int .i64 x))) := Lib.hid (by
        have h1 := HOI.out
        rwa [List.take_of_length_le (by have := HLN.out; omega)] at h1)
      go_wp2_with fail
      go_ret
      exact ⟨some ⟨og, 0, none⟩, gc, by rw [applyL_len, HOL.out]; rfl, by rw [applyL_len, HOL.out]; exact ownsRow_lo HOE.out HKS.out, HKW.out⟩
end Go.Proofs.YtplkmbfeeegaiaaGreatDoor
