/-
  Several texts in one, each under its own heading below (merged by a program of ours): the contracts of the functions that the law reaches, part 4 of 5.
-/
import Derived.Test.YtcnpncndecjahaaGreatDoorX1
import Derived.Test.YtcnpncndecjahaaGreatDoorX2
import Derived.Test.YtcnpncndecjahaaGreatDoorX3
import Derived.Deep.OwnRows
import Derived.Maps.Own
import Derived.Shelf.Strings.Builder1
import Derived.Shelf.Small.Bits
import Derived.Shelf.Strings.BuilderF
import Derived.Shelf.Strings.BuilderK
import Derived.Shelf.Strconv.Itoa0
import Derived.Shelf.Strconv.Itoa1
import Derived.Shelf.LaysM
import Derived.Shelf.Strconv.Itoa2
import Derived.Shelf.Strconv.Itoa3
import Derived.Test.YtcnpncndecjahaaGreatDoorProg
import Derived.Lib.FrozenHead2
import Derived.Lib.OthersKept
import Derived.Lib.Builder
import Derived.Maps.AppendAt
import Derived.Laws.EntriesVeiled

/-
  Put: the walk, where there is an entry with its key.
-/
namespace Go.Proofs.YtcnpncndecjahaaGreatDoor.Mem
open Go.RowKit Go.Shelf
attribute [local go_sem] Oper.semAt_some

set_option maxRecDepth 100000 in
set_option maxHeartbeats 4000000 in
theorem put_pool_old (g : Gh) (t : Nat) (key : ByteArray) (z : Int) (w : World) (h : PoolIs w g) (ht : t < g.sh.length) (hks : key.size ≤ maxLen) (hz : 1 ≤ z) (hz2 : z ≤ 9223372036854775807)
    (x : Ent) (hx : x ∈ g.L) (hxk : x.e.key = key) (hl : (Instr.lookup 77 (.map (some g.bm)) (.string key) true).run Tryz.prog (w.alloc (.cells #[ptr g.bp] 32)) = .ok (.tuple #[ptr x.b, .bool true]) (w.alloc (.cells #[ptr g.bp] 32))) :
    Calls Tryz.prog 12 #[ptr g.bp, .int .i64 t, .string key, .int .i64 z] w (PutPost g t key z w) := by
  have hd : decide ((t : Int) < 0) = false := by simp
  have hd2 : decide ((g.sh.length : Int) ≤ (t : Int)) = false := by simpa using ht
  have hd2' : decide (g.sh.length ≤ t) = false := by simpa using ht
  have hd3 : decide (z < 1) = false := by simpa using hz
  have h6 := h.c6
  have h8 := h.c8
  have hlt := blk_lt h6
  have m0 := mid0 w g h
  obtain ⟨X, Y, hL⟩ := List.append_of_mem hx
  have hkn := h.keys
  obtain ⟨T0, hT0⟩ : ∃ T0 : List Ent, T0 = [x] := ⟨_, rfl⟩
  obtain ⟨L0, hL0⟩ : ∃ L0 : List Ent, L0 = wo g.L key := ⟨_, rfl⟩
  have hL0' : L0 = X ++ Y := by rw [hL0, ← hxk, hL]; rw [Gh.es, hL] at hkn; exact wo_split hkn
  have H := Lib.hid h; clear h
  have HXK := Lib.hid hxk; clear hxk
  have HL0 := Lib.hid hL0; clear hL0
  have HL := Lib.hid hL; clear hL
  have HL0' := Lib.hid hL0'; clear hL0'
  have HM0 := Lib.hid m0; clear m0
  have HT0 := Lib.hid hT0; clear hT0
  have HKN := Lib.hid hkn; clear hkn
  refine (callsIn_wide (n := 0)).1 ?_
  refine callsIn_of_wp_marks Tryz.func12 rfl trivial ?_ rfl
  simp only [Tryz.ntmps12, List.size_toArray, List.length_cons, List.length_nil, Nat.reduceAdd, Nat.reduceSub, Array.replicate_succ, Array.replicate_zero, List.push_toArray, List.append_toArray, List.nil_append, List.cons_append]
  refine wpIn_wide.2 ?_
  go_wp2_with fail
  go_step3
  go_wp2_with fail
  refine (take_pool _ g X Y x (H.out.alloc _) HL.out).mono ?_
  rintro e W2 ⟨rfl, hp2, hk2⟩
  have m2 := HM0.out.take H.out HL.out hp2 hk2
  obtain ⟨v', w', happ, m3, _, g', c', hv'⟩ := (m2.alloc (.cells #[ptr x.b] 78)).app1 x W2.heap.size (Box.new W2 78 _).cell (by simp) 111
  have hpi : PI w g t z T0 L0 L0.length v' (.slice none 0 0) w' := by
    rw [HL0'.out, HT0.out]
    exact ⟨[], X ++ Y, rfl, rfl, m3⟩
  have HPI := Lib.hid hpi; clear hpi hp2 hk2 m2 m3
  have HV := Lib.hid hv'; clear hv'
  go_wp2_with (at_builtin; refine wpList_app rfl (.tmp 50) (.tmp 52) 111 rfl rfl rfl happ ?_)
  go_step3
  go_wp2_with fail
  clear happ
  go_loopg [10, 13] (L0.length) (fun k vt vo W => PI w g t z T0 L0 k vt vo W)
  case atStart => exact HPI.out
  case round =>
    obtain ⟨T, L, hk, hev, m⟩ := hrel
    have c0 := m.bx.cell
    have c9 : wr.cell? ⟨g.bp, 9, none⟩ = some (.int .i64 (g.cap - tot (esOf L))) := m.p.c9
    have HK := Lib.hid hk; clear hk
    have HE := Lib.hid hev; clear hev
    have HM := Lib.hid m; clear m
    by_cases hfr : g.cap - tot (esOf L) < z
    · go_wp2_with fail
      refine (victim_pool { g with L := L } t z wr HM.out.p ht hz hz2).mono ?_
      rintro e W1 ⟨(⟨X1, y, Y1, hL1, hX1, hy1, rfl⟩ | ⟨hnone, rfl⟩), hk1⟩
      · have m1 := HM.out.keep hk1
        have c01 := m1.bx.cell
        have HM1 := Lib.hid m1; clear m1 hk1
        have HL1 := Lib.hid hL1; clear hL1
        have HX1 := Lib.hid (And.intro hX1 hy1); clear hX1 hy1
        go_wp2_with fail
        refine (take_pool _ { g with L := L } X1 Y1 y HM1.out.p HL1.out).mono ?_
        rintro e W2 ⟨rfl, hp2, hk2⟩
        have m2 := HM1.out.take H.out HL1.out hp2 hk2
        have hln := HM1.out.lens H.out
        rw [List.length_reverse] at hln
        have hln2 : (T.map (fun x => x.e.key)).length ≤ 1000000 := by rw [List.length_append] at hln; rw [List.length_map]; omega
        have ck : W2.cell? ⟨y.b, 0, none⟩ = some (.string y.e.key) := by
          obtain ⟨X2, Y2, _, hk, _⟩ := m2.h
          exact hk.e.c0
        have hyb : y.b < w.heap.size := m2.hookb (by simp)
        have hvb : ∀ i, u10.ownBlock = some i → w.heap.size + 1 ≤ i ∧ i < W2.heap.size := fun i hi => m2.o1.lt i hi
        obtain ⟨c1, hc1⟩ : ∃ c1 : Obj, c1 = .cells #[ptr y.b] 78 := ⟨_, rfl⟩
        obtain ⟨c2, hc2⟩ : ∃ c2 : Obj, c2 = .cells #[.string y.e.key] 9 := ⟨_, rfl⟩
        have nC1 : (W2.alloc c1).cell? ⟨W2.heap.size, 0, none⟩ = some (ptr y.b) := by rw [hc1]; exact cell_new0 _ _ _
        have nC2 : (W2.alloc c2).cell? ⟨W2.heap.size, 0, none⟩ = some (.string y.e.key) := by rw [hc2]; exact cell_new0 _ _ _
        have nC12 : ((W2.alloc c1).alloc c2).cell? ⟨W2.heap.size + 1, 0, none⟩ = some (.string y.e.key) := by rw [hc2]; have := cell_new0 (W2.alloc c1) (.string y.e.key) 9; rwa [World.size_alloc] at this
        have nC21 : ((W2.alloc c2).alloc c1).cell? ⟨W2.heap.size + 1, 0, none⟩ = some (ptr y.b) := by rw [hc1]; have := cell_new0 (W2.alloc c2) (ptr y.b) 78; rwa [World.size_alloc] at this
        have oC12 : ((W2.alloc c1).alloc c2).cell? ⟨W2.heap.size, 0, none⟩ = some (ptr y.b) := ((Keep.refl (fun _ => False) _).alloc c2).cell nC1 (fun h => h)
        have oC21 : ((W2.alloc c2).alloc c1).cell? ⟨W2.heap.size, 0, none⟩ = some (.string y.e.key) := ((Keep.refl (fun _ => False) _).alloc c1).cell nC2 (fun h => h)
        obtain ⟨vA, wA, haA, mA, kA, gA, cA, hvA⟩ := (m2.alloc c1).drew.app1 y W2.heap.size nC1 hln 111
        obtain ⟨vA2, wA2, haA2, mA2, gA2, cA2, hvA2⟩ := (mA.alloc c2).app2 y.e.key wA.heap.size (by rw [hc2]; exact cell_new0 _ _ _) hln2 35
        obtain ⟨vB, wB, haB, mB, kB, gB, cB, hvB⟩ := ((m2.alloc c1).alloc c2).drew.app1 y W2.heap.size oC12 hln 111
        obtain ⟨vB2, wB2, haB2, mB2, gB2, cB2, hvB2⟩ := mB.app2 y.e.key (W2.heap.size + 1) (kB.cell nC12 (fun e => by have := hvb _ e; omega)) hln2 35
        obtain ⟨vC, wC, haC, mC, kC, gC, cC, hvC⟩ := ((m2.alloc c2).alloc c1).drew.app1 y (W2.heap.size + 1) nC21 hln 111
        obtain ⟨vC2, wC2, haC2, mC2, gC2, cC2, hvC2⟩ := mC.app2 y.e.key W2.heap.size (kC.cell oC21 (fun e => by have := hvb _ e; omega)) hln2 35
        have cka : (W2.alloc c1).cell? ⟨y.b, 0, none⟩ = some (.string y.e.key) := ((Keep.refl (fun _ => False) _).alloc c1).cell ck (fun h => h)
        have ckA : wA.cell? ⟨y.b, 0, none⟩ = some (.string y.e.key) := kA.cell cka (fun e => by have := hvb _ e; omega)
        have fA : PI w g t z T0 L0 (X1 ++ Y1).length vA vA2 wA2 := PI_step HE.out hfr HL1.out HX1.out mA2
        have fB : PI w g t z T0 L0 (X1 ++ Y1).length vB vB2 wB2 := PI_step HE.out hfr HL1.out HX1.out mB2
        have fC : PI w g t z T0 L0 (X1 ++ Y1).length vC vC2 wC2 := PI_step HE.out hfr HL1.out HX1.out mC2
        have hme : (X1 ++ Y1).length < gk := by rw [HK.out, HL1.out]; simp
        have HFA := Lib.hid fA; clear fA
        have HFB := Lib.hid fB; clear fB
        have HFC := Lib.hid fC; clear fC
        have HME := Lib.hid hme; clear hme
        clear mA mA2 mB mB2 mC mC2 kA kB kC m2 hp2 hk2 hvb nC1 nC2 nC12 nC21 oC12 oC21 hvA hvA2 hvB hvB2 hvC hvC2 hln hln2
        subst hc1
        subst hc2
        go_wp2_with fail
        have HAA := Lib.hid haA; have HAA2 := Lib.hid haA2; have HAB := Lib.hid haB; have HAB2 := Lib.hid haB2; have HAC := Lib.hid haC; have HAC2 := Lib.hid haC2
        clear haA haA2 haB haB2 haC haC2
        refine wp_onlyN ?_
        refine wp_region_any (by kernel_rfl) ?_
        change wpAny _ _ _ _ _ _ _ (World.drew _)
        refine wpAny_take (i := 0) (v := ?_) rfl (by kernel_rfl) (by kernel_rfl) (by kernel_rfl) (fun _ _ _ h => h) (Or.inl ⟨by rfl, ?_⟩) ?_
        rotate_left
        · intro w; go_simp; try (with_reducible rfl)
        refine wpAny_take (i := 1) (v := ?_) rfl (by kernel_rfl) (by kernel_rfl) (by kernel_rfl) (fun _ _ _ h => h) (Or.inl ⟨by rfl, ?_⟩) ?_
        rotate_left
        · intro w; go_simp; try (with_reducible rfl)
        refine wpAny_take (i := 4) (v := ?_) rfl (by kernel_rfl) (by kernel_rfl) (by kernel_rfl) (fun _ _ _ h => h) (Or.inl ⟨by rfl, ?_⟩) ?_
        rotate_left
        · intro w; go_simp; try (with_reducible rfl)
        refine wpAny_take (i := 5) (v := ?_) rfl (by kernel_rfl) (by kernel_rfl) (by kernel_rfl) (fun _ _ _ h => h) (Or.inl ⟨by rfl, ?_⟩) ?_
        rotate_left
        · intro w; go_simp; try (with_reducible rfl)
        refine wpAny_ready (rs := [2, 6]) (by kernel_rfl) (by simp) ?_
        refine AllReady.cons rfl (fun K hK => ?_) ?_
        · go_simp
          refine hK _ _ ?_; clear hK K
          refine wpAny_ready (rs := [3, 6]) (by kernel_rfl) (by simp) ?_
          refine AllReady.cons rfl (fun K hK => ?_) ?_
          · refine step_appP rfl (.tmp 69) (.tmp 71) 111 rfl (by simp [Act.eval]) (by simp [Act.eval]) HAA.out (hK _ _ ?_); clear hK K
            refine wpAny_ready (rs := [6]) (by kernel_rfl) (by simp) ?_
            refine AllReady.cons rfl (fun K hK => ?_) AllReady.nil
            go_simp
            refine hK _ _ ?_; clear hK K
            refine wpAny_take (i := 7) (v := ?_) rfl (by kernel_rfl) (by kernel_rfl) (by kernel_rfl) (fun _ _ _ h => h) (Or.inl ⟨by rfl, ?_⟩) ?_
            rotate_left
            · intro w; go_simp; try (with_reducible rfl)
            refine wpAny_ready (rs := [8]) (by kernel_rfl) (by simp) ?_
            refine AllReady.cons rfl (fun K hK => ?_) AllReady.nil
            go_simp
            refine hK _ _ ?_; clear hK K
            refine wpAny_ready (rs := [9]) (by kernel_rfl) (by simp) ?_
            refine AllReady.cons rfl (fun K hK => ?_) AllReady.nil
            go_simp
            refine hK _ _ ?_; clear hK K
            refine wpAny_ready (rs := [10]) (by kernel_rfl) (by simp) ?_
            refine AllReady.cons rfl (fun K hK => ?_) AllReady.nil
            refine step_appP rfl (.tmp 73) (.tmp 78) 35 rfl (by simp [Act.eval]) (by simp [Act.eval]) HAA2.out (hK _ _ ?_); clear hK K
            refine wpAny_ready (rs := [11]) (by kernel_rfl) (by simp) ?_
            refine AllReady.cons rfl (fun K hK => ?_) AllReady.nil
            go_simp
            refine hK _ _ ?_; clear hK K
            refine wpAny_ready (rs := [12]) (by kernel_rfl) (by simp) ?_
            refine AllReady.cons rfl (fun K hK => ?_) AllReady.nil
            go_simp
            refine hK _ _ ?_; clear hK K
            refine wpAny_done (by kernel_rfl) ?_ _
            refine onlyN_mk ?_
            go_wp2_with fail
            go_roundg ((X1 ++ Y1).length)
            case rel => exact HFA.out
            case measure => exact HME.out
          refine AllReady.cons rfl (fun K hK => ?_) AllReady.nil
          go_simp
          refine hK _ _ ?_; clear hK K
          refine wpAny_take (i := 7) (v := ?_) rfl (by kernel_rfl) (by kernel_rfl) (by kernel_rfl) (fun _ _ _ h => h) (Or.inl ⟨by rfl, ?_⟩) ?_
          rotate_left
          · intro w; go_simp; try (with_reducible rfl)
          refine wpAny_ready (rs := [3, 8]) (by kernel_rfl) (by simp) ?_
          refine AllReady.cons rfl (fun K hK => ?_) ?_
          · refine step_appP rfl (.tmp 69) (.tmp 71) 111 rfl (by simp [Act.eval, Act.put]) (by simp [Act.eval, Act.put]) HAA.out (hK _ _ ?_); clear hK K
            refine wpAny_ready (rs := [8]) (by kernel_rfl) (by simp) ?_
            refine AllReady.cons rfl (fun K hK => ?_) AllReady.nil
            go_simp
            refine hK _ _ ?_; clear hK K
            refine wpAny_ready (rs := [9]) (by kernel_rfl) (by simp) ?_
            refine AllReady.cons rfl (fun K hK => ?_) AllReady.nil
            go_simp
            refine hK _ _ ?_; clear hK K
            refine wpAny_ready (rs := [10]) (by kernel_rfl) (by simp) ?_
            refine AllReady.cons rfl (fun K hK => ?_) AllReady.nil
            refine step_appP rfl (.tmp 73) (.tmp 78) 35 rfl (by simp [Act.eval]) (by simp [Act.eval]) HAA2.out (hK _ _ ?_); clear hK K
            refine wpAny_ready (rs := [11]) (by kernel_rfl) (by simp) ?_
            refine AllReady.cons rfl (fun K hK => ?_) AllReady.nil
            go_simp
            refine hK _ _ ?_; clear hK K
            refine wpAny_ready (rs := [12]) (by kernel_rfl) (by simp) ?_
            refine AllReady.cons rfl (fun K hK => ?_) AllReady.nil
            go_simp
            refine hK _ _ ?_; clear hK K
            refine wpAny_done (by kernel_rfl) ?_ _
            refine onlyN_mk ?_
            go_wp2_with fail
            go_roundg ((X1 ++ Y1).length)
            case rel => exact HFA.out
            case measure => exact HME.out
          refine AllReady.cons rfl (fun K hK => ?_) AllReady.nil
          go_simp
          refine hK _ _ ?_; clear hK K
          refine wpAny_ready (rs := [3, 9]) (by kernel_rfl) (by simp) ?_
          refine AllReady.cons rfl (fun K hK => ?_) ?_
          · refine step_appP rfl (.tmp 69) (.tmp 71) 111 rfl (by simp [Act.eval]) (by simp [Act.eval]) HAA.out (hK _ _ ?_); clear hK K
            refine wpAny_ready (rs := [9]) (by kernel_rfl) (by simp) ?_
            refine AllReady.cons rfl (fun K hK => ?_) AllReady.nil
            go_simp
            refine hK _ _ ?_; clear hK K
            refine wpAny_ready (rs := [10]) (by kernel_rfl) (by simp) ?_
            refine AllReady.cons rfl (fun K hK => ?_) AllReady.nil
            refine step_appP rfl (.tmp 73) (.tmp 78) 35 rfl (by simp [Act.eval]) (by simp [Act.eval]) HAA2.out (hK _ _ ?_); clear hK K
            refine wpAny_ready (rs := [11]) (by kernel_rfl) (by simp) ?_
            refine AllReady.cons rfl (fun K hK => ?_) AllReady.nil
            go_simp
            refine hK _ _ ?_; clear hK K
            refine wpAny_ready (rs := [12]) (by kernel_rfl) (by simp) ?_
            refine AllReady.cons rfl (fun K hK => ?_) AllReady.nil
            go_simp
            refine hK _ _ ?_; clear hK K
            refine wpAny_done (by kernel_rfl) ?_ _
            refine onlyN_mk ?_
            go_wp2_with fail
            go_roundg ((X1 ++ Y1).length)
            case rel => exact HFA.out
            case measure => exact HME.out
          refine AllReady.cons rfl (fun K hK => ?_) AllReady.nil
          go_simp
          refine hK _ _ ?_; clear hK K
          refine wpAny_ready (rs := [3]) (by kernel_rfl) (by simp) ?_
          refine AllReady.cons rfl (fun K hK => ?_) AllReady.nil
          refine step_appP rfl (.tmp 69) (.tmp 71) 111 rfl (by simp [Act.eval]) (by simp [Act.eval]) HAB.out (hK _ _ ?_); clear hK K
          refine wpAny_ready (rs := [10]) (by kernel_rfl) (by simp) ?_
          refine AllReady.cons rfl (fun K hK => ?_) AllReady.nil
          refine step_appP rfl (.tmp 73) (.tmp 78) 35 rfl (by simp [Act.eval, Act.put]) (by simp [Act.eval, Act.put]) HAB2.out (hK _ _ ?_); clear hK K
          refine wpAny_ready (rs := [11]) (by kernel_rfl) (by simp) ?_
          refine AllReady.cons rfl (fun K hK => ?_) AllReady.nil
          go_simp
          refine hK _ _ ?_; clear hK K
          refine wpAny_ready (rs := [12]) (by kernel_rfl) (by simp) ?_
          refine AllReady.cons rfl (fun K hK => ?_) AllReady.nil
          go_simp
          refine hK _ _ ?_; clear hK K
          refine wpAny_done (by kernel_rfl) ?_ _
          refine onlyN_mk ?_
          go_wp2_with fail
          go_roundg ((X1 ++ Y1).length)
          case rel => exact HFB.out
          case measure => exact HME.out
        refine AllReady.cons rfl (fun K hK => ?_) AllReady.nil
        go_simp
        refine hK _ _ ?_; clear hK K
        refine wpAny_take (i := 7) (v := ?_) rfl (by kernel_rfl) (by kernel_rfl) (by kernel_rfl) (fun _ _ _ h => h) (Or.inl ⟨by rfl, ?_⟩) ?_
        rotate_left
        · intro w; go_simp; try (with_reducible rfl)
        refine wpAny_ready (rs := [2, 8]) (by kernel_rfl) (by simp) ?_
        refine AllReady.cons rfl (fun K hK => ?_) ?_
        · go_simp
          refine hK _ _ ?_; clear hK K
          refine wpAny_ready (rs := [3, 8]) (by kernel_rfl) (by simp) ?_
          refine AllReady.cons rfl (fun K hK => ?_) ?_
          · refine step_appP rfl (.tmp 69) (.tmp 71) 111 rfl (by simp [Act.eval]) (by simp [Act.eval]) HAA.out (hK _ _ ?_); clear hK K
            refine wpAny_ready (rs := [8]) (by kernel_rfl) (by simp) ?_
            refine AllReady.cons rfl (fun K hK => ?_) AllReady.nil
            go_simp
            refine hK _ _ ?_; clear hK K
            refine wpAny_ready (rs := [9]) (by kernel_rfl) (by simp) ?_
            refine AllReady.cons rfl (fun K hK => ?_) AllReady.nil
            go_simp
            refine hK _ _ ?_; clear hK K
            refine wpAny_ready (rs := [10]) (by kernel_rfl) (by simp) ?_
            refine AllReady.cons rfl (fun K hK => ?_) AllReady.nil
            refine step_appP rfl (.tmp 73) (.tmp 78) 35 rfl (by simp [Act.eval]) (by simp [Act.eval]) HAA2.out (hK _ _ ?_); clear hK K
            refine wpAny_ready (rs := [11]) (by kernel_rfl) (by simp) ?_
            refine AllReady.cons rfl (fun K hK => ?_) AllReady.nil
            go_simp
            refine hK _ _ ?_; clear hK K
            refine wpAny_ready (rs := [12]) (by kernel_rfl) (by simp) ?_
            refine AllReady.cons rfl (fun K hK => ?_) AllReady.nil
            go_simp
            refine hK _ _ ?_; clear hK K
            refine wpAny_done (by kernel_rfl) ?_ _
            refine onlyN_mk ?_
            go_wp2_with fail
            go_roundg ((X1 ++ Y1).length)
            case rel => exact HFA.out
            case measure => exact HME.out
          refine AllReady.cons rfl (fun K hK => ?_) AllReady.nil
          go_simp
          refine hK _ _ ?_; clear hK K
          refine wpAny_ready (rs := [3, 9]) (by kernel_rfl) (by simp) ?_
          refine AllReady.cons rfl (fun K hK => ?_) ?_
          · refine step_appP rfl (.tmp 69) (.tmp 71) 111 rfl (by simp [Act.eval]) (by simp [Act.eval]) HAA.out (hK _ _ ?_); clear hK K
            refine wpAny_ready (rs := [9]) (by kernel_rfl) (by simp) ?_
            refine AllReady.cons rfl (fun K hK => ?_) AllReady.nil
            go_simp
            refine hK _ _ ?_; clear hK K
            refine wpAny_ready (rs := [10]) (by kernel_rfl) (by simp) ?_
            refine AllReady.cons rfl (fun K hK => ?_) AllReady.nil
            refine step_appP rfl (.tmp 73) (.tmp 78) 35 rfl (by simp [Act.eval]) (by simp [Act.eval]) HAA2.out (hK _ _ ?_); clear hK K
            refine wpAny_ready (rs := [11]) (by kernel_rfl) (by simp) ?_
            refine AllReady.cons rfl (fun K hK => ?_) AllReady.nil
            go_simp
            refine hK _ _ ?_; clear hK K
            refine wpAny_ready (rs := [12]) (by kernel_rfl) (by simp) ?_
            refine AllReady.cons rfl (fun K hK => ?_) AllReady.nil
            go_simp
            refine hK _ _ ?_; clear hK K
            refine wpAny_done (by kernel_rfl) ?_ _
            refine onlyN_mk ?_
            go_wp2_with fail
            go_roundg ((X1 ++ Y1).length)
            case rel => exact HFA.out
            case measure => exact HME.out
          refine AllReady.cons rfl (fun K hK => ?_) AllReady.nil
          go_simp
          refine hK _ _ ?_; clear hK K
          refine wpAny_ready (rs := [3]) (by kernel_rfl) (by simp) ?_
          refine AllReady.cons rfl (fun K hK => ?_) AllReady.nil
          refine step_appP rfl (.tmp 69) (.tmp 71) 111 rfl (by simp [Act.eval]) (by simp [Act.eval]) HAB.out (hK _ _ ?_); clear hK K
          refine wpAny_ready (rs := [10]) (by kernel_rfl) (by simp) ?_
          refine AllReady.cons rfl (fun K hK => ?_) AllReady.nil
          refine step_appP rfl (.tmp 73) (.tmp 78) 35 rfl (by simp [Act.eval, Act.put]) (by simp [Act.eval, Act.put]) HAB2.out (hK _ _ ?_); clear hK K
          refine wpAny_ready (rs := [11]) (by kernel_rfl) (by simp) ?_
          refine AllReady.cons rfl (fun K hK => ?_) AllReady.nil
          go_simp
          refine hK _ _ ?_; clear hK K
          refine wpAny_ready (rs := [12]) (by kernel_rfl) (by simp) ?_
          refine AllReady.cons rfl (fun K hK => ?_) AllReady.nil
          go_simp
          refine hK _ _ ?_; clear hK K
          refine wpAny_done (by kernel_rfl) ?_ _
          refine onlyN_mk ?_
          go_wp2_with fail
          go_roundg ((X1 ++ Y1).length)
          case rel => exact HFB.out
          case measure => exact HME.out
        refine AllReady.cons rfl (fun K hK => ?_) AllReady.nil
        go_simp
        refine hK _ _ ?_; clear hK K
        refine wpAny_ready (rs := [2, 9]) (by kernel_rfl) (by simp) ?_
        refine AllReady.cons rfl (fun K hK => ?_) ?_
        · go_simp
          refine hK _ _ ?_; clear hK K
          refine wpAny_ready (rs := [3, 9]) (by kernel_rfl) (by simp) ?_
          refine AllReady.cons rfl (fun K hK => ?_) ?_
          · refine step_appP rfl (.tmp 69) (.tmp 71) 111 rfl (by simp [Act.eval]) (by simp [Act.eval]) HAA.out (hK _ _ ?_); clear hK K
            refine wpAny_ready (rs := [9]) (by kernel_rfl) (by simp) ?_
            refine AllReady.cons rfl (fun K hK => ?_) AllReady.nil
            go_simp
            refine hK _ _ ?_; clear hK K
            refine wpAny_ready (rs := [10]) (by kernel_rfl) (by simp) ?_
            refine AllReady.cons rfl (fun K hK => ?_) AllReady.nil
            refine step_appP rfl (.tmp 73) (.tmp 78) 35 rfl (by simp [Act.eval]) (by simp [Act.eval]) HAA2.out (hK _ _ ?_); clear hK K
            refine wpAny_ready (rs := [11]) (by kernel_rfl) (by simp) ?_
            refine AllReady.cons rfl (fun K hK => ?_) AllReady.nil
            go_simp
            refine hK _ _ ?_; clear hK K
            refine wpAny_ready (rs := [12]) (by kernel_rfl) (by simp) ?_
            refine AllReady.cons rfl (fun K hK => ?_) AllReady.nil
            go_simp
            refine hK _ _ ?_; clear hK K
            refine wpAny_done (by kernel_rfl) ?_ _
            refine onlyN_mk ?_
            go_wp2_with fail
            go_roundg ((X1 ++ Y1).length)
            case rel => exact HFA.out
            case measure => exact HME.out
          refine AllReady.cons rfl (fun K hK => ?_) AllReady.nil
          go_simp
          refine hK _ _ ?_; clear hK K
          refine wpAny_ready (rs := [3]) (by kernel_rfl) (by simp) ?_
          refine AllReady.cons rfl (fun K hK => ?_) AllReady.nil
          refine step_appP rfl (.tmp 69) (.tmp 71) 111 rfl (by simp [Act.eval]) (by simp [Act.eval]) HAB.out (hK _ _ ?_); clear hK K
          refine wpAny_ready (rs := [10]) (by kernel_rfl) (by simp) ?_
          refine AllReady.cons rfl (fun K hK => ?_) AllReady.nil
          refine step_appP rfl (.tmp 73) (.tmp 78) 35 rfl (by simp [Act.eval, Act.put]) (by simp [Act.eval, Act.put]) HAB2.out (hK _ _ ?_); clear hK K
          refine wpAny_ready (rs := [11]) (by kernel_rfl) (by simp) ?_
          refine AllReady.cons rfl (fun K hK => ?_) AllReady.nil
          go_simp
          refine hK _ _ ?_; clear hK K
          refine wpAny_ready (rs := [12]) (by kernel_rfl) (by simp) ?_
          refine AllReady.cons rfl (fun K hK => ?_) AllReady.nil
          go_simp
          refine hK _ _ ?_; clear hK K
          refine wpAny_done (by kernel_rfl) ?_ _
          refine onlyN_mk ?_
          go_wp2_with fail
          go_roundg ((X1 ++ Y1).length)
          case rel => exact HFB.out
          case measure => exact HME.out
        refine AllReady.cons rfl (fun K hK => ?_) AllReady.nil
        go_simp
        refine hK _ _ ?_; clear hK K
        refine wpAny_ready (rs := [2]) (by kernel_rfl) (by simp) ?_
        refine AllReady.cons rfl (fun K hK => ?_) AllReady.nil
        go_simp
        refine hK _ _ ?_; clear hK K
        refine wpAny_ready (rs := [3]) (by kernel_rfl) (by simp) ?_
        refine AllReady.cons rfl (fun K hK => ?_) AllReady.nil
        refine step_appP rfl (.tmp 69) (.tmp 71) 111 rfl (by simp [Act.eval]) (by simp [Act.eval]) HAC.out (hK _ _ ?_); clear hK K
        refine wpAny_ready (rs := [10]) (by kernel_rfl) (by simp) ?_
        refine AllReady.cons rfl (fun K hK => ?_) AllReady.nil
        refine step_appP rfl (.tmp 73) (.tmp 78) 35 rfl (by simp [Act.eval, Act.put]) (by simp [Act.eval, Act.put]) HAC2.out (hK _ _ ?_); clear hK K
        refine wpAny_ready (rs := [11]) (by kernel_rfl) (by simp) ?_
        refine AllReady.cons rfl (fun K hK => ?_) AllReady.nil
        go_simp
        refine hK _ _ ?_; clear hK K
        refine wpAny_ready (rs := [12]) (by kernel_rfl) (by simp) ?_
        refine AllReady.cons rfl (fun K hK => ?_) AllReady.nil
        go_simp
        refine hK _ _ ?_; clear hK K
        refine wpAny_done (by kernel_rfl) ?_ _
        refine onlyN_mk ?_
        go_wp2_with fail
        go_roundg ((X1 ++ Y1).length)
        case rel => exact HFC.out
        case measure => exact HME.out

      · have m1 := HM.out.keep hk1
        have c01 := m1.bx.cell
        have c91 : W1.cell? ⟨g.bp, 9, none⟩ = some (.int .i64 (g.cap - tot (esOf L))) := m1.p.c9
        have HM1 := Lib.hid m1; clear m1 hk1
        have HNO := Lib.hid hnone; clear hnone
        have hvs : u10 = .slice none 0 0 ∨ ∃ b n c, u10 = .slice (some ⟨b, 0, none⟩) n c := by
          rcases HM1.out.o1.2 with ⟨rfl, _⟩ | ⟨g', cap, cur, rfl, _⟩
          · exact .inl rfl
          · exact .inr ⟨_, _, _, rfl⟩
        rcases hvs with rfl | ⟨bt, n, cc, rfl⟩
        · have hTT : T0 ++ T = [] := by
            rcases HM1.out.o1.2 with ⟨_, hx⟩ | ⟨g', cap, cur, hx, _⟩
            · simpa using hx
            · cases hx
          go_wp2_with fail
          refine (backward_any _ W1 _ _ _ rfl).mono ?_
          rintro e w' ⟨rfl, rfl⟩
          have hm2 := HM1.out.alloc (.cells #[.slice none 0 0] 111)
          have hbx := Box.new W1 111 (.slice none 0 0)
          have hW1 := HM1.out.sz
          have hsz : (W1.alloc (.cells #[.slice none 0 0] 111)).heap.size = W1.heap.size + 1 := by simp
          generalize W1.alloc (.cells #[.slice none 0 0] 111) = W3 at hm2 hbx hsz ⊢
          have HSZ := Lib.hid hsz; clear hsz
          have HTT := Lib.hid hTT; clear hTT
          have HM2 := Lib.hid hm2; clear hm2
          have HBX := Lib.hid hbx; clear hbx
          go_wp2_with fail
          refine (wpIn_wide (n := 0)).1 ?_
          refine range_list (gf := 78) (lb := #[.pointer (some ⟨W1.heap.size, 0, none⟩)]) rfl (enters_of Tryz.func78 (by kernel_rfl) rfl) (back1_nil W1.heap.size 0 none) (fun _ h => absurd h (Nat.not_lt_zero _))
            (UI w g (T0 ++ T).reverse (T0 ++ T) (T.map (fun x => x.e.key)) (.slice none 0 0) u13 W1.heap.size) (fun _ _ _ => False)
            (UI_own _ _ _ _ _ _ _ _ _ (by rw [HSZ.out]; omega) (by rw [HSZ.out]; omega)) (fun _ _ _ _ _ h _ _ => h)
            (fun i V h => by obtain ⟨L, m, hb⟩ := h; exact hb.cell) ⟨L, by rw [List.drop_zero]; exact HM2.out, HBX.out⟩ (fun _ => ⟨#[], []⟩)
            (fun _ _ _ _ h _ => absurd h (Nat.not_lt_zero _)) (fun _ _ _ h _ _ => absurd h (Nat.not_lt_zero _)) ?done (fun _ _ _ _ _ h _ _ => absurd h (Nat.not_lt_zero _))
          case done =>
            rintro D V hD ⟨L', m, hb⟩ hK
            rw [List.drop_zero, HTT.out] at m
            have hL' : L' = g.L := m.h
            subst hL'
            have hfin : PutNo g t key z w (.returned (.tuple #[.slice none 0 0, .bool false])) (V.putObj D (.deferred none)) := by
              have kk : Keep (fun k => k = D) V (V.putObj D (.deferred none)) := (Keep.refl (fun k => k = D) V).putObj _ (.inl rfl)
              refine ⟨T, L, by rw [← HL0.out]; exact HE.out, hfr, HNO.out, rfl, ?_, ?_⟩
              · exact m.p.keep kk (fun i hi e => by have := m.foot hi; rw [HSZ.out] at hD; omega)
              · exact m.k.trans' kk (fun i e => .inr (by rw [HSZ.out] at hD; omega))
            have HFIN := Lib.hid hfin; clear hfin m hb
            have HKK := Lib.hid hK; clear hK
            have HDD := Lib.hid hD; clear hD
            go_wp2_with fail
            rw [Exit.noGoto_ret]
            refine ⟨by simp, .inl ⟨_, _, rfl, run_takeDeferred HKK.out, ?_⟩⟩
            exact ⟨.tuple #[.slice none 0 0, .bool false], by simp [results, Tryz.f12, go_sem], .inr HFIN.out⟩
        · go_wp2_with fail
          refine (backward_any _ W1 _ _ _ rfl).mono ?_
          rintro e w' ⟨rfl, rfl⟩
          have hm2 := HM1.out.alloc (.cells #[.slice (some ⟨bt, 0, none⟩) n cc] 111)
          have hbx := Box.new W1 111 (.slice (some ⟨bt, 0, none⟩) n cc)
          have hln := HM1.out.lens H.out
          rw [List.length_reverse] at hln
          obtain ⟨hnn, hrd⟩ := owns_reads hm2.o1 hbx
          have hW1 := HM1.out.sz
          have hsz : (W1.alloc (.cells #[.slice (some ⟨bt, 0, none⟩) n cc] 111)).heap.size = W1.heap.size + 1 := by simp
          generalize W1.alloc (.cells #[.slice (some ⟨bt, 0, none⟩) n cc] 111) = W3 at hm2 hbx hrd hsz ⊢
          have HSZ := Lib.hid hsz; clear hsz
          have HRD := Lib.hid hrd; clear hrd
          have HNN := Lib.hid hnn; clear hnn
          have HM2 := Lib.hid hm2; clear hm2
          have HBX := Lib.hid hbx; clear hbx
          obtain ⟨xs, hxs⟩ : ∃ xs, xs = (T0 ++ T).map Ent.b := ⟨_, rfl⟩
          have hxl : xs.length = (T0 ++ T).length := by rw [hxs, List.length_map]
          have HXS := Lib.hid hxs; clear hxs
          have HXL := Lib.hid hxl; clear hxl
          go_wp2_with fail
          refine (wpIn_wide (n := 0)).1 ?_
          refine range_list (gf := 78) (lb := #[.pointer (some ⟨W1.heap.size, 0, none⟩)]) rfl (enters_of Tryz.func78 (by kernel_rfl) rfl) (back1_iter' W1.heap.size bt cc xs (by rw [HXL.out]; omega)) (fun _ _ => rfl)
            (UI w g (T0 ++ T).reverse (T0 ++ T) (T.map (fun x => x.e.key)) (.slice (some ⟨bt, 0, none⟩) n cc) u13 W1.heap.size) (fun _ _ _ => False)
            (UI_own _ _ _ _ _ _ _ _ _ (by rw [HSZ.out]; omega) (by rw [HSZ.out]; omega)) (fun _ _ _ _ _ h _ _ => h)
            (fun i V h => by obtain ⟨L, m, hb⟩ := h; rw [HXS.out]; exact (owns_reads m.o1 hb).2) ⟨L, by rw [List.drop_zero]; exact HM2.out, HBX.out⟩ ?a1 ?assign ?body ?done ?stop
          case assign =>
            intro l i V K hi hK
            gi_wp2
            exact hK
          case body =>
            rintro l i V hi ⟨L', m, hb⟩ hs
            have hil : i < (T0 ++ T).length := by rw [← HXL.out]; exact hi
            obtain ⟨x', hdr, hgd⟩ := rev_getD (T0 ++ T) i hil
            rw [hdr] at m
            obtain ⟨Xb, Yb, rfl, hkb, hhb⟩ := m.h
            obtain ⟨q1, q2, q3, q4, q5, q6, q7, q8, q9⟩ := m.can H.out
            have hcall := back_pool V { g with L := Xb ++ Yb } Xb Yb x' m.p rfl hkb q1 q2 q3 q4 q5 q6 q7 q8 q9
            have hgd' : revAt xs i = x'.b := by rw [HXS.out]; exact hgd
            rw [hgd']
            clear hgd'
            have c4 := m.bx.cell
            have HC := Lib.hid hcall; clear hcall
            have HMb := Lib.hid m; clear m
            have HH := Lib.hid hhb; clear hhb
            have HB := Lib.hid hb; clear hb
            have HDR := Lib.hid hdr; clear hdr hgd hkb q1 q2 q3 q4 q5 q6 q7 q8 q9
            have HSS := Lib.hid hs; clear hs
            gi_wp2_with fail
            refine ⟨trivial, rfl, ((callsIn_wide.2 HC.out).inRound l).mono ?_⟩
            rintro e V' ⟨rfl, hp', hk'⟩
            have m' := HMb.out.back H.out HH.out hp' hk'
            have hlow : ∀ i, Gh.foot { g with L := Xb ++ Yb } i → i < w.heap.size := fun i hi => HMb.out.foot hi
            have hb' := HB.out.keep hk' (fun h => by have := hlow _ h; omega)
            have hkf : KeepsFrom W3.heap.size V V' := ⟨hk'.size, fun k o hB hk _ => hk'.heap hk (fun h => by have := hlow _ h; rw [HSZ.out] at hB; omega)⟩
            have FIN : Hid (roundL W3.heap.size (UI w g (T0 ++ T).reverse (T0 ++ T) (T.map (fun x => x.e.key)) (.slice (some ⟨bt, 0, none⟩) n cc) u13 W1.heap.size) (fun _ _ _ => False) i V .normal ⟨#[], []⟩ V') := ⟨hkf, _, m', hb'⟩
            clear m' hb' hkf hp' hk' hlow
            gi_wp2_with fail
            exact FIN.out
          case done =>
            rintro D V hD ⟨L', m, hb⟩ hK
            have hdr : (T0 ++ T).reverse.drop xs.length = [] := List.drop_eq_nil_of_le (by rw [HXL.out, List.length_reverse]; exact Nat.le_refl _)
            rw [hdr] at m
            have hL' : L' = g.L := m.h
            subst hL'
            have hfin : PutNo g t key z w (.returned (.tuple #[.slice none 0 0, .bool false])) (V.putObj D (.deferred none)) := by
              have kk : Keep (fun k => k = D) V (V.putObj D (.deferred none)) := (Keep.refl (fun k => k = D) V).putObj _ (.inl rfl)
              refine ⟨T, L, by rw [← HL0.out]; exact HE.out, hfr, HNO.out, rfl, ?_, ?_⟩
              · exact m.p.keep kk (fun i hi e => by have := m.foot hi; rw [HSZ.out] at hD; omega)
              · exact m.k.trans' kk (fun i e => .inr (by rw [HSZ.out] at hD; omega))
            have HFIN := Lib.hid hfin; clear hfin m hb
            have HKK := Lib.hid hK; clear hK hdr
            have HDD := Lib.hid hD; clear hD
            go_wp2_with fail
            rw [Exit.noGoto_ret]
            refine ⟨by simp, .inl ⟨_, _, rfl, run_takeDeferred HKK.out, ?_⟩⟩
            exact ⟨.tuple #[.slice none 0 0, .bool false], by simp [results, Tryz.f12, go_sem], .inr HFIN.out⟩
          case stop =>
            rintro D c i V hD hi h hK
            exact h.elim
    · have hfit : z ≤ g.cap - tot (esOf L) := by omega
      have hkn : key ∉ (esOf L).map E.key := by
        intro hm
        obtain ⟨e, he, hek⟩ := List.mem_map.1 hm
        obtain ⟨u, hu, rfl⟩ := List.mem_map.1 he
        have := Ev.sub HE.out u hu
        rw [HL0.out, wo, List.mem_filter] at this
        exact absurd hek (by simpa using this.2)
      obtain ⟨⟨f1, f2, f3, ⟨vl, f4⟩, f5, f6, f7, f8, f9, f10⟩, ⟨fm, fr⟩, hend⟩ := PoolIs.fresh (g := { g with L := L }) HM.out.p key t z ht hks hz hkn hfit
      have c0a : ∀ o, (wr.alloc o).cell? ⟨w.heap.size, 0, none⟩ = some (ptr g.bp) := fun o => (HM.out.bx.alloc o).cell
      have HFM := Lib.hid (And.intro fm fr); clear fm fr
      have HEND := Lib.hid hend; clear hend
      have HKN := Lib.hid hkn; clear hkn
      have HFIT := Lib.hid hfit; clear hfit
      have hwl : w.heap.size < wr.heap.size := HM.out.bx.lt
      go_wp2_with fail
      refine (insert_any wr.heap.size g.bp _ _ _ vl _ f9 f10 f1 f2 f3 f4 f5 f6 f7 f8).mono ?_
      rintro e w2 ⟨rfl, hw2⟩
      have fm : w2.cell? ⟨g.bp, 8, none⟩ = some (.map (some g.bm)) := by rw [hw2]; exact HFM.out.1
      have fr : MapRel Tryz.prog 9 w2 g.bm (fun k v => ∃ x ∈ L, k = .string x.e.key ∧ v = ptr x.b) := by rw [hw2]; exact HFM.out.2
      have hlb : lastB g.bp L < w.heap.size := (lastB_mem g.bp L).elim (fun e => by rw [e]; exact hlt) (fun e => HM.out.foot (.inr (.inr (.inr (.inr e)))))
      have hbm : g.bm < w.heap.size := HM.out.foot (i := g.bm) (.inr (.inr (.inr (.inl rfl))))
      have kx : Keep (fun i => i = wr.heap.size ∨ i = lastB g.bp L ∨ i = g.bp) (wr.alloc (newO key t z)) w2 := by
        rw [hw2]
        exact ((((Keep.refl (fun i => i = wr.heap.size ∨ i = lastB g.bp L ∨ i = g.bp) _).setCell (p := ⟨wr.heap.size, 3, none⟩) _ (.inl (.inl rfl))).setCell (p := ⟨wr.heap.size, 4, none⟩) _ (.inl (.inl rfl))).setCell (p := ⟨lastB g.bp L, 4, none⟩) _ (.inl (.inr (.inl rfl)))).setCell (p := ⟨g.bp, 3, none⟩) _ (.inl (.inr (.inr rfl)))
      have hbx2 : Box w2 w.heap.size (ptr g.bp) := (HM.out.bx.alloc (newO key t z)).keep kx (by omega)
      have c02 := hbx2.cell
      obtain ⟨es', ck', hupd, hm3⟩ := fr.update (t := 77) (et := 78) strKeyed Tryz.underlying77 (keyStr hks) (.pointer (some ⟨wr.heap.size, 0, none⟩))
      have c03 : (w2.putObj g.bm (.map es' ck')).cell? ⟨w.heap.size, 0, none⟩ = some (ptr g.bp) := (cell_put (by omega)).trans c02
      have hend := HEND.out (.map es' ck') (by rw [hw2] at hm3; exact hm3)
      rw [← hw2] at hend
      obtain ⟨r7, r9, rf9, r1, r2, ru, rfu, rpu, rxu, hfin⟩ := hend
      have HFIN := Lib.hid hfin; clear hfin hw2
      have hub : 0 ≤ usedOf (esOf L) t ∧ usedOf (esOf L) t ≤ 1000000 := HM.out.p.used_bd t
      have hbd : tot (esOf L) ≤ g.cap := HM.out.p.le
      have hcp : g.cap ≤ 1000000 := HM.out.p.cap
      have htn : 0 ≤ tot (esOf L) := tot_nonneg _ (fun y hy => (HM.out.p.rng y hy).2)
      have HUB := Lib.hid (And.intro hub (And.intro hbd (And.intro hcp htn))); clear hub hbd hcp htn
      clear f1 f2 f3 f4 f5 f6 f7 f8 f9 f10 c0a kx hbx2 fr hm3
      go_wp2_with fail
      obtain ⟨w3, hw3⟩ : ∃ w3, w3 = w2.putObj g.bm (.map es' ck') := ⟨_, rfl⟩
      rw [← hw3] at r7 r9 rf9 r1 r2 ru rfu c03 ⊢
      have HW3 := Lib.hid hw3; clear hw3 hupd
      refine (count_any g.bp wr.heap.size g.bu g.sh.length g.uc t (usedOf (esOf L) t) (g.cap - tot (esOf L)) z 1 z (usedOf (esOf L) t + z) (g.cap - tot (esOf L) - z) w3 ht r7 r9 rf9 r1 r2 ru rfu rpu rxu
        (by have h1 := HUB.out; have h2 := HFIT.out; rw [wrap_in (by omega) (by omega)]; omega) (by have h1 := HUB.out; have h2 := HFIT.out; rw [wrap_in (by omega) (by omega)]) (by have h1 := HUB.out; have h2 := HFIT.out; rw [wrap_in (by omega) (by omega)])).mono ?_
      rintro e w4 ⟨rfl, k4, hw4⟩
      obtain ⟨hp4, hk4⟩ := HFIN.out k4
      rw [← HW3.out, ← hw4] at hp4 hk4
      have hok := put_done HM.out (by rw [← HL0.out]; exact HE.out) HFIT.out hp4 hk4
      have HOK := Lib.hid hok; clear hok hp4 hk4 hw4
      go_wp2_with fail
      rw [Exit.noGoto_ret]
      exact ⟨.tuple #[u13, .bool true], by simp [results, Tryz.f12, go_sem], .inl HOK.out⟩

end Go.Proofs.YtcnpncndecjahaaGreatDoor.Mem

/-
  Put over a pool.
-/
namespace Go.Proofs.YtcnpncndecjahaaGreatDoor.Mem
open Go.RowKit Go.Shelf

theorem put_pool (g : Gh) (t : Nat) (key : ByteArray) (z : Int) (w : World) (h : PoolIs w g) (ht : t < g.sh.length) (hks : key.size ≤ maxLen) (hz : 1 ≤ z) (hz2 : z ≤ 9223372036854775807) :
    Calls Tryz.prog 12 #[ptr g.bp, .int .i64 t, .string key, .int .i64 z] w (PutPost g t key z w) := by
  rcases (h.alloc (.cells #[ptr g.bp] 32)).look hks with ⟨hn, hl⟩ | ⟨x, hx, hxk, hl⟩
  · exact put_pool_new g t key z w h ht hks hz hz2 hn hl
  · exact put_pool_old g t key z w h ht hks hz hz2 x hx hxk hl
end Go.Proofs.YtcnpncndecjahaaGreatDoor.Mem

/-
  slices.Clone, begin, New.
-/
namespace Go.Proofs.YtcnpncndecjahaaGreatDoor.Mem
open Go.RowKit Go.Shelf

abbrev ints (xs : List Int) : List Value := xs.map (Value.int .i64)

/-- A slice's cells, as integers. -/
def IntsAt (w : World) (b off : Nat) (xs : List Int) : Prop := ∀ (j : Nat) (x : Int), xs[j]? = some x → w.cell? ⟨b, off + j, none⟩ = some (.int .i64 x)

theorem IntsAt.cells {w : World} {b off : Nat} {xs : List Int} (h : IntsAt w b off xs) : ∀ j u, (ints xs)[j]? = some u → w.cell? ((⟨b, off, none⟩ : Addr).add j) = some u := by
  intro j u hj
  rw [List.getElem?_map] at hj
  cases e : xs[j]? with
  | none => rw [e] at hj; cases hj
  | some x => rw [e] at hj; cases hj; rw [Addr.add_lit]; exact h j x e

set_option maxHeartbeats 400000 in
theorem clone_any (b off n c : Nat) (xs : List Int) (w : World) (hn : xs.length = n) (hn2 : n ≤ 1000000) (hc : IntsAt w b off xs) :
    Calls Tryz.prog 27 #[.slice (some ⟨b, off, none⟩) n c] w fun e w' => ∃ g' c', e = .returned (.slice (some ⟨g', 0, none⟩) n c') ∧ w'.ownsRow w.heap.size 3 1 (.slice (some ⟨g', 0, none⟩) n c') n (ints xs) ∧ Keep (fun _ => False) w w' := by
  obtain ⟨i0, hi, hz0, hz1, hz2⟩ := info_parts info3
  obtain ⟨v', w', h1, h2, h3, h4, h5⟩ := run_append_own_at (P := Tryz.prog) (w.alloc (.cells #[] 3)) w.heap.size 24 24 3 i0 (.int .i64 0) 1 8 Tryz.underlying24 hi hz0 hz1 hz2 rfl (by decide) (.slice (some ⟨w.heap.size, 0, none⟩) 0 0) 0 []
    (World.ownsRow_made w #[] 0 (Nat.le_refl _) (by unfold maxLen; omega) rfl) ⟨b, off, none⟩ n c (ints xs) (by simp [hn])
    (fun j u hj => by
      have hw := hc.cells j u hj
      have hb := World.block_lt_of_cell? _ _ hw
      rw [World.cell?_alloc_lt _ _ _ hb]; exact hw) (by simp [Value.oneCell']) (by unfold maxLen; omega) (by omega) (by simp)
  have HV : Hid (∃ g' c', Ending.returned v' = .returned (.slice (some ⟨g', 0, none⟩) n c') ∧ w'.ownsRow w.heap.size 3 1 (.slice (some ⟨g', 0, none⟩) n c') n (ints xs) ∧ Keep (fun _ => False) w w') := by
    have hk := ((Keep.refl (fun _ => False) w).alloc (.cells #[] 3)).trans' (Keep.of_grown h3) (fun i e => .inr (by cases e; exact Nat.le_refl _))
    rw [Nat.zero_add, List.nil_append] at h2
    rcases h2.2 with ⟨e, _⟩ | ⟨g', cap, cur, e, r⟩
    · have := (h4.1 e).1; cases this
    · exact ⟨g', cap, by rw [e], by rw [← e]; exact h2, hk⟩
  clear h2 h3 h4 h5 hi hz0 hz1 hz2 hc
  have heq : (binOp .eql 24 (.slice (some ⟨b, off, none⟩) n c) (.slice none 0 0)).run Tryz.prog w = .ok (.bool false) w := by
    simp only [binOp]
    simp [Op.equal, Op.maxDepth, Lib.run_equalIn_slice_nil w 9999 24 3 (some ⟨b, off, none⟩) n c 0 0 Tryz.underlying24]
  go_enter Tryz.func27, Tryz.ntmps27
  go_wp2_with (at_builtin; refine wpList_app rfl (.tmp 5) (.tmp 6) 24 rfl rfl rfl h1 ?_)
  go_ret
  exact HV.out

set_option maxHeartbeats 400000 in
theorem order_begin (p : Nat) (v3 v4 : Value) (w : World) (h3 : w.cell? ⟨p, 3, none⟩ = some v3) (h4 : w.cell? ⟨p, 4, none⟩ = some v4) (f3 : w.frozen? ⟨p, 3, none⟩ = false) (f4 : w.frozen? ⟨p, 4, none⟩ = false) :
    Calls Tryz.prog 28 #[ptr p] w fun e w' => e = .returned (.tuple #[]) ∧ ∃ k, w' = ((w.setCell ⟨p, 3, none⟩ (ptr p)).setCell ⟨p, 4, none⟩ (ptr p)).drewN k := by
  go_enter Tryz.func28, Tryz.ntmps28
  go_region
  all_goals (go_end0; exact ⟨rfl, 1, rfl⟩)

set_option maxRecDepth 100000 in
set_option maxHeartbeats 400000 in
theorem new_cap (cap : Int) (v : Value) (a : Option Addr) (n c : Nat) (w : World) (hv : v = .slice a n c) (h : cap < 1 ∨ 1000000 < cap ∨ n < 1 ∨ 8 < n) :
    Calls Tryz.prog 7 #[.int .i64 cap, v] w fun e w' => e = .returned (.tuple #[.pointer none, .int .i64 170]) ∧ w = w' := by
  subst hv
  by_cases h1 : cap < 1
  · have hd1 : decide (cap < 1) = true := by simpa using h1
    go_enter Tryz.func7, Tryz.ntmps7
    go_wp2
    go_ret2
    exact ⟨rfl, rfl⟩
  · have hd1 : decide (cap < 1) = false := by simpa using h1
    by_cases h2 : 1000000 < cap
    · have hd2 : decide (1000000 < cap) = true := by simpa using h2
      go_enter Tryz.func7, Tryz.ntmps7
      go_wp2
      go_ret2
      exact ⟨rfl, rfl⟩
    · have hd2 : decide (1000000 < cap) = false := by simpa using h2
      by_cases h3 : n < 1
      · have hd3 : decide ((n : Int) < 1) = true := by simp; omega
        go_enter Tryz.func7, Tryz.ntmps7
        go_wp2
        go_ret2
        exact ⟨rfl, rfl⟩
      · have hd3 : decide ((n : Int) < 1) = false := by simp; omega
        have h4 : 8 < n := by omega
        have hd4 : decide (8 < (n : Int)) = true := by simp; omega
        go_enter Tryz.func7, Tryz.ntmps7
        go_wp2
        go_ret2
        exact ⟨rfl, rfl⟩

/-- Are these shares? -/
def sharesOk (left : Int) : List Int → Bool
  | [] => true
  | x :: r => decide (0 ≤ x) && decide (x ≤ left) && sharesOk (left - x) r

theorem sharesOk_step {left x : Int} {r : List Int} (h0 : 0 ≤ x) (h1 : x ≤ left) : sharesOk left (x :: r) = sharesOk (left - x) r := by simp [sharesOk, h0, h1]
theorem sharesOk_no {left x : Int} {r : List Int} (h : x < 0 ∨ left < x) : sharesOk left (x :: r) = false := by
  simp only [sharesOk]
  rcases h with h | h
  · rw [decide_eq_false (by omega)]; rfl
  · rw [decide_eq_false (p := x ≤ left) (by omega), Bool.and_false]; rfl

def NewPost (cap : Int) (xs : List Int) (w : World) (e : Ending) (w' : World) : Prop :=
  (sharesOk cap xs = false ∧ e = .returned (.tuple #[.pointer none, .int .i64 170]) ∧ w = w') ∨
  (sharesOk cap xs = true ∧ ∃ g : Gh, e = .returned (.tuple #[ptr g.bp, .int .i64 0]) ∧ PoolIs w' g ∧ g.cap = cap ∧ g.sh = xs ∧ g.L = [] ∧ Keep (fun _ => False) w w' ∧ ∀ i, g.foot i → w.heap.size ≤ i)

theorem IntsAt.keep {w w' : World} {b off : Nat} {xs : List Int} {A : Nat → Prop} (h : IntsAt w b off xs) (k : Keep A w w') (hA : ¬ A b) : IntsAt w' b off xs := fun j x hj => k.cell (h j x hj) hA

abbrev zeros (n : Nat) : Obj := .cells (madeCells #[.int .i64 0] n) 3
theorem zeros_at (n i : Nat) (h : i < n) : (madeCells #[Value.int .i64 0] n)[i]? = some (.int .i64 0) := by
  simp [madeCells, h, Nat.mod_one]


/-- What New has made so far: the clone, the uses, the map. -/
structure NS (w : World) (n : Nat) (xs : List Int) (cl : Option (Nat × Nat)) (mk mp : Option Nat) (W : World) : Prop where
  k : Keep (fun _ => False) w W
  c : ∀ g c, cl = some (g, c) → W.ownsRow w.heap.size 3 1 (.slice (some ⟨g, 0, none⟩) n c) n (ints xs)
  s : ∀ b, mk = some b → W.heap[b]? = some (zeros n) ∧ w.heap.size ≤ b
  m : ∀ b, mp = some b → W.heap[b]? = some (.map #[] 0) ∧ w.heap.size ≤ b
  d : ∀ g c b, cl = some (g, c) → mk = some b → g ≠ b

theorem NS.start (w : World) (n : Nat) (xs : List Int) : NS w n xs none none none w.drew := ⟨(Keep.refl _ w).drew, fun _ _ h => (by cases h), fun _ h => (by cases h), fun _ h => (by cases h), fun _ _ _ h => (by cases h)⟩
theorem NS.mkS {w : World} {n : Nat} {xs : List Int} {cl : Option (Nat × Nat)} {mp : Option Nat} {W : World} (h : NS w n xs cl none mp W) : NS w n xs cl (some W.heap.size) mp (W.alloc (zeros n)) :=
  have k := (Keep.refl (fun _ => False) W).alloc (zeros n)
  ⟨h.k.trans k, fun g c e => ownsRow_keep (h.c g c e) k (fun _ _ h => h), fun b e => by cases e; exact ⟨World.alloc_heap_new _ _, h.k.size⟩, fun b e => ⟨k.heap (h.m b e).1 (fun h => h), (h.m b e).2⟩, fun g c b e1 e2 => by cases e2; have := ((h.c g c e1).lt g rfl).2; omega⟩
theorem NS.mkM {w : World} {n : Nat} {xs : List Int} {cl : Option (Nat × Nat)} {mk : Option Nat} {W : World} (h : NS w n xs cl mk none W) : NS w n xs cl mk (some W.heap.size) (W.alloc (.map #[] 0)) :=
  have k := (Keep.refl (fun _ => False) W).alloc (.map #[] 0)
  ⟨h.k.trans k, fun g c e => ownsRow_keep (h.c g c e) k (fun _ _ h => h), fun b e => ⟨k.heap (h.s b e).1 (fun h => h), (h.s b e).2⟩, fun b e => by cases e; exact ⟨World.alloc_heap_new _ _, h.k.size⟩, h.d⟩
theorem NS.mkC {w : World} {n : Nat} {xs : List Int} {mk mp : Option Nat} {W W' : World} {g c : Nat} (h : NS w n xs none mk mp W) (ho : W'.ownsRow W.heap.size 3 1 (.slice (some ⟨g, 0, none⟩) n c) n (ints xs)) (k : Keep (fun _ => False) W W') : NS w n xs (some (g, c)) mk mp W' :=
  ⟨h.k.trans k, fun g' c' e => by cases e; exact ownsRow_low ho h.k.size, fun b e => ⟨k.heap (h.s b e).1 (fun h => h), (h.s b e).2⟩, fun b e => ⟨k.heap (h.m b e).1 (fun h => h), (h.m b e).2⟩, fun g' c' b e1 e2 e3 => by
    cases e1
    have h1 := (ho.lt g rfl).1
    have h2 := (Array.getElem?_eq_some_iff.1 (h.s b e2).1).1
    omega⟩

abbrev poolO (cap : Int) (g c n b m : Nat) : Obj := .cells #[.string ⟨#[]⟩, .int .i64 0, .int .i64 0, .pointer none, .pointer none, .int .i64 cap, .slice (some ⟨g, 0, none⟩) n c, .slice (some ⟨b, 0, none⟩) n n, .map (some m), .int .i64 cap] 84

theorem NS.fin {w : World} {n : Nat} {xs : List Int} {g c b m : Nat} {W : World} (cap : Int) (h : NS w n xs (some (g, c)) (some b) (some m) W) (hn : xs.length = n) (h1 : 1 ≤ cap) (h2 : cap ≤ 1000000) (h3 : 1 ≤ n) (h4 : n ≤ 8) (hok : sharesOk cap xs = true) :
    (let W1 := W.alloc (poolO cap g c n b m)
     W1.cell? ⟨W.heap.size, 3, none⟩ = some (.pointer none) ∧ W1.cell? ⟨W.heap.size, 4, none⟩ = some (.pointer none) ∧ W1.frozen? ⟨W.heap.size, 3, none⟩ = false ∧ W1.frozen? ⟨W.heap.size, 4, none⟩ = false ∧
      ∀ k, NewPost cap xs w (.returned (.tuple #[ptr W.heap.size, .int .i64 0])) (((W1.setCell ⟨W.heap.size, 3, none⟩ (ptr W.heap.size)).setCell ⟨W.heap.size, 4, none⟩ (ptr W.heap.size)).drewN k)) := by
  intro W1
  have kW : Keep (fun _ => False) W W1 := (Keep.refl _ W).alloc _
  have hh : W1.heap[W.heap.size]? = some (poolO cap g c n b m) := World.alloc_heap_new W _
  have hc : ∀ i, W1.cell? ⟨W.heap.size, i, none⟩ = (#[.string ⟨#[]⟩, .int .i64 0, .int .i64 0, .pointer none, .pointer none, .int .i64 cap, .slice (some ⟨g, 0, none⟩) n c, .slice (some ⟨b, 0, none⟩) n n, .map (some m), .int .i64 cap] : Array Value)[i]? := fun i => by
    unfold World.cell?; rw [hh]; rfl
  have hf : ∀ i, W1.frozen? ⟨W.heap.size, i, none⟩ = false := fun i => by
    unfold World.frozen?; rw [hh]
    show (decide (0 ≤ i) && decide (i < 0)) = false
    simp
  obtain ⟨hs1, hs2⟩ := h.s b rfl
  obtain ⟨hm1, hm2⟩ := h.m m rfl
  have ho := h.c g c rfl
  have hgl := ho.lt g rfl
  have hbl := (Array.getElem?_eq_some_iff.1 hs1).1
  have hml := (Array.getElem?_eq_some_iff.1 hm1).1
  have hgb := h.d g c b rfl rfl
  have hpg : W.heap.size ≠ g := by omega
  have hpb : W.heap.size ≠ b := by omega
  have hpm : W.heap.size ≠ m := by omega
  refine ⟨hc 3, hc 4, hf 3, hf 4, fun k => ?_⟩
  obtain ⟨W2, hW2⟩ : ∃ W2, W2 = ((W1.setCell ⟨W.heap.size, 3, none⟩ (ptr W.heap.size)).setCell ⟨W.heap.size, 4, none⟩ (ptr W.heap.size)).drewN k := ⟨_, rfl⟩
  rw [← hW2]
  have k2 : Keep (fun i => i = W.heap.size) W1 W2 := by
    rw [hW2]; exact (((Keep.refl (fun i => i = W.heap.size) W1).setCell (p := ⟨W.heap.size, 3, none⟩) _ (.inl rfl)).setCell (p := ⟨W.heap.size, 4, none⟩) _ (.inl rfl)).drewN k
  have hall : Keep (fun _ => False) w W2 := (h.k.trans kW).trans' k2 (fun i e => .inr (by have := h.k.size; omega))
  have c2 : ∀ i, i ≠ 3 → i ≠ 4 → W2.cell? ⟨W.heap.size, i, none⟩ = W1.cell? ⟨W.heap.size, i, none⟩ := fun i h3 h4 => by
    rw [hW2, cell_drewN, cell_set_off (fun e => h4 e.symm), cell_set_off (fun e => h3 e.symm)]
  have c23 : W2.cell? ⟨W.heap.size, 3, none⟩ = some (ptr W.heap.size) := by rw [hW2, cell_drewN, cell_set_off (by decide)]; exact cell_set_same (hc 3)
  have c24 : W2.cell? ⟨W.heap.size, 4, none⟩ = some (ptr W.heap.size) := by rw [hW2, cell_drewN]; exact cell_set_same (by rw [cell_set_off (by decide)]; exact hc 4)
  have f2 : ∀ i, W2.frozen? ⟨W.heap.size, i, none⟩ = false := fun i => by rw [hW2, frozen_drewN, World.frozen?_setCell, World.frozen?_setCell]; exact hf i
  have hs3 : W2.heap[b]? = some (zeros n) := k2.heap (kW.heap hs1 (fun h => h)) (fun e => hpb e.symm)
  have hm3 : W2.heap[m]? = some (.map #[] 0) := k2.heap (kW.heap hm1 (fun h => h)) (fun e => hpm e.symm)
  have hbm : b ≠ m := fun e => by rw [e, hm1] at hs1; cases hs1
  have ho2 := ownsRow_keep (ownsRow_keep ho kW (fun _ _ h => h)) k2 (fun i hi e => by cases hi; exact hpg e.symm)
  have hsz := h.k.size
  have hall0 : ∀ (l : List Int) (lf : Int), sharesOk lf l = true → lf ≤ 1000000 → ∀ x ∈ l, 0 ≤ x ∧ x ≤ 1000000 := by
    intro l
    induction l with
    | nil => intro _ _ _ x hx; cases hx
    | cons y r ih =>
      intro lf hs hl x hx
      simp only [sharesOk, Bool.and_eq_true, decide_eq_true_eq] at hs
      rcases List.mem_cons.1 hx with rfl | hx
      · omega
      · exact ih (lf - y) hs.2 (by omega) x hx
  refine .inr ⟨hok, ⟨W.heap.size, g, b, m, c, n, cap, xs, []⟩, rfl, ?_, rfl, rfl, rfl, hall, ?_⟩
  · refine ⟨(c2 5 (by decide) (by decide)).trans (hc 5), ?_, ?_, (c2 8 (by decide) (by decide)).trans (hc 8), ?_, f2, ?_, ?_, ?_, ⟨⟨c24, c23⟩, trivial⟩, (fun x hx => by cases hx), ?_, ?_, by simp [Gh.es], (fun x hx => by cases hx), (fun x hx => by cases hx), by show 0 < xs.length; omega, by show xs.length ≤ 8; omega, h2, by show tot [] ≤ cap; rw [tot_nil]; omega, hall0 xs cap hok h2⟩
    · show W2.cell? ⟨W.heap.size, 6, none⟩ = some (.slice (some ⟨g, 0, none⟩) xs.length c)
      rw [hn]; exact (c2 6 (by decide) (by decide)).trans (hc 6)
    · show W2.cell? ⟨W.heap.size, 7, none⟩ = some (.slice (some ⟨b, 0, none⟩) xs.length n)
      rw [hn]; exact (c2 7 (by decide) (by decide)).trans (hc 7)
    · show W2.cell? ⟨W.heap.size, 9, none⟩ = some (.int .i64 (cap - tot []))
      rw [tot_nil, Int.sub_zero]; exact (c2 9 (by decide) (by decide)).trans (hc 9)
    · intro o
      show W2.frozen? ⟨b, o, none⟩ = false
      unfold World.frozen?; rw [hs3]
      show (decide (0 ≤ o) && decide (o < 0)) = false
      simp
    · intro i x hx
      have := ho2.cells (g := g) rfl i (.int .i64 x) (by rw [List.getElem?_map, show xs[i]? = some x from hx]; rfl)
      rw [Addr.add_lit, Nat.zero_add] at this
      exact this
    · intro i hi
      show W2.cell? ⟨b, i, none⟩ = some (.int .i64 (usedOf [] i))
      unfold World.cell?; rw [hs3]
      exact zeros_at n i (by rw [← hn]; exact hi)
    · refine ⟨#[], 0, hm3, by simp, by simp, ?_, by simp, by simp⟩
      intro k v
      constructor
      · rintro ⟨x, hx, _⟩; cases hx
      · rintro ⟨x, hx, _⟩; simp at hx
    · show ([W.heap.size, g, b] ++ []).Nodup
      simp [hpg, hpb, hgb]
  · rintro i (e | e | e | e | e)
    · have : i = W.heap.size := e; omega
    · have : i = g := e; have := hgl.1; omega
    · have : i = b := e; omega
    · have : i = m := e; omega
    · cases e

set_option maxRecDepth 100000 in
set_option maxHeartbeats 1000000 in
theorem new_walk (cap : Int) (b off n c : Nat) (xs : List Int) (w : World) (hn : xs.length = n) (h1 : 1 ≤ cap) (h2 : cap ≤ 1000000) (h3 : 1 ≤ n) (h4 : n ≤ 8) (hc : IntsAt w b off xs) :
    Calls Tryz.prog 7 #[.int .i64 cap, .slice (some ⟨b, off, none⟩) n c] w (NewPost cap xs w) := by
  have hd1 : decide (cap < 1) = false := by simp; omega
  have hd2 : decide (1000000 < cap) = false := by simp; omega
  have hd3 : decide ((n : Int) < 1) = false := by simp; omega
  have hd4 : decide (8 < (n : Int)) = false := by simp; omega
  have hn1 : n ≤ 9223372036854775807 := by omega
  have HC := Lib.hid hc; clear hc
  have HN := Lib.hid hn; clear hn
  have hmk := run_make_row' (P := Tryz.prog) 24 3 (.int .i64 0) 8 Tryz.underlying24 info3 rfl .i64 .i64 n (by omega) (by omega)
  have hmm := @run_makeMap Tryz.prog
  go_enter Tryz.func7, Tryz.ntmps7
  go_wp2
  go_loop [6, 29] (fun l i => ∃ (k : Nat) (lf : Int), k ≤ n ∧ i = .int .i64 k ∧ l = .int .i64 lf ∧ 0 ≤ lf ∧ lf ≤ cap ∧ Hid (sharesOk cap xs = sharesOk lf (xs.drop k))) (fun _ i => n - (intOf i).toNat)
  case atStart => exact ⟨0, cap, Nat.zero_le _, rfl, rfl, by omega, by omega, rfl⟩
  case round =>
    obtain ⟨k, lf, hk, rfl, rfl, hl0, hl1, HS⟩ := hrel
    by_cases hlt : k < n
    · have hkx : k < xs.length := by rw [HN.out]; exact hlt
      have hcell := HC.out k xs[k] (List.getElem?_eq_getElem hkx)
      have hdrop : xs.drop k = xs[k] :: xs.drop (k + 1) := List.drop_eq_getElem_cons hkx
      have HDR := Lib.hid hdrop; clear hdrop
      generalize xs[k] = x at hcell HDR
      clear hkx
      by_cases hx0 : x < 0
      · have hdx : decide (x < 0) = true := by simpa using hx0
        have hfin : NewPost cap xs w (.returned (.tuple #[.pointer none, .int .i64 170])) w := .inl ⟨by rw [HS.out, HDR.out, sharesOk_no (.inl hx0)], rfl, rfl⟩
        have HF := Lib.hid hfin; clear hfin
        go_wp2
        go_ret2
        exact HF.out
      · have hdx : decide (x < 0) = false := by simpa using hx0
        have hx0' : 0 ≤ x := by omega
        clear hx0
        by_cases hxl : lf < x
        · have hdl : decide (lf < x) = true := by simpa using hxl
          have hfin : NewPost cap xs w (.returned (.tuple #[.pointer none, .int .i64 170])) w := .inl ⟨by rw [HS.out, HDR.out, sharesOk_no (.inr hxl)], rfl, rfl⟩
          have HF := Lib.hid hfin; clear hfin
          go_wp2
          go_ret2
          exact HF.out
        · have hdl : decide (lf < x) = false := by simpa using hxl
          have hxl' : x ≤ lf := by omega
          clear hxl
          have hst : sharesOk cap xs = sharesOk (lf - x) (xs.drop (k + 1)) := by rw [HS.out, HDR.out, sharesOk_step hx0' hxl']
          have HST := Lib.hid hst; clear hst
          go_wp2
          go_round
          case rel => exact ⟨k + 1, lf - x, by omega, by go_num, rfl, by omega, by omega, HST⟩
          case measure => simp [intOf]; omega
    · have hkn : k = n := by omega
      have hok : sharesOk cap xs = true := by rw [HS.out, List.drop_eq_nil_of_le (by rw [HN.out]; omega)]; rfl
      have HOK := Lib.hid hok; clear hok
      have HKN := Lib.hid hkn; clear hkn
      go_wp2_with fail
      have ns0 := NS.start w n xs
      refine wp_onlyN ?_
      refine wp_region_any (by kernel_rfl) ?_
      change wpAny _ _ _ _ _ _ _ (World.drew _)
      refine wpAny_take (i := 0) (v := ?_) rfl (by kernel_rfl) (by kernel_rfl) (by kernel_rfl) (fun _ _ _ h => h) (Or.inl ⟨by rfl, ?_⟩) ?_
      rotate_left
      · intro w; go_simp; try (with_reducible rfl)
      refine wpAny_take (i := 1) (v := ?_) rfl (by kernel_rfl) (by kernel_rfl) (by kernel_rfl) (fun _ _ _ h => h) (Or.inl ⟨by rfl, ?_⟩) ?_
      rotate_left
      · intro w; go_simp; try (with_reducible rfl)
      refine wpAny_take (i := 3) (v := ?_) rfl (by kernel_rfl) (by kernel_rfl) (by kernel_rfl) (fun _ _ _ h => h) (Or.inl ⟨by rfl, ?_⟩) ?_
      rotate_left
      · intro w; go_simp; try (with_reducible rfl)
      refine wpAny_take (i := 4) (v := ?_) rfl (by kernel_rfl) (by kernel_rfl) (by kernel_rfl) (fun _ _ _ h => h) (Or.inl ⟨by rfl, ?_⟩) ?_
      rotate_left
      · intro w; go_simp; try (with_reducible rfl)
      refine wpAny_take (i := 7) (v := ?_) rfl (by kernel_rfl) (by kernel_rfl) (by kernel_rfl) (fun _ _ _ h => h) (Or.inl ⟨by rfl, ?_⟩) ?_
      rotate_left
      · intro w; go_simp; try (with_reducible rfl)
      refine wpAny_ready (rs := [2, 5, 6]) (by kernel_rfl) (by simp) ?_
      refine AllReady.cons rfl (fun K hK => ?_) ?_
      · go_simp
        refine (clone_any b off n c xs _ HN.out (by omega) (HC.out.keep ns0.k (fun h => h))).mono ?_
        rintro e WC ⟨gC, cC, rfl, hoC, hkC⟩
        have ns1 := NS.mkC ns0 hoC hkC
        refine hK _ _ ?_; clear hK K hoC hkC
        refine wpAny_ready (rs := [5, 6]) (by kernel_rfl) (by simp) ?_
        refine AllReady.cons rfl (fun K hK => ?_) ?_
        · go_simp
          refine hK _ _ ?_; clear hK K
          have ns2 := NS.mkS ns1
          refine wpAny_ready (rs := [6]) (by kernel_rfl) (by simp) ?_
          refine AllReady.cons rfl (fun K hK => ?_) AllReady.nil
          go_simp
          refine hK _ _ ?_; clear hK K
          have ns3 := NS.mkM ns2
          refine wpAny_ready (rs := [8]) (by kernel_rfl) (by simp) ?_
          refine AllReady.cons rfl (fun K hK => ?_) AllReady.nil
          go_simp
          refine hK _ _ ?_; clear hK K
          refine wpAny_ready (rs := [9]) (by kernel_rfl) (by simp) ?_
          refine AllReady.cons rfl (fun K hK => ?_) AllReady.nil
          go_simp
          refine hK _ _ ?_; clear hK K
          refine wpAny_ready (rs := [10]) (by kernel_rfl) (by simp) ?_
          refine AllReady.cons rfl (fun K hK => ?_) AllReady.nil
          go_simp
          refine hK _ _ ?_; clear hK K
          refine wpAny_done (by kernel_rfl) ?_ _
          obtain ⟨q3, q4, qf3, qf4, hfin⟩ := ns3.fin cap HN.out h1 h2 h3 h4 HOK.out
          simp only [World.size_alloc] at q3 q4 qf3 qf4 hfin
          have HFIN := Lib.hid hfin; clear hfin
          clear ns0 ns1 ns2 ns3
          refine onlyN_mk ?_
          go_wp2_with fail
          with_reducible refine (order_begin _ _ _ _ q3 q4 qf3 qf4).mono ?_
          rintro e w' ⟨rfl, k', hw'⟩
          have hnp := HFIN.out k'
          rw [← hw'] at hnp
          have HNP := Lib.hid hnp; clear hnp hw' HFIN q3 q4 qf3 qf4
          go_wp2_with fail
          go_ret2
          exact HNP.out
        refine AllReady.cons rfl (fun K hK => ?_) AllReady.nil
        go_simp
        refine hK _ _ ?_; clear hK K
        have ns2 := NS.mkM ns1
        refine wpAny_ready (rs := [5]) (by kernel_rfl) (by simp) ?_
        refine AllReady.cons rfl (fun K hK => ?_) AllReady.nil
        go_simp
        refine hK _ _ ?_; clear hK K
        have ns3 := NS.mkS ns2
        refine wpAny_ready (rs := [8]) (by kernel_rfl) (by simp) ?_
        refine AllReady.cons rfl (fun K hK => ?_) AllReady.nil
        go_simp
        refine hK _ _ ?_; clear hK K
        refine wpAny_ready (rs := [9]) (by kernel_rfl) (by simp) ?_
        refine AllReady.cons rfl (fun K hK => ?_) AllReady.nil
        go_simp
        refine hK _ _ ?_; clear hK K
        refine wpAny_ready (rs := [10]) (by kernel_rfl) (by simp) ?_
        refine AllReady.cons rfl (fun K hK => ?_) AllReady.nil
        go_simp
        refine hK _ _ ?_; clear hK K
        refine wpAny_done (by kernel_rfl) ?_ _
        obtain ⟨q3, q4, qf3, qf4, hfin⟩ := ns3.fin cap HN.out h1 h2 h3 h4 HOK.out
        simp only [World.size_alloc] at q3 q4 qf3 qf4 hfin
        have HFIN := Lib.hid hfin; clear hfin
        clear ns0 ns1 ns2 ns3
        refine onlyN_mk ?_
        go_wp2_with fail
        with_reducible refine (order_begin _ _ _ _ q3 q4 qf3 qf4).mono ?_
        rintro e w' ⟨rfl, k', hw'⟩
        have hnp := HFIN.out k'
        rw [← hw'] at hnp
        have HNP := Lib.hid hnp; clear hnp hw' HFIN q3 q4 qf3 qf4
        go_wp2_with fail
        go_ret2
        exact HNP.out
      refine AllReady.cons rfl (fun K hK => ?_) ?_
      · go_simp
        refine hK _ _ ?_; clear hK K
        have ns1 := NS.mkS ns0
        refine wpAny_ready (rs := [2, 6]) (by kernel_rfl) (by simp) ?_
        refine AllReady.cons rfl (fun K hK => ?_) ?_
        · go_simp
          refine (clone_any b off n c xs _ HN.out (by omega) (HC.out.keep ns1.k (fun h => h))).mono ?_
          rintro e WC ⟨gC, cC, rfl, hoC, hkC⟩
          have ns2 := NS.mkC ns1 hoC hkC
          refine hK _ _ ?_; clear hK K hoC hkC
          refine wpAny_ready (rs := [6]) (by kernel_rfl) (by simp) ?_
          refine AllReady.cons rfl (fun K hK => ?_) AllReady.nil
          go_simp
          refine hK _ _ ?_; clear hK K
          have ns3 := NS.mkM ns2
          refine wpAny_ready (rs := [8]) (by kernel_rfl) (by simp) ?_
          refine AllReady.cons rfl (fun K hK => ?_) AllReady.nil
          go_simp
          refine hK _ _ ?_; clear hK K
          refine wpAny_ready (rs := [9]) (by kernel_rfl) (by simp) ?_
          refine AllReady.cons rfl (fun K hK => ?_) AllReady.nil
          go_simp
          refine hK _ _ ?_; clear hK K
          refine wpAny_ready (rs := [10]) (by kernel_rfl) (by simp) ?_
          refine AllReady.cons rfl (fun K hK => ?_) AllReady.nil
          go_simp
          refine hK _ _ ?_; clear hK K
          refine wpAny_done (by kernel_rfl) ?_ _
          obtain ⟨q3, q4, qf3, qf4, hfin⟩ := ns3.fin cap HN.out h1 h2 h3 h4 HOK.out
          simp only [World.size_alloc, World.size_drew] at q3 q4 qf3 qf4 hfin
          have HFIN := Lib.hid hfin; clear hfin
          clear ns0 ns1 ns2 ns3
          refine onlyN_mk ?_
          go_wp2_with fail
          with_reducible refine (order_begin _ _ _ _ q3 q4 qf3 qf4).mono ?_
          rintro e w' ⟨rfl, k', hw'⟩
          have hnp := HFIN.out k'
          rw [← hw'] at hnp
          have HNP := Lib.hid hnp; clear hnp hw' HFIN q3 q4 qf3 qf4
          go_wp2_with fail
          go_ret2
          exact HNP.out
        refine AllReady.cons rfl (fun K hK => ?_) AllReady.nil
        go_simp
        refine hK _ _ ?_; clear hK K
        have ns2 := NS.mkM ns1
        refine wpAny_ready (rs := [2]) (by kernel_rfl) (by simp) ?_
        refine AllReady.cons rfl (fun K hK => ?_) AllReady.nil
        go_simp
        refine (clone_any b off n c xs _ HN.out (by omega) (HC.out.keep ns2.k (fun h => h))).mono ?_
        rintro e WC ⟨gC, cC, rfl, hoC, hkC⟩
        have ns3 := NS.mkC ns2 hoC hkC
        refine hK _ _ ?_; clear hK K hoC hkC
        refine wpAny_ready (rs := [8]) (by kernel_rfl) (by simp) ?_
        refine AllReady.cons rfl (fun K hK => ?_) AllReady.nil
        go_simp
        refine hK _ _ ?_; clear hK K
        refine wpAny_ready (rs := [9]) (by kernel_rfl) (by simp) ?_
        refine AllReady.cons rfl (fun K hK => ?_) AllReady.nil
        go_simp
        refine hK _ _ ?_; clear hK K
        refine wpAny_ready (rs := [10]) (by kernel_rfl) (by simp) ?_
        refine AllReady.cons rfl (fun K hK => ?_) AllReady.nil
        go_simp
        refine hK _ _ ?_; clear hK K
        refine wpAny_done (by kernel_rfl) ?_ _
        obtain ⟨q3, q4, qf3, qf4, hfin⟩ := ns3.fin cap HN.out h1 h2 h3 h4 HOK.out
        simp only [World.size_alloc, World.size_drew] at q3 q4 qf3 qf4 hfin
        have HFIN := Lib.hid hfin; clear hfin
        clear ns0 ns1 ns2 ns3
        refine onlyN_mk ?_
        go_wp2_with fail
        with_reducible refine (order_begin _ _ _ _ q3 q4 qf3 qf4).mono ?_
        rintro e w' ⟨rfl, k', hw'⟩
        have hnp := HFIN.out k'
        rw [← hw'] at hnp
        have HNP := Lib.hid hnp; clear hnp hw' HFIN q3 q4 qf3 qf4
        go_wp2_with fail
        go_ret2
        exact HNP.out
      refine AllReady.cons rfl (fun K hK => ?_) AllReady.nil
      go_simp
      refine hK _ _ ?_; clear hK K
      have ns1 := NS.mkM ns0
      refine wpAny_ready (rs := [2, 5]) (by kernel_rfl) (by simp) ?_
      refine AllReady.cons rfl (fun K hK => ?_) ?_
      · go_simp
        refine (clone_any b off n c xs _ HN.out (by omega) (HC.out.keep ns1.k (fun h => h))).mono ?_
        rintro e WC ⟨gC, cC, rfl, hoC, hkC⟩
        have ns2 := NS.mkC ns1 hoC hkC
        refine hK _ _ ?_; clear hK K hoC hkC
        refine wpAny_ready (rs := [5]) (by kernel_rfl) (by simp) ?_
        refine AllReady.cons rfl (fun K hK => ?_) AllReady.nil
        go_simp
        refine hK _ _ ?_; clear hK K
        have ns3 := NS.mkS ns2
        refine wpAny_ready (rs := [8]) (by kernel_rfl) (by simp) ?_
        refine AllReady.cons rfl (fun K hK => ?_) AllReady.nil
        go_simp
        refine hK _ _ ?_; clear hK K
        refine wpAny_ready (rs := [9]) (by kernel_rfl) (by simp) ?_
        refine AllReady.cons rfl (fun K hK => ?_) AllReady.nil
        go_simp
        refine hK _ _ ?_; clear hK K
        refine wpAny_ready (rs := [10]) (by kernel_rfl) (by simp) ?_
        refine AllReady.cons rfl (fun K hK => ?_) AllReady.nil
        go_simp
        refine hK _ _ ?_; clear hK K
        refine wpAny_done (by kernel_rfl) ?_ _
        obtain ⟨q3, q4, qf3, qf4, hfin⟩ := ns3.fin cap HN.out h1 h2 h3 h4 HOK.out
        simp only [World.size_alloc, World.size_drew] at q3 q4 qf3 qf4 hfin
        have HFIN := Lib.hid hfin; clear hfin
        clear ns0 ns1 ns2 ns3
        refine onlyN_mk ?_
        go_wp2_with fail
        with_reducible refine (order_begin _ _ _ _ q3 q4 qf3 qf4).mono ?_
        rintro e w' ⟨rfl, k', hw'⟩
        have hnp := HFIN.out k'
        rw [← hw'] at hnp
        have HNP := Lib.hid hnp; clear hnp hw' HFIN q3 q4 qf3 qf4
        go_wp2_with fail
        go_ret2
        exact HNP.out
      refine AllReady.cons rfl (fun K hK => ?_) AllReady.nil
      go_simp
      refine hK _ _ ?_; clear hK K
      have ns2 := NS.mkS ns1
      refine wpAny_ready (rs := [2]) (by kernel_rfl) (by simp) ?_
      refine AllReady.cons rfl (fun K hK => ?_) AllReady.nil
      go_simp
      refine (clone_any b off n c xs _ HN.out (by omega) (HC.out.keep ns2.k (fun h => h))).mono ?_
      rintro e WC ⟨gC, cC, rfl, hoC, hkC⟩
      have ns3 := NS.mkC ns2 hoC hkC
      refine hK _ _ ?_; clear hK K hoC hkC
      refine wpAny_ready (rs := [8]) (by kernel_rfl) (by simp) ?_
      refine AllReady.cons rfl (fun K hK => ?_) AllReady.nil
      go_simp
      refine hK _ _ ?_; clear hK K
      refine wpAny_ready (rs := [9]) (by kernel_rfl) (by simp) ?_
      refine AllReady.cons rfl (fun K hK => ?_) AllReady.nil
      go_simp
      refine hK _ _ ?_; clear hK K
      refine wpAny_ready (rs := [10]) (by kernel_rfl) (by simp) ?_
      refine AllReady.cons rfl (fun K hK => ?_) AllReady.nil
      go_simp
      refine hK _ _ ?_; clear hK K
      refine wpAny_done (by kernel_rfl) ?_ _
      obtain ⟨q3, q4, qf3, qf4, hfin⟩ := ns3.fin cap HN.out h1 h2 h3 h4 HOK.out
      simp only [World.size_alloc, World.size_drew] at q3 q4 qf3 qf4 hfin
      have HFIN := Lib.hid hfin; clear hfin
      clear ns0 ns1 ns2 ns3
      refine onlyN_mk ?_
      go_wp2_with fail
      with_reducible refine (order_begin _ _ _ _ q3 q4 qf3 qf4).mono ?_
      rintro e w' ⟨rfl, k', hw'⟩
      have hnp := HFIN.out k'
      rw [← hw'] at hnp
      have HNP := Lib.hid hnp; clear hnp hw' HFIN q3 q4 qf3 qf4
      go_wp2_with fail
      go_ret2
      exact HNP.out

end Go.Proofs.YtcnpncndecjahaaGreatDoor.Mem

/-
  Same, name, shape.
-/
namespace Go.Proofs.YtcnpncndecjahaaGreatDoor.Mem
open Go.RowKit Go.Shelf

/-- A slice of strings that reads as xs. -/
def StrsAt (W : World) (v : Value) (xs : List ByteArray) : Prop :=
  ∃ a c, v = .slice a xs.length c ∧ ∀ (j : Nat) (s : ByteArray), xs[j]? = some s → ∃ b off, a = some ⟨b, off, none⟩ ∧ W.cell? ⟨b, off + j, none⟩ = some (.string s)

theorem StrsAt.of_owns {W : World} {lo : Nat} {v : Value} {n : Nat} {xs : List ByteArray} (h : W.ownsRow lo 9 1 v n (xs.map Value.string)) : StrsAt W v xs := by
  have hl : xs.length = n := by have := h.1; simpa using this
  rcases h.2 with ⟨rfl, hx⟩ | ⟨g, cap, cur, rfl, r⟩
  · have : xs = [] := by
      apply List.eq_nil_of_length_eq_zero
      rw [hl]; simpa using hx
    subst this
    exact ⟨none, 0, rfl, fun j s hj => by cases hj⟩
  · refine ⟨some ⟨g, 0, none⟩, cap, by rw [hl], fun j s hj => ⟨g, 0, rfl, ?_⟩⟩
    have := h.cells (g := g) rfl j (.string s) (by rw [List.getElem?_map, hj]; rfl)
    rw [Addr.add_lit] at this
    exact this

theorem StrsAt.keep {W W' : World} {v : Value} {xs : List ByteArray} {A : Nat → Prop} (h : StrsAt W v xs) (k : Keep A W W') (hA : ∀ b, v.ownBlock = some b → ¬ A b) : StrsAt W' v xs := by
  obtain ⟨a, c, rfl, h⟩ := h
  refine ⟨a, c, rfl, fun j s hj => ?_⟩
  obtain ⟨b, off, rfl, hc⟩ := h j s hj
  exact ⟨b, off, rfl, k.cell hc (hA b rfl)⟩

theorem drewN_drewN (w : World) (a b : Nat) : (w.drewN a).drewN b = w.drewN (a + b) := by simp [World.drewN, Nat.add_assoc]

theorem beq_str (s t : ByteArray) : (s == t) = decide (s = t) := by
  have e : (s == t) = (s.data == t.data) := rfl
  rw [e]
  by_cases h : s = t
  · subst h; simp
  · have : s.data ≠ t.data := fun h' => h (by cases s; cases t; simp at h'; rw [h'])
    simp [h, this]
theorem bne_str (s t : ByteArray) : (s != t) = !decide (s = t) := by rw [bne, beq_str]

theorem toList_inj {s t : ByteArray} (e : s.toList = t.toList) : s = t := by
  rw [ByteArray.toList_eq, ByteArray.toList_eq] at e
  cases s; cases t
  simp at e
  rw [e]

set_option maxRecDepth 100000 in
set_option maxHeartbeats 1000000 in
theorem same_any (va vb : Value) (xs ys : List ByteArray) (w : World) (ha : StrsAt w va xs) (hb : StrsAt w vb ys) (hx : xs.length ≤ 1000000000) (hy : ys.length ≤ 1000000000) :
    Calls Tryz.prog 17 #[va, vb] w fun e w' => e = .returned (.bool (decide (xs = ys))) ∧ ∃ k, w' = w.drewN k := by
  obtain ⟨a, c, rfl, ha⟩ := ha
  obtain ⟨b, d, rfl, hb⟩ := hb
  by_cases hl : xs.length = ys.length
  · by_cases h0 : xs.length = 0
    · have e1 : xs = [] := List.eq_nil_of_length_eq_zero h0
      have e2 : ys = [] := List.eq_nil_of_length_eq_zero (hl ▸ h0)
      subst e1; subst e2
      clear ha hb
      have hd : ((0 : Int) != 0) = false := by decide
      go_enter Tryz.func17, Tryz.ntmps17
      go_wp2
      go_loop [5] (fun i => i = .int .i64 0) (fun _ => 0)
      case atStart => rfl
      case round =>
        subst hrel
        go_wp2
        go_ret
        exact ⟨by simp, 0, rfl⟩
    · obtain ⟨x0, hx0⟩ : ∃ x, xs[0]? = some x := ⟨_, List.getElem?_eq_getElem (by omega)⟩
      obtain ⟨y0, hy0⟩ : ∃ y, ys[0]? = some y := ⟨_, List.getElem?_eq_getElem (by omega)⟩
      obtain ⟨ba, oa, rfl, _⟩ := ha 0 x0 hx0
      obtain ⟨bb, ob, rfl, _⟩ := hb 0 y0 hy0
      have hca : ∀ (j : Nat) (s : ByteArray), xs[j]? = some s → w.cell? ⟨ba, oa + j, none⟩ = some (.string s) := fun j s hj => by obtain ⟨b', o', e, h⟩ := ha j s hj; cases e; exact h
      have hcb : ∀ (j : Nat) (s : ByteArray), ys[j]? = some s → w.cell? ⟨bb, ob + j, none⟩ = some (.string s) := fun j s hj => by obtain ⟨b', o', e, h⟩ := hb j s hj; cases e; exact h
      clear ha hb hx0 hy0
      obtain ⟨n, hn⟩ : ∃ n, n = xs.length := ⟨_, rfl⟩
      have hny : ys.length = n := by omega
      have HN := Lib.hid hn
      have HNY := Lib.hid hny
      rw [← hn, hny]
      have hnb : n ≤ 1000000000 := by omega
      have hd : ((n : Int) != (n : Int)) = false := by simp
      have HCA := Lib.hid hca; clear hca
      have HCB := Lib.hid hcb; clear hcb
      clear hl h0 hx hy hn hny
      go_enter Tryz.func17, Tryz.ntmps17
      go_wp2
      go_loopg [5] (n) (fun gh i wr => ∃ (k m : Nat), gh + k = n ∧ i = .int .i64 k ∧ wr = w.drewN m ∧ Hid (xs.take k = ys.take k))
      case atStart => exact ⟨0, 0, Nat.add_zero _, rfl, rfl, rfl⟩
      case round =>
        obtain ⟨k, m, hk, rfl, rfl, HE⟩ := hrel
        have HKK := Lib.hid hk; clear hk
        have hk : k ≤ n := by have := HKK.out; omega
        by_cases hlt : k < n
        · have hkx : k < xs.length := by rw [← HN.out]; exact hlt
          have hky : k < ys.length := by rw [HNY.out]; exact hlt
          have ca : w.cell? ⟨ba, oa + k, none⟩ = some (.string xs[k]) := HCA.out k _ (List.getElem?_eq_getElem hkx)
          have cb : w.cell? ⟨bb, ob + k, none⟩ = some (.string ys[k]) := HCB.out k _ (List.getElem?_eq_getElem hky)
          have t1 : xs.take (k + 1) = xs.take k ++ [xs[k]] := take_succ_get (List.getElem?_eq_getElem hkx)
          have t2 : ys.take (k + 1) = ys.take k ++ [ys[k]] := take_succ_get (List.getElem?_eq_getElem hky)
          have hb0 : (0 : Int) ≤ (k : Int) := by omega
          have hb1 : (k : Int) < (n : Int) := by omega
          by_cases hst : xs[k] = ys[k]
          · have hbe : (xs[k].toList == ys[k].toList) = true := by rw [hst]; simp
            have HT : Hid (xs.take (k + 1) = ys.take (k + 1)) := by
              show _ = _
              rw [t1, t2, HE.out, hst]
            clear t1 t2 hst
            generalize xs[k] = s at *
            generalize ys[k] = u at *
            clear hkx hky
            go_wp2
            go_quiet (fail)
            go_wp2
            go_roundg (gk - 1)
            case rel => exact ⟨k + 1, _, by have := HKK.out; omega, by go_num, rfl, HT⟩
            case measure => have := HKK.out; omega
          · have hbe : (xs[k].toList == ys[k].toList) = false := by
              rw [beq_eq_false_iff_ne]
              intro e
              exact hst (toList_inj e)
            have hne : decide (xs = ys) = false := by
              rw [decide_eq_false_iff_not]
              intro e
              apply hst
              subst e; rfl
            have HNE := Lib.hid hne; clear hne
            clear t1 t2 hst
            generalize xs[k] = s at *
            generalize ys[k] = u at *
            clear hkx hky
            go_wp2
            go_quiet (fail)
            go_wp2
            go_ret
            exact ⟨by rw [HNE.out]; rfl, _, drewN_drewN _ _ _⟩
        · have hkn : k = n := by omega
          have hee : decide (xs = ys) = true := by
            rw [decide_eq_true_iff]
            have := HE.out
            rw [List.take_of_length_le (by rw [← HN.out]; omega), List.take_of_length_le (by rw [HNY.out]; omega)] at this
            exact this
          have HEE := Lib.hid hee; clear hee hkn
          go_wp2
          go_ret
          exact ⟨by rw [HEE.out]; rfl, _, rfl⟩
  · have hne : decide (xs = ys) = false := by
      rw [decide_eq_false_iff_not]; intro e; exact hl (by rw [e])
    have HNE := Lib.hid hne; clear hne
    have hd : ((xs.length : Int) != (ys.length : Int)) = true := by simp; omega
    clear ha hb
    generalize xs.length = n1 at *
    generalize ys.length = n2 at *
    go_enter Tryz.func17, Tryz.ntmps17
    go_wp2
    go_ret
    exact ⟨by rw [HNE.out]; rfl, 0, rfl⟩
end Go.Proofs.YtcnpncndecjahaaGreatDoor.Mem

/-
  Put, Remove, Touch as functions on the pool's list.
-/
namespace Go.Proofs.YtcnpncndecjahaaGreatDoor.Mem
open Go.RowKit Go.Shelf

/-- The first one that f takes, and the list without it. -/
def takeFit (f : E → Bool) : List E → Option (E × List E)
  | [] => none
  | x :: r => if f x then some (x, r) else match takeFit f r with
    | none => none
    | some (y, r') => some (y, x :: r')

theorem takeFit_none (f : E → Bool) : ∀ (L : List E), (∀ y ∈ L, f y = false) → takeFit f L = none
  | [], _ => rfl
  | x :: r, h => by rw [takeFit, h x (by simp), if_neg (by decide), takeFit_none f r (fun y hy => h y (by simp [hy]))]
theorem takeFit_some (f : E → Bool) (x : E) (Y : List E) (hx : f x = true) : ∀ (X : List E), (∀ y ∈ X, f y = false) → takeFit f (X ++ x :: Y) = some (x, X ++ Y)
  | [], _ => by simp [takeFit, hx]
  | a :: r, h => by rw [List.cons_append, takeFit, h a (by simp), if_neg (by decide), takeFit_some f x Y hx r (fun y hy => h y (by simp [hy]))]; rfl

/-- The removals: whether there is room in the end, the removed ones, what is left. -/
def evM (S : List Int) (cap : Int) (t : Nat) (z : Int) : Nat → List E → Bool × List E × List E
  | 0, L => (false, [], L)
  | n + 1, L => if cap - tot L < z then match takeFit (fitsB S L t z) L with
    | none => (false, [], L)
    | some (x, M) => ((evM S cap t z n M).1, x :: (evM S cap t z n M).2.1, (evM S cap t z n M).2.2)
    else (true, [], L)

theorem evM_of {S : List Int} {cap : Int} {t : Nat} {z : Int} : ∀ {T L L' : List Ent} (n : Nat), Ev S cap t z L T L' → L.length < n → ∀ b, (b = true → ¬ (cap - tot (esOf L') < z)) → (b = false → cap - tot (esOf L') < z ∧ ∀ y ∈ L', fitsB S (esOf L') t z y.e = false) →
    evM S cap t z n (esOf L) = (b, esOf T, esOf L')
  | [], L, L', n, h, hn, b, h1, h2 => by
    cases h
    cases n with
    | zero => omega
    | succ n =>
      cases b with
      | true => rw [evM, if_neg (h1 rfl)]; rfl
      | false =>
        rw [evM, if_pos (h2 rfl).1, takeFit_none _ _ (fun y hy => by obtain ⟨x, hx, rfl⟩ := List.mem_map.1 hy; exact (h2 rfl).2 x hx)]; rfl
  | x :: T, L, L', n, ⟨M, ⟨hs, X, Y, eL, eM, hX, hx⟩, h⟩, hn, b, h1, h2 => by
    subst eL; subst eM
    cases n with
    | zero => omega
    | succ n =>
      have ih := evM_of n h (by simp at hn ⊢; omega) b h1 h2
      have e : esOf (X ++ x :: Y) = esOf X ++ x.e :: esOf Y := by simp [esOf]
      have e2 : takeFit (fitsB S (esOf (X ++ x :: Y)) t z) (esOf (X ++ x :: Y)) = some (x.e, esOf (X ++ Y)) := by
        have := takeFit_some (fitsB S (esOf (X ++ x :: Y)) t z) x.e (esOf Y) hx (esOf X) (fun y hy => by obtain ⟨a, ha, rfl⟩ := List.mem_map.1 hy; exact hX a ha)
        rw [← e] at this
        rw [this]; simp [esOf]
      rw [evM, if_pos hs, e2]
      simp only
      rw [ih]
      rfl

def woE (L : List E) (key : ByteArray) : List E := L.filter (fun x => decide (x.key ≠ key))
theorem esOf_wo (L : List Ent) (key : ByteArray) : esOf (wo L key) = woE (esOf L) key := by
  unfold esOf wo woE
  rw [List.filter_map]
  rfl

/-- Put: whether it is done, what it removed, what is left. -/
def putM (cap : Int) (S : List Int) (L : List E) (t : Nat) (key : ByteArray) (z : Int) : Bool × List E × List E :=
  if (evM S cap t z (L.length + 1) (woE L key)).1 then (true, (evM S cap t z (L.length + 1) (woE L key)).2.1, (evM S cap t z (L.length + 1) (woE L key)).2.2 ++ [⟨key, t, z⟩]) else (false, [], L)

def putI (cap : Int) (S : List Int) (L : List E) (t : Int) (key : ByteArray) (z : Int) : Bool × List E × List E :=
  if 0 ≤ t ∧ t < S.length ∧ 1 ≤ z then putM cap S L t.toNat key z else (false, [], L)

/-- The pool p, as plain data, and the blocks it lies in. -/
structure Pl where
  p : Nat
  cap : Int
  sh : List Int
  L : List E
  foot : Nat → Prop

def Pl.At (P : Pl) (w : World) : Prop := ∃ g : Gh, PoolIs w g ∧ g.bp = P.p ∧ g.cap = P.cap ∧ g.sh = P.sh ∧ g.es = P.L ∧ g.foot = P.foot

/-- The pool has the list L now. -/
def Turn (P : Pl) (L : List E) (w w' : World) (F : Nat → Prop) : Prop := Pl.At { P with L := L, foot := F } w' ∧ Keep P.foot w w' ∧ ∀ k, F k → P.foot k ∨ w.heap.size ≤ k

/-- Strings that lie at v, in a block of their own. -/
def Strs (w : World) (lo : Nat) (v : Value) (xs : List ByteArray) : Prop := w.ownsRow lo 9 1 v xs.length (xs.map Value.string)

theorem Ev.length {S : List Int} {cap : Int} {t : Nat} {z : Int} : ∀ {T L L' : List Ent}, Ev S cap t z L T L' → L.length = T.length + L'.length
  | [], _, _, h => by cases h; simp
  | _ :: _, _, _, ⟨_, ⟨_, X, Y, e1, e2, _⟩, h⟩ => by subst e1; subst e2; have := Ev.length h; simp at this ⊢; omega
theorem foot_low {g : Gh} {L : List Ent} {x : Ent} {n : Nat} (hs : ∀ y ∈ L, y ∈ g.L) (hx : n ≤ x.b) {k : Nat} (h : Gh.foot { g with L := L ++ [x] } k) : g.foot k ∨ n ≤ k := by
  rcases h with h | h | h | h | h
  · exact .inl (.inl h)
  · exact .inl (.inr (.inl h))
  · exact .inl (.inr (.inr (.inl h)))
  · exact .inl (.inr (.inr (.inr (.inl h))))
  · obtain ⟨y, hy, rfl⟩ := List.mem_map.1 h
    rcases List.mem_append.1 hy with hy | hy
    · exact .inl (.inr (.inr (.inr (.inr (List.mem_map_of_mem (hs y hy))))))
    · rw [List.mem_singleton] at hy; subst hy; exact .inr hx

theorem put_plain (P : Pl) (t : Int) (key : ByteArray) (z : Int) (w : World) (h : P.At w) (hks : key.size ≤ maxLen) (hz2 : z ≤ 9223372036854775807) :
    Calls Tryz.prog 12 #[ptr P.p, .int .i64 t, .string key, .int .i64 z] w fun e w' => ∃ vo F, e = .returned (.tuple #[vo, .bool (putI P.cap P.sh P.L t key z).1]) ∧
      Turn P (putI P.cap P.sh P.L t key z).2.2 w w' F ∧ Strs w' w.heap.size vo ((putI P.cap P.sh P.L t key z).2.1.map E.key) ∧ ∀ b, vo.ownBlock = some b → ¬ F b := by
  obtain ⟨g, h, e1, e2, e3, e4, e5⟩ := h
  rw [← e1, ← e2, ← e3, ← e4]
  have same : ∀ w', Keep g.foot w w' → PoolIs w' g → Turn P g.es w w' g.foot := fun w' k hp => ⟨⟨g, hp, e1, e2, e3, rfl, rfl⟩, e5 ▸ k, fun k hk => .inl (e5 ▸ hk)⟩
  have no : ∀ e w', e = .returned (.tuple #[.slice none 0 0, .bool false]) → Keep (fun _ => False) w w' → ∃ vo F, e = Ending.returned (.tuple #[vo, .bool false]) ∧
      Turn P g.es w w' F ∧ Strs w' w.heap.size vo (([] : List E).map E.key) ∧ ∀ b, vo.ownBlock = some b → ¬ F b := fun e w' he k =>
    ⟨_, g.foot, he, same w' ⟨k.os, k.tape, k.output, k.size, fun i hi _ => k.block i hi (fun h => h)⟩ (h.keep k (fun _ _ h => h)), World.ownsRow_nil _ _ _ _, fun b hb => by cases hb⟩
  by_cases h0 : t < 0
  · rw [putI, if_neg (by omega)]
    exact (put_neg g.bp t key z w h0).mono fun e w' ⟨a, b⟩ => no e w' a b
  · by_cases h1 : (g.sh.length : Int) ≤ t
    · rw [putI, if_neg (by omega)]
      exact (put_big g.bp g.bs _ _ t key z w h.c6 (by omega) h1).mono fun e w' ⟨a, b⟩ => no e w' a b
    · by_cases h2 : z < 1
      · rw [putI, if_neg (by omega)]
        exact (put_small g.bp g.bs _ _ t key z w h.c6 (by omega) (by omega) h2).mono fun e w' ⟨a, b⟩ => no e w' a b
      · rw [putI, if_pos (by omega)]
        obtain ⟨k, rfl⟩ := Int.eq_ofNat_of_zero_le (show 0 ≤ t by omega)
        rw [Int.toNat_natCast]
        refine (put_pool g k key z w h (by omega) hks (by omega) hz2).mono fun e w' hp => ?_
        have hl : (wo g.L key).length < g.es.length + 1 := by
          have : (wo g.L key).length ≤ g.L.length := List.length_filter_le _ _
          simp only [Gh.es, List.length_map]; omega
        rcases hp with ⟨T, L, x, vo, rfl, hev, hr, hx, hxb, hp, ho, hd, k'⟩ | ⟨T, L, hev, hr, hf, rfl, hp, k'⟩
        · have he := evM_of (g.es.length + 1) hev hl true (fun _ => hr) (fun h => by cases h)
          rw [esOf_wo] at he
          have e : putM g.cap g.sh g.es k key z = (true, esOf T, esOf L ++ [⟨key, k, z⟩]) := by
            unfold putM
            rw [show g.es = esOf g.L from rfl] at *
            rw [he, if_pos rfl]
          rw [e]
          refine ⟨vo, Gh.foot { g with L := L ++ [x] }, rfl, ⟨⟨_, hp, e1, e2, e3, ?_, rfl⟩, e5 ▸ k', fun k hk => ?_⟩, ?_, hd⟩
          · show (L ++ [x]).map Ent.e = _
            rw [List.map_append, List.map_cons, hx]; rfl
          · rw [← e5]
            exact foot_low (fun y hy => (List.mem_filter.1 (hev.sub y hy)).1) hxb hk
          · unfold Strs
            rw [List.length_map, List.length_map, List.map_map, List.map_map]
            exact ho
        · have he := evM_of (g.es.length + 1) hev hl false (fun h => by cases h) (fun _ => ⟨hr, hf⟩)
          rw [esOf_wo] at he
          have e : putM g.cap g.sh g.es k key z = (false, [], g.es) := by
            unfold putM
            rw [show g.es = esOf g.L from rfl] at *
            rw [he, if_neg (by simp)]
          rw [e]
          exact ⟨_, g.foot, rfl, same w' k' hp, World.ownsRow_nil _ _ _ _, fun b hb => by cases hb⟩

theorem Pl.At.keep {P : Pl} {w w' : World} {A : Nat → Prop} (h : P.At w) (k : Keep A w w') (hA : ∀ i, P.foot i → ¬ A i) : P.At w' := by
  obtain ⟨g, h, e1, e2, e3, e4, e5⟩ := h
  exact ⟨g, h.keep k (fun i hi => hA i (e5 ▸ hi)), e1, e2, e3, e4, e5⟩
theorem Pl.At.lt {P : Pl} {w : World} (h : P.At w) {k : Nat} (hk : P.foot k) : k < w.heap.size := by
  obtain ⟨g, h, e1, e2, e3, e4, e5⟩ := h
  exact h.foot_lt (e5 ▸ hk)

/-! ### the others -/
theorem free_plain (P : Pl) (w : World) (h : P.At w) : Calls Tryz.prog 16 #[ptr P.p] w fun e w' => e = .returned (.int .i64 (P.cap - tot P.L)) ∧ w = w' := by
  obtain ⟨g, h, e1, e2, e3, e4, e5⟩ := h
  rw [← e1, ← e2, ← e4]
  exact free_pool g w h

def usedI (S : List Int) (L : List E) (t : Int) : Int := if 0 ≤ t ∧ t < S.length then usedOf L t.toNat else 0
theorem used_plain (P : Pl) (t : Int) (w : World) (h : P.At w) : Calls Tryz.prog 15 #[ptr P.p, .int .i64 t] w fun e w' => e = .returned (.int .i64 (usedI P.sh P.L t)) ∧ w = w' := by
  obtain ⟨g, h, e1, e2, e3, e4, e5⟩ := h
  rw [← e1, ← e3, ← e4]
  exact used_pool g t w h

theorem keys_plain (P : Pl) (t : Int) (w : World) (h : P.At w) : Calls Tryz.prog 14 #[ptr P.p, .int .i64 t] w fun e w' => ∃ v, e = .returned v ∧ Strs w' w.heap.size v (keysOf P.L t) ∧ P.At w' ∧ Keep (fun _ => False) w w' := by
  have h' := h
  obtain ⟨g, h, e1, e2, e3, e4, e5⟩ := h
  rw [← e1, ← e4]
  exact (keys_pool g t w h).mono fun e w' ⟨v, a, b, c⟩ => ⟨v, a, b, h'.keep c (fun _ _ h => h), c⟩

/-- The entry of a key. -/
def atKey (L : List E) (key : ByteArray) : Option E := L.find? (fun x => decide (x.key = key))

theorem atKey_no {L : List E} {key : ByteArray} (h : atKey L key = none) : key ∉ L.map E.key := by
  intro hm
  obtain ⟨x, hx, rfl⟩ := List.mem_map.1 hm
  have := List.find?_eq_none.1 h x hx
  simp at this
theorem atKey_yes {L : List Ent} {key : ByteArray} {x : E} (h : atKey (L.map Ent.e) key = some x) : ∃ y ∈ L, y.e = x ∧ y.e.key = key := by
  have h1 := List.find?_some h
  obtain ⟨y, hy, rfl⟩ := List.mem_map.1 (List.mem_of_find?_eq_some h)
  exact ⟨y, hy, rfl, by simpa using h1⟩

theorem has_plain (P : Pl) (key : ByteArray) (w : World) (h : P.At w) (hks : key.size ≤ maxLen) : Calls Tryz.prog 18 #[ptr P.p, .string key] w fun e w' => e = .returned (.bool (atKey P.L key).isSome) ∧ w = w' := by
  obtain ⟨g, h, e1, e2, e3, e4, e5⟩ := h
  rw [← e1, ← e4]
  cases hf : atKey g.es key with
  | none => exact has_no g key w h hks (atKey_no hf)
  | some x =>
    obtain ⟨y, hy, rfl, rfl⟩ := atKey_yes hf
    exact has_yes g y w h hy

def tenI (L : List E) (key : ByteArray) : Int := match atKey L key with
  | none => -1
  | some x => x.t
theorem tenant_plain (P : Pl) (key : ByteArray) (w : World) (h : P.At w) (hks : key.size ≤ maxLen) : Calls Tryz.prog 19 #[ptr P.p, .string key] w fun e w' => e = .returned (.int .i64 (tenI P.L key)) ∧ w = w' := by
  obtain ⟨g, h, e1, e2, e3, e4, e5⟩ := h
  rw [← e1, ← e4]
  unfold tenI
  cases hf : atKey g.es key with
  | none => exact tenant_no g key w h hks (atKey_no hf)
  | some x =>
    obtain ⟨y, hy, rfl, rfl⟩ := atKey_yes hf
    exact tenant_yes g y w h hy

def touI (L : List E) (key : ByteArray) : List E := match atKey L key with
  | none => L
  | some x => woE L key ++ [x]

theorem es_wo {g : Gh} {w : World} (h : PoolIs w g) {X Y : List Ent} {x : Ent} (hL : g.L = X ++ x :: Y) : esOf (X ++ Y) = woE g.es x.e.key := by
  have hk := h.keys
  rw [show g.es = esOf g.L from rfl] at *
  rw [← esOf_wo, hL] at *
  rw [wo_split hk]

theorem foot_sub2 {g : Gh} {L : List Ent} (hs : ∀ y ∈ L, y ∈ g.L) {k : Nat} (h : Gh.foot { g with L := L } k) : g.foot k := by
  rcases h with h | h | h | h | h
  · exact .inl h
  · exact .inr (.inl h)
  · exact .inr (.inr (.inl h))
  · exact .inr (.inr (.inr (.inl h)))
  · obtain ⟨y, hy, rfl⟩ := List.mem_map.1 h
    exact .inr (.inr (.inr (.inr (List.mem_map_of_mem (hs y hy)))))

theorem remove_plain (P : Pl) (key : ByteArray) (w : World) (h : P.At w) (hks : key.size ≤ maxLen) : Calls Tryz.prog 21 #[ptr P.p, .string key] w fun e w' => ∃ F, e = .returned (.bool (atKey P.L key).isSome) ∧ Turn P (woE P.L key) w w' F := by
  obtain ⟨g, h, e1, e2, e3, e4, e5⟩ := h
  rw [← e1, ← e4]
  cases hf : atKey g.es key with
  | none =>
    refine (remove_no g key w h hks (atKey_no hf)).mono fun e w' ⟨a, b⟩ => ⟨g.foot, a, ?_⟩
    subst b
    refine ⟨⟨g, h, e1, e2, e3, ?_, rfl⟩, Keep.refl _ _, fun k hk => .inl (e5 ▸ hk)⟩
    show esOf g.L = woE (esOf g.L) key
    rw [← esOf_wo, wo_none (atKey_no hf)]
  | some x =>
    obtain ⟨y, hy, rfl, rfl⟩ := atKey_yes hf
    obtain ⟨X, Y, hL⟩ := List.append_of_mem hy
    refine (remove_yes g X Y y w h hL).mono fun e w' ⟨a, b, c⟩ => ⟨Gh.foot { g with L := X ++ Y }, a, ?_⟩
    have hs : ∀ z ∈ X ++ Y, z ∈ g.L := fun z hz => by rw [hL]; simp at hz ⊢; exact hz.elim .inl (fun h => .inr (.inr h))
    refine ⟨⟨_, b, e1, e2, e3, es_wo h hL, rfl⟩, ?_, fun k hk => .inl (e5 ▸ foot_sub2 hs hk)⟩
    exact ⟨c.os, c.tape, c.output, c.size, fun i hi hn => c.block i hi (fun hc => hn (e5 ▸ foot_sub2 hs hc))⟩

theorem touch_plain (P : Pl) (key : ByteArray) (w : World) (h : P.At w) (hks : key.size ≤ maxLen) : Calls Tryz.prog 20 #[ptr P.p, .string key] w fun e w' => ∃ F, e = .returned (.bool (atKey P.L key).isSome) ∧ Turn P (touI P.L key) w w' F := by
  obtain ⟨g, h, e1, e2, e3, e4, e5⟩ := h
  rw [← e1, ← e4]
  unfold touI
  cases hf : atKey g.es key with
  | none =>
    refine (touch_no g key w h hks (atKey_no hf)).mono fun e w' ⟨a, b⟩ => ⟨g.foot, a, ?_⟩
    subst b
    exact ⟨⟨g, h, e1, e2, e3, rfl, rfl⟩, Keep.refl _ _, fun k hk => .inl (e5 ▸ hk)⟩
  | some x =>
    obtain ⟨y, hy, rfl, rfl⟩ := atKey_yes hf
    obtain ⟨X, Y, hL⟩ := List.append_of_mem hy
    refine (touch_yes g X Y y w h hL).mono fun e w' ⟨a, b, c⟩ => ⟨Gh.foot { g with L := X ++ Y ++ [y] }, a, ?_⟩
    have hs : ∀ z ∈ X ++ Y ++ [y], z ∈ g.L := fun z hz => by rw [hL]; simp at hz ⊢; exact hz.elim .inl (fun h => .inr h.symm)
    refine ⟨⟨_, b, e1, e2, e3, ?_, rfl⟩, e5 ▸ c, fun k hk => .inl (e5 ▸ foot_sub2 hs hk)⟩
    show (X ++ Y ++ [y]).map Ent.e = _
    rw [List.map_append]
    rw [show (X ++ Y).map Ent.e = esOf (X ++ Y) from rfl, es_wo h hL]
    rfl
end Go.Proofs.YtcnpncndecjahaaGreatDoor.Mem

/-
  A pool of the call's own, through its calls; New as plain data.
-/
namespace Go.Proofs.YtcnpncndecjahaaGreatDoor.Mem
open Go.RowKit Go.Shelf

theorem new_ok (cap : Int) (b off n c : Nat) (xs : List Int) (w : World) (hn : xs.length = n) (h1 : 1 ≤ cap) (h2 : cap ≤ 1000000) (h3 : 1 ≤ n) (h4 : n ≤ 8) (hc : IntsAt w b off xs) (hs : sharesOk cap xs = true) :
    Calls Tryz.prog 7 #[.int .i64 cap, .slice (some ⟨b, off, none⟩) n c] w fun e w' => ∃ P : Pl, e = .returned (.tuple #[ptr P.p, .int .i64 0]) ∧ P.At w' ∧ P.cap = cap ∧ P.sh = xs ∧ P.L = [] ∧ Keep (fun _ => False) w w' ∧ ∀ i, P.foot i → w.heap.size ≤ i := by
  refine (new_walk cap b off n c xs w hn h1 h2 h3 h4 hc).mono fun e w' h => ?_
  rcases h with ⟨h, _⟩ | ⟨_, g, he, hp, e1, e2, e3, k, hf⟩
  · rw [hs] at h; cases h
  · exact ⟨⟨g.bp, g.cap, g.sh, g.es, g.foot⟩, he, ⟨g, hp, rfl, rfl, rfl, rfl, rfl⟩, e1, e2, by show g.L.map Ent.e = []; rw [e3]; rfl, k, hf⟩

theorem new_no (cap : Int) (b off n c : Nat) (xs : List Int) (w : World) (hn : xs.length = n) (h1 : 1 ≤ cap) (h2 : cap ≤ 1000000) (h3 : 1 ≤ n) (h4 : n ≤ 8) (hc : IntsAt w b off xs) (hs : sharesOk cap xs = false) :
    Calls Tryz.prog 7 #[.int .i64 cap, .slice (some ⟨b, off, none⟩) n c] w fun e w' => e = .returned (.tuple #[.pointer none, .int .i64 170]) ∧ w = w' := by
  refine (new_walk cap b off n c xs w hn h1 h2 h3 h4 hc).mono fun e w' h => ?_
  rcases h with ⟨_, h⟩ | ⟨h, _⟩
  · exact h
  · rw [hs] at h; cases h

/-- A pool of the call's own: the blocks are newer than w. -/
structure SS (w : World) (P : Pl) (W : World) : Prop where
  at_ : P.At W
  k : Keep (fun _ => False) w W
  new : ∀ i, P.foot i → w.heap.size ≤ i

theorem _root_.Go.Proofs.YtcnpncndecjahaaGreatDoor.Keep.none_of {A : Nat → Prop} {w W W' : World} (k : Keep (fun _ => False) w W) (k' : Keep A W W') (hA : ∀ i, A i → w.heap.size ≤ i) : Keep (fun _ => False) w W' :=
  k.trans' k' (fun i hi => .inr (hA i hi))

theorem SS.turn {w W W' : World} {P : Pl} {L : List E} {F : Nat → Prop} (h : SS w P W) (t : Turn P L W W' F) : SS w { P with L := L, foot := F } W' :=
  ⟨t.1, h.k.none_of t.2.1 h.new, fun i hi => (t.2.2 i hi).elim (h.new i) (fun h' => Nat.le_trans h.k.size h')⟩
theorem SS.keep {w W W' : World} {P : Pl} (h : SS w P W) (k : Keep (fun _ => False) W W') : SS w P W' := ⟨h.at_.keep k (fun _ _ h => h), h.k.trans k, h.new⟩

/-- Strings that lie away from the pool. -/
def Row (P : Pl) (W : World) (v : Value) (xs : List ByteArray) : Prop := StrsAt W v xs ∧ ∀ b, v.ownBlock = some b → ¬ P.foot b ∧ b < W.heap.size

theorem Row.of {P : Pl} {W : World} {lo : Nat} {v : Value} {xs : List ByteArray} (h : Strs W lo v xs) (hf : ∀ b, v.ownBlock = some b → ¬ P.foot b) : Row P W v xs :=
  ⟨StrsAt.of_owns h, fun b hb => ⟨hf b hb, (World.ownsRow.lt h b hb).2⟩⟩
theorem Row.turn {P : Pl} {W W' : World} {v : Value} {xs : List ByteArray} {L : List E} {F : Nat → Prop} (h : Row P W v xs) (t : Turn P L W W' F) : Row { P with L := L, foot := F } W' v xs :=
  ⟨h.1.keep t.2.1 (fun b hb => (h.2 b hb).1), fun b hb => ⟨fun hf => (t.2.2 b hf).elim (h.2 b hb).1 (fun h' => by have := (h.2 b hb).2; omega), Nat.lt_of_lt_of_le (h.2 b hb).2 t.2.1.size⟩⟩
theorem Row.keep {P : Pl} {W W' : World} {v : Value} {xs : List ByteArray} (h : Row P W v xs) (k : Keep (fun _ => False) W W') : Row P W' v xs :=
  ⟨h.1.keep k (fun _ _ h => h), fun b hb => ⟨(h.2 b hb).1, Nat.lt_of_lt_of_le (h.2 b hb).2 k.size⟩⟩
end Go.Proofs.YtcnpncndecjahaaGreatDoor.Mem

/-
  A pool of the call's own, with the rows of strings that it has given out.
-/
namespace Go.Proofs.YtcnpncndecjahaaGreatDoor.Mem
open Go.RowKit Go.Shelf

/-- The pool p holds L, and each of the rows still reads as it did. -/
def SP (w : World) (p : Nat) (cap : Int) (sh : List Int) (L : List E) (rows : List (Value × List ByteArray)) (W : World) : Prop :=
  ∃ P : Pl, SS w P W ∧ P.p = p ∧ P.cap = cap ∧ P.sh = sh ∧ P.L = L ∧ ∀ r ∈ rows, Row P W r.1 r.2

theorem SP.k {w W : World} {p : Nat} {cap : Int} {sh : List Int} {L : List E} {rows : List (Value × List ByteArray)} (h : SP w p cap sh L rows W) : Keep (fun _ => False) w W := by
  obtain ⟨P, h, _⟩ := h
  exact h.k

theorem SP.keep {w W W' : World} {p : Nat} {cap : Int} {sh : List Int} {L : List E} {rows : List (Value × List ByteArray)} (h : SP w p cap sh L rows W) (k : Keep (fun _ => False) W W') : SP w p cap sh L rows W' := by
  obtain ⟨P, h, e1, e2, e3, e4, hr⟩ := h
  exact ⟨P, h.keep k, e1, e2, e3, e4, fun r hr' => (hr r hr').keep k⟩

theorem SP.row {w W : World} {p : Nat} {cap : Int} {sh : List Int} {L : List E} {rows : List (Value × List ByteArray)} (h : SP w p cap sh L rows W) {v : Value} {xs : List ByteArray} (hm : (v, xs) ∈ rows) : StrsAt W v xs := by
  obtain ⟨P, h, e1, e2, e3, e4, hr⟩ := h
  exact (hr _ hm).1

/-- New's pool. -/
theorem SP.new {w W W' : World} {P : Pl} {cap : Int} {sh : List Int} (k0 : Keep (fun _ => False) w W) (h : P.At W') (e1 : P.cap = cap) (e2 : P.sh = sh) (e3 : P.L = []) (k : Keep (fun _ => False) W W') (hf : ∀ i, P.foot i → W.heap.size ≤ i) :
    SP w P.p cap sh [] [] W' := ⟨P, ⟨h, k0.trans k, fun i hi => Nat.le_trans k0.size (hf i hi)⟩, rfl, e1, e2, e3, fun r hr => by cases hr⟩

theorem put_sp {w : World} {p : Nat} {cap : Int} {sh : List Int} {L : List E} {rows : List (Value × List ByteArray)} (t : Int) (key : ByteArray) (z : Int) (W : World) (h : SP w p cap sh L rows W) (hks : key.size ≤ maxLen) (hz2 : z ≤ 9223372036854775807)
    (b : Bool) (T M : List E) (e : putI cap sh L t key z = (b, T, M)) :
    Calls Tryz.prog 12 #[ptr p, .int .i64 t, .string key, .int .i64 z] W fun e W' => ∃ a c, e = .returned (.tuple #[.slice a T.length c, .bool b]) ∧ SP w p cap sh M ((.slice a T.length c, T.map E.key) :: rows) W' := by
  obtain ⟨P, h, rfl, rfl, rfl, rfl, hr⟩ := h
  refine (put_plain P t key z W h.at_ hks hz2).mono ?_
  rintro e' W' ⟨vo, F, he, ht, hs, hd⟩
  rw [e] at he ht hs
  have hrow := Row.of (P := { P with L := M, foot := F }) hs hd
  obtain ⟨a, c, hv, _⟩ := hrow.1
  rw [List.length_map] at hv
  subst hv
  refine ⟨a, c, he, { P with L := M, foot := F }, h.turn ht, rfl, rfl, rfl, rfl, fun r hr' => ?_⟩
  rcases List.mem_cons.1 hr' with rfl | hr'
  · exact hrow
  · exact (hr r hr').turn ht

theorem touch_sp {w : World} {p : Nat} {cap : Int} {sh : List Int} {L : List E} {rows : List (Value × List ByteArray)} (key : ByteArray) (W : World) (h : SP w p cap sh L rows W) (hks : key.size ≤ maxLen) :
    Calls Tryz.prog 20 #[ptr p, .string key] W fun e W' => e = .returned (.bool (atKey L key).isSome) ∧ SP w p cap sh (touI L key) rows W' := by
  obtain ⟨P, h, rfl, rfl, rfl, rfl, hr⟩ := h
  refine (touch_plain P key W h.at_ hks).mono ?_
  rintro e' W' ⟨F, he, ht⟩
  exact ⟨he, { P with L := _, foot := F }, h.turn ht, rfl, rfl, rfl, rfl, fun r hr' => (hr r hr').turn ht⟩

theorem remove_sp {w : World} {p : Nat} {cap : Int} {sh : List Int} {L : List E} {rows : List (Value × List ByteArray)} (key : ByteArray) (W : World) (h : SP w p cap sh L rows W) (hks : key.size ≤ maxLen) :
    Calls Tryz.prog 21 #[ptr p, .string key] W fun e W' => e = .returned (.bool (atKey L key).isSome) ∧ SP w p cap sh (woE L key) rows W' := by
  obtain ⟨P, h, rfl, rfl, rfl, rfl, hr⟩ := h
  refine (remove_plain P key W h.at_ hks).mono ?_
  rintro e' W' ⟨F, he, ht⟩
  exact ⟨he, { P with L := _, foot := F }, h.turn ht, rfl, rfl, rfl, rfl, fun r hr' => (hr r hr').turn ht⟩

theorem keys_sp {w : World} {p : Nat} {cap : Int} {sh : List Int} {L : List E} {rows : List (Value × List ByteArray)} (t : Int) (W : World) (h : SP w p cap sh L rows W) :
    Calls Tryz.prog 14 #[ptr p, .int .i64 t] W fun e W' => ∃ a c, e = .returned (.slice a (keysOf L t).length c) ∧ SP w p cap sh L ((.slice a (keysOf L t).length c, keysOf L t) :: rows) W' ∧ Keep (fun _ => False) W W' := by
  obtain ⟨P, h, rfl, rfl, rfl, rfl, hr⟩ := h
  refine (keys_plain P t W h.at_).mono ?_
  rintro e' W' ⟨v, he, hs, _, k⟩
  have hd : ∀ b, v.ownBlock = some b → ¬ P.foot b := fun b hb hf => by
    have h1 := (World.ownsRow.lt hs b hb).1
    have h2 := h.at_.lt hf
    omega
  have hrow := Row.of (P := P) hs hd
  obtain ⟨a, c, hv, _⟩ := hrow.1
  subst hv
  refine ⟨a, c, he, ⟨P, h.keep k, rfl, rfl, rfl, rfl, fun r hr' => ?_⟩, k⟩
  rcases List.mem_cons.1 hr' with rfl | hr'
  · exact hrow
  · exact (hr r hr').keep k

theorem free_sp {w : World} {p : Nat} {cap : Int} {sh : List Int} {L : List E} {rows : List (Value × List ByteArray)} (W : World) (h : SP w p cap sh L rows W) :
    Calls Tryz.prog 16 #[ptr p] W fun e W' => e = .returned (.int .i64 (cap - tot L)) ∧ W = W' := by
  obtain ⟨P, h, rfl, rfl, rfl, rfl, hr⟩ := h
  exact free_plain P W h.at_
theorem used_sp {w : World} {p : Nat} {cap : Int} {sh : List Int} {L : List E} {rows : List (Value × List ByteArray)} (t : Int) (W : World) (h : SP w p cap sh L rows W) :
    Calls Tryz.prog 15 #[ptr p, .int .i64 t] W fun e W' => e = .returned (.int .i64 (usedI sh L t)) ∧ W = W' := by
  obtain ⟨P, h, rfl, rfl, rfl, rfl, hr⟩ := h
  exact used_plain P t W h.at_
theorem has_sp {w : World} {p : Nat} {cap : Int} {sh : List Int} {L : List E} {rows : List (Value × List ByteArray)} (key : ByteArray) (W : World) (h : SP w p cap sh L rows W) (hks : key.size ≤ maxLen) :
    Calls Tryz.prog 18 #[ptr p, .string key] W fun e W' => e = .returned (.bool (atKey L key).isSome) ∧ W = W' := by
  obtain ⟨P, h, rfl, rfl, rfl, rfl, hr⟩ := h
  exact has_plain P key W h.at_ hks
theorem tenant_sp {w : World} {p : Nat} {cap : Int} {sh : List Int} {L : List E} {rows : List (Value × List ByteArray)} (key : ByteArray) (W : World) (h : SP w p cap sh L rows W) (hks : key.size ≤ maxLen) :
    Calls Tryz.prog 19 #[ptr p, .string key] W fun e W' => e = .returned (.int .i64 (tenI L key)) ∧ W = W' := by
  obtain ⟨P, h, rfl, rfl, rfl, rfl, hr⟩ := h
  exact tenant_plain P key W h.at_ hks
end Go.Proofs.YtcnpncndecjahaaGreatDoor.Mem

/-
  sane answers true.
-/
namespace Go.Proofs.YtcnpncndecjahaaGreatDoor.Mem
open Go.RowKit Go.Shelf

abbrev ky (c : UInt8) : ByteArray := ⟨#[c]⟩
theorem ky_small (c : UInt8) : (ky c).size ≤ maxLen := by show 1 ≤ _; unfold maxLen; omega

theorem ints_new (W : World) (x y : Int) : IntsAt (W.alloc (.cells #[.int .i64 x, .int .i64 y] 3)) W.heap.size 0 [x, y] := by
  intro j v hj
  have hh : (W.alloc (.cells #[.int .i64 x, .int .i64 y] 3)).heap[W.heap.size]? = some (.cells #[.int .i64 x, .int .i64 y] 3) := World.alloc_heap_new _ _
  match j, hj with
  | 0, hj => cases hj; unfold World.cell?; simp only [hh]; rfl
  | 1, hj => cases hj; unfold World.cell?; simp only [hh]; rfl

theorem strs_new1 (W : World) (x : ByteArray) : StrsAt (W.alloc (.cells #[.string x] 9)) (.slice (some ⟨W.heap.size, 0, none⟩) 1 1) [x] := by
  refine ⟨_, _, rfl, fun j v hj => ⟨_, _, rfl, ?_⟩⟩
  have hh : (W.alloc (.cells #[.string x] 9)).heap[W.heap.size]? = some (.cells #[.string x] 9) := World.alloc_heap_new _ _
  match j, hj with
  | 0, hj => cases hj; unfold World.cell?; simp only [hh]; rfl
theorem strs_new2 (W : World) (x y : ByteArray) : StrsAt (W.alloc (.cells #[.string x, .string y] 9)) (.slice (some ⟨W.heap.size, 0, none⟩) 2 2) [x, y] := by
  refine ⟨_, _, rfl, fun j v hj => ⟨_, _, rfl, ?_⟩⟩
  have hh : (W.alloc (.cells #[.string x, .string y] 9)).heap[W.heap.size]? = some (.cells #[.string x, .string y] 9) := World.alloc_heap_new _ _
  match j, hj with
  | 0, hj => cases hj; unfold World.cell?; simp only [hh]; rfl
  | 1, hj => cases hj; unfold World.cell?; simp only [hh]; rfl

/-- Same at a row of the pool's and a new one, equal. -/
theorem same_eq {w : World} {p : Nat} {cap : Int} {sh : List Int} {L : List E} {rows : List (Value × List ByteArray)} (W : World) (va vb : Value) (xs : List ByteArray) (h : SP w p cap sh L rows W) (hm : (va, xs) ∈ rows) (hb : StrsAt W vb xs) (hx : xs.length ≤ 1000000000) :
    Calls Tryz.prog 17 #[va, vb] W fun e W' => e = .returned (.bool true) ∧ SP w p cap sh L rows W' := by
  refine (same_any va vb xs xs W (h.row hm) hb hx hx).mono ?_
  rintro e W' ⟨he, k, rfl⟩
  exact ⟨by rw [he]; simp, h.keep ((Keep.refl _ W).drewN k)⟩

theorem put_sp' {w : World} {p : Nat} {cap : Int} {sh : List Int} {L : List E} {rows : List (Value × List ByteArray)} (t : Int) (key : ByteArray) (z : Int) (W : World) (h : SP w p cap sh L rows W) (hks : key.size ≤ maxLen) (hz2 : z ≤ 9223372036854775807)
    (b : Bool) (T M : List E) (ks : List ByteArray) (n : Nat) (e : putI cap sh L t key z = (b, T, M)) (hn : T.length = n) (hks' : T.map E.key = ks) :
    Calls Tryz.prog 12 #[ptr p, .int .i64 t, .string key, .int .i64 z] W fun e W' => ∃ a c, e = .returned (.tuple #[.slice a n c, .bool b]) ∧ SP w p cap sh M ((.slice a n c, ks) :: rows) W' := by
  subst hn; subst hks'
  exact put_sp t key z W h hks hz2 b T M e

theorem keys_sp' {w : World} {p : Nat} {cap : Int} {sh : List Int} {L : List E} {rows : List (Value × List ByteArray)} (t : Int) (W : World) (h : SP w p cap sh L rows W) (ks : List ByteArray) (n : Nat) (e1 : keysOf L t = ks) (e2 : ks.length = n) :
    Calls Tryz.prog 14 #[ptr p, .int .i64 t] W fun e W' => ∃ a c, e = .returned (.slice a n c) ∧ SP w p cap sh L ((.slice a n c, ks) :: rows) W' := by
  subst e1; subst e2
  exact (keys_sp t W h).mono fun e W' ⟨a, c, h1, h2, _⟩ => ⟨a, c, h1, h2⟩

set_option maxRecDepth 100000 in
set_option maxHeartbeats 1000000 in
theorem sane_any (w : World) : Calls Tryz.prog 4 #[] w fun e w' => e = .returned (.bool true) ∧ Keep (fun _ => False) w w' := by
  go_enter Tryz.func4, Tryz.ntmps4
  go_wp2_with fail
  with_reducible refine (new_ok 10 _ 0 2 2 [4, 4] _ rfl (by decide) (by decide) (by decide) (by decide) (ints_new _ 4 4) rfl).mono ?_
  rintro e W1 ⟨P, rfl, hP, e1, e2, e3, k1, hf⟩
  have H1 := Lib.hid (SP.new ((Keep.refl (fun _ => False) w).alloc _) hP e1 e2 e3 k1 hf)
  clear hP k1 hf e1 e2 e3
  generalize P.p = p at *
  clear P
  go_wp2_with fail
  with_reducible refine (new_no 10 _ 0 2 2 [4, 7] _ rfl (by decide) (by decide) (by decide) (by decide) (ints_new _ 4 7) rfl).mono ?_
  rintro e W2 ⟨rfl, hw2⟩
  have H2 := Lib.hid (H1.out.keep (hw2 ▸ (Keep.refl _ W1).alloc _))
  clear H1
  clear hw2
  go_wp2_with fail
  with_reducible refine (put_sp' 0 (ky 97) 3 _ H2.out (ky_small _) (by decide) true [] [⟨ky 97, 0, 3⟩] [] 0 rfl rfl rfl).mono ?_
  rintro e W3 ⟨a3, c3, rfl, h⟩
  have H3 := Lib.hid h
  clear H2 h
  go_wp2_with fail
  with_reducible refine (put_sp' 0 (ky 98) 3 _ H3.out (ky_small _) (by decide) true [] [⟨ky 97, 0, 3⟩, ⟨ky 98, 0, 3⟩] [] 0 rfl rfl rfl).mono ?_
  rintro e W4 ⟨a4, c4, rfl, h⟩
  have H4 := Lib.hid h
  clear H3 h
  go_wp2_with fail
  with_reducible refine (put_sp' 0 (ky 99) 3 _ H4.out (ky_small _) (by decide) true [] [⟨ky 97, 0, 3⟩, ⟨ky 98, 0, 3⟩, ⟨ky 99, 0, 3⟩] [] 0 rfl rfl rfl).mono ?_
  rintro e W5 ⟨a5, c5, rfl, h⟩
  have H5 := Lib.hid h
  clear H4 h
  go_wp2_with fail
  with_reducible refine (put_sp' 1 (ky 120) 2 _ H5.out (ky_small _) (by decide) true [⟨ky 97, 0, 3⟩] [⟨ky 98, 0, 3⟩, ⟨ky 99, 0, 3⟩, ⟨ky 120, 1, 2⟩] [ky 97] 1 rfl rfl rfl).mono ?_
  rintro e W6 ⟨a6, c6, rfl, h⟩
  have H6 := Lib.hid h
  clear H5 h
  go_wp2_with fail
  with_reducible refine (put_sp' 1 (ky 121) 2 _ H6.out (ky_small _) (by decide) true [] [⟨ky 98, 0, 3⟩, ⟨ky 99, 0, 3⟩, ⟨ky 120, 1, 2⟩, ⟨ky 121, 1, 2⟩] [] 0 rfl rfl rfl).mono ?_
  rintro e W7 ⟨a7, c7, rfl, h⟩
  have H7 := Lib.hid h
  clear H6 h
  go_wp2_with fail
  with_reducible refine (put_sp' 0 (ky 100) 3 _ H7.out (ky_small _) (by decide) true [⟨ky 98, 0, 3⟩] [⟨ky 99, 0, 3⟩, ⟨ky 120, 1, 2⟩, ⟨ky 121, 1, 2⟩, ⟨ky 100, 0, 3⟩] [ky 98] 1 rfl rfl rfl).mono ?_
  rintro e W8 ⟨a8, c8, rfl, h⟩
  have H8 := Lib.hid h
  clear H7 h
  go_wp2_with fail
  with_reducible refine (put_sp' 1 (ky 122) 9 _ H8.out (ky_small _) (by decide) false [] [⟨ky 99, 0, 3⟩, ⟨ky 120, 1, 2⟩, ⟨ky 121, 1, 2⟩, ⟨ky 100, 0, 3⟩] [] 0 rfl rfl rfl).mono ?_
  rintro e W9 ⟨a9, c9, rfl, h⟩
  have H9 := Lib.hid h
  clear H8 h
  go_wp2_with fail
  with_reducible refine (same_eq _ _ _ [ky 97] (H9.out.keep ((Keep.refl _ W9).alloc _)) (by simp) (strs_new1 _ _) (by decide)).mono ?_
  rintro e W10 ⟨rfl, h⟩
  have H10 := Lib.hid h
  clear H9 h
  go_wp2_with fail
  with_reducible refine (same_eq _ _ _ [ky 98] (H10.out.keep ((Keep.refl _ W10).alloc _)) (by simp) (strs_new1 _ _) (by decide)).mono ?_
  rintro e W11 ⟨rfl, h⟩
  have H11 := Lib.hid h
  clear H10 h
  go_wp2_with fail
  with_reducible refine (used_sp 0 _ H11.out).mono ?_
  rintro e w' ⟨rfl, rfl⟩
  rw [show usedI [4, 4] [⟨ky 99, 0, 3⟩, ⟨ky 120, 1, 2⟩, ⟨ky 121, 1, 2⟩, ⟨ky 100, 0, 3⟩] 0 = 6 from rfl]
  go_wp2_with fail
  with_reducible refine (used_sp 1 _ H11.out).mono ?_
  rintro e w' ⟨rfl, rfl⟩
  rw [show usedI [4, 4] [⟨ky 99, 0, 3⟩, ⟨ky 120, 1, 2⟩, ⟨ky 121, 1, 2⟩, ⟨ky 100, 0, 3⟩] 1 = 4 from rfl]
  go_wp2_with fail
  with_reducible refine (free_sp _ H11.out).mono ?_
  rintro e w' ⟨rfl, rfl⟩
  rw [show (10 : Int) - tot [⟨ky 99, 0, 3⟩, ⟨ky 120, 1, 2⟩, ⟨ky 121, 1, 2⟩, ⟨ky 100, 0, 3⟩] = 0 from rfl]
  go_wp2_with fail
  with_reducible refine (keys_sp' 0 _ H11.out [ky 99, ky 100] 2 rfl rfl).mono ?_
  rintro e W12 ⟨a12, c12, rfl, h⟩
  have H12 := Lib.hid h
  clear H11 h
  go_wp2_with fail
  with_reducible refine (same_eq _ _ _ [ky 99, ky 100] (H12.out.keep ((Keep.refl _ W12).alloc _)) (by simp) (strs_new2 _ _ _) (by decide)).mono ?_
  rintro e W13 ⟨rfl, h⟩
  have H13 := Lib.hid h
  clear H12 h
  go_wp2_with fail
  with_reducible refine (has_sp (ky 120) _ H13.out (ky_small _)).mono ?_
  rintro e w' ⟨rfl, rfl⟩
  rw [show (atKey [⟨ky 99, 0, 3⟩, ⟨ky 120, 1, 2⟩, ⟨ky 121, 1, 2⟩, ⟨ky 100, 0, 3⟩] (ky 120)).isSome = true from rfl]
  go_wp2_with fail
  with_reducible refine (tenant_sp (ky 120) _ H13.out (ky_small _)).mono ?_
  rintro e w' ⟨rfl, rfl⟩
  rw [show tenI [⟨ky 99, 0, 3⟩, ⟨ky 120, 1, 2⟩, ⟨ky 121, 1, 2⟩, ⟨ky 100, 0, 3⟩] (ky 120) = 1 from rfl]
  go_wp2_with fail
  with_reducible refine (tenant_sp (ky 97) _ H13.out (ky_small _)).mono ?_
  rintro e w' ⟨rfl, rfl⟩
  rw [show tenI [⟨ky 99, 0, 3⟩, ⟨ky 120, 1, 2⟩, ⟨ky 121, 1, 2⟩, ⟨ky 100, 0, 3⟩] (ky 97) = -1 from rfl]
  go_wp2_with fail
  with_reducible refine (touch_sp (ky 99) _ H13.out (ky_small _)).mono ?_
  rintro e W14 ⟨rfl, h⟩
  rw [show (atKey [⟨ky 99, 0, 3⟩, ⟨ky 120, 1, 2⟩, ⟨ky 121, 1, 2⟩, ⟨ky 100, 0, 3⟩] (ky 99)).isSome = true from rfl]
  rw [show touI [⟨ky 99, 0, 3⟩, ⟨ky 120, 1, 2⟩, ⟨ky 121, 1, 2⟩, ⟨ky 100, 0, 3⟩] (ky 99) = [⟨ky 120, 1, 2⟩, ⟨ky 121, 1, 2⟩, ⟨ky 100, 0, 3⟩, ⟨ky 99, 0, 3⟩] from rfl] at h
  have H14 := Lib.hid h
  clear H13 h
  go_wp2_with fail
  with_reducible refine (keys_sp' 0 _ H14.out [ky 100, ky 99] 2 rfl rfl).mono ?_
  rintro e W15 ⟨a15, c15, rfl, h⟩
  have H15 := Lib.hid h
  clear H14 h
  go_wp2_with fail
  with_reducible refine (same_eq _ _ _ [ky 100, ky 99] (H15.out.keep ((Keep.refl _ W15).alloc _)) (by simp) (strs_new2 _ _ _) (by decide)).mono ?_
  rintro e W16 ⟨rfl, h⟩
  have H16 := Lib.hid h
  clear H15 h
  go_wp2_with fail
  with_reducible refine (remove_sp (ky 120) _ H16.out (ky_small _)).mono ?_
  rintro e W17 ⟨rfl, h⟩
  rw [show (atKey [⟨ky 120, 1, 2⟩, ⟨ky 121, 1, 2⟩, ⟨ky 100, 0, 3⟩, ⟨ky 99, 0, 3⟩] (ky 120)).isSome = true from rfl]
  rw [show woE [⟨ky 120, 1, 2⟩, ⟨ky 121, 1, 2⟩, ⟨ky 100, 0, 3⟩, ⟨ky 99, 0, 3⟩] (ky 120) = [⟨ky 121, 1, 2⟩, ⟨ky 100, 0, 3⟩, ⟨ky 99, 0, 3⟩] from rfl] at h
  have H17 := Lib.hid h
  clear H16 h
  go_wp2_with fail
  with_reducible refine (free_sp _ H17.out).mono ?_
  rintro e w' ⟨rfl, rfl⟩
  rw [show (10 : Int) - tot [⟨ky 121, 1, 2⟩, ⟨ky 100, 0, 3⟩, ⟨ky 99, 0, 3⟩] = 2 from rfl]
  go_wp2_with fail
  go_ret
  exact ⟨rfl, H17.out.k⟩
end Go.Proofs.YtcnpncndecjahaaGreatDoor.Mem

/-
  A pool of the law's own, with what lies beside it; the pool's calls in these words; uses.
-/
namespace Go.Proofs.YtcnpncndecjahaaGreatDoor.Mem
open Go.RowKit Go.Shelf

/-- What is known of memory beside the pool: it lies in the blocks D. -/
structure Side where
  D : Nat → Prop
  Q : World → Prop
  loc : ∀ W W' : World, (∀ b, D b → b < W.heap.size) → (∀ b, D b → W'.heap[b]? = W.heap[b]?) → Q W → Q W'

def Side.none : Side := ⟨fun _ => False, fun _ => True, fun _ _ _ _ _ => trivial⟩
def Side.and (S T : Side) : Side := ⟨fun b => S.D b ∨ T.D b, fun W => S.Q W ∧ T.Q W, fun W W' h1 h2 h3 =>
  ⟨S.loc W W' (fun b hb => h1 b (.inl hb)) (fun b hb => h2 b (.inl hb)) h3.1, T.loc W W' (fun b hb => h1 b (.inr hb)) (fun b hb => h2 b (.inr hb)) h3.2⟩⟩

theorem IntsAt.loc {W W' : World} {b off : Nat} {xs : List Int} (h : IntsAt W b off xs) (e : W'.heap[b]? = W.heap[b]?) : IntsAt W' b off xs := fun j x hj => (World.cell?_of_block (w := W) (a := ⟨b, off + j, none⟩) e).trans (h j x hj)

theorem StrsAt.loc {W W' : World} {v : Value} {xs : List ByteArray} (h : StrsAt W v xs) (e : ∀ b, v.ownBlock = some b → W'.heap[b]? = W.heap[b]?) : StrsAt W' v xs := by
  obtain ⟨a, c, rfl, h⟩ := h
  refine ⟨a, c, rfl, fun j s hj => ?_⟩
  obtain ⟨b, off, rfl, hc⟩ := h j s hj
  exact ⟨b, off, rfl, (World.cell?_of_block (w := W) (a := ⟨b, off + j, none⟩) (e b rfl)).trans hc⟩
def Side.strs (v : Value) (xs : List ByteArray) : Side := ⟨fun b => v.ownBlock = some b, fun W => StrsAt W v xs, fun _ _ _ h2 h => h.loc h2⟩

/-- The law's pool: the call's own, at p, with L in it; S beside it. -/
def LW (w : World) (p : Nat) (cap : Int) (sh : List Int) (L : List E) (S : Side) (W : World) : Prop :=
  ∃ P : Pl, SS w P W ∧ P.p = p ∧ P.cap = cap ∧ P.sh = sh ∧ P.L = L ∧ S.Q W ∧ ∀ b, S.D b → ¬ P.foot b ∧ b < W.heap.size

section
variable {w : World} {p : Nat} {cap : Int} {sh : List Int} {L : List E} {S T : Side} {W W' : World}

theorem LW.k (h : LW w p cap sh L S W) : Keep (fun _ => False) w W := by obtain ⟨P, h, _⟩ := h; exact h.k
theorem LW.q (h : LW w p cap sh L S W) : S.Q W := by obtain ⟨P, _, _, _, _, _, h, _⟩ := h; exact h
theorem LW.keep (h : LW w p cap sh L S W) (k : Keep (fun _ => False) W W') : LW w p cap sh L S W' := by
  obtain ⟨P, h, e1, e2, e3, e4, hq, hd⟩ := h
  exact ⟨P, h.keep k, e1, e2, e3, e4, S.loc W W' (fun b hb => (hd b hb).2) (fun b hb => k.block b (hd b hb).2 (fun h => h)) hq, fun b hb => ⟨(hd b hb).1, Nat.lt_of_lt_of_le (hd b hb).2 k.size⟩⟩
/-- Something new beside the pool. -/
theorem LW.add (h : LW w p cap sh L S W) (k : Keep (fun _ => False) W W') (hq : T.Q W') (hd : ∀ b, T.D b → W.heap.size ≤ b ∧ b < W'.heap.size) : LW w p cap sh L (S.and T) W' := by
  have hq' := (h.keep k).q
  obtain ⟨P, hs, e1, e2, e3, e4, hq0, hd0⟩ := h
  refine ⟨P, hs.keep k, e1, e2, e3, e4, ⟨hq', hq⟩, fun b hb => ?_⟩
  rcases hb with hb | hb
  · exact ⟨(hd0 b hb).1, Nat.lt_of_lt_of_le (hd0 b hb).2 k.size⟩
  · exact ⟨fun hf => by have := hs.at_.lt hf; have := (hd b hb).1; omega, (hd b hb).2⟩
theorem LW.left (h : LW w p cap sh L (S.and T) W) : LW w p cap sh L S W := by
  obtain ⟨P, h, e1, e2, e3, e4, hq, hd⟩ := h
  exact ⟨P, h, e1, e2, e3, e4, hq.1, fun b hb => hd b (.inl hb)⟩

theorem LW.turn {P : Pl} {M : List E} {F : Nat → Prop} (_hs : SS w P W) (hq : S.Q W) (hd : ∀ b, S.D b → ¬ P.foot b ∧ b < W.heap.size) (t : Turn P M W W' F) :
    S.Q W' ∧ ∀ b, S.D b → ¬ F b ∧ b < W'.heap.size :=
  ⟨S.loc W W' (fun b hb => (hd b hb).2) (fun b hb => t.2.1.block b (hd b hb).2 (hd b hb).1) hq,
    fun b hb => ⟨fun hf => (t.2.2 b hf).elim (hd b hb).1 (fun h => by have := (hd b hb).2; omega), Nat.lt_of_lt_of_le (hd b hb).2 t.2.1.size⟩⟩

theorem put_lw (t : Int) (key : ByteArray) (z : Int) (h : LW w p cap sh L S W) (hks : key.size ≤ maxLen) (hz2 : z ≤ 9223372036854775807) :
    Calls Tryz.prog 12 #[ptr p, .int .i64 t, .string key, .int .i64 z] W fun e W' => ∃ a c, e = .returned (.tuple #[.slice a (putI cap sh L t key z).2.1.length c, .bool (putI cap sh L t key z).1]) ∧
      LW w p cap sh (putI cap sh L t key z).2.2 (S.and (.strs (.slice a (putI cap sh L t key z).2.1.length c) ((putI cap sh L t key z).2.1.map E.key))) W' := by
  obtain ⟨P, h, rfl, rfl, rfl, rfl, hq, hd⟩ := h
  refine (put_plain P t key z W h.at_ hks hz2).mono ?_
  rintro e' W' ⟨vo, F, he, ht, hs, hv⟩
  have hst := StrsAt.of_owns hs
  obtain ⟨a, c, hv', _⟩ := id hst
  rw [List.length_map] at hv'
  subst hv'
  obtain ⟨q1, q2⟩ := LW.turn h hq hd ht
  refine ⟨a, c, he, { P with L := _, foot := F }, h.turn ht, rfl, rfl, rfl, rfl, ⟨q1, hst⟩, fun b hb => ?_⟩
  rcases hb with hb | hb
  · exact q2 b hb
  · exact ⟨hv b hb, (World.ownsRow.lt hs b hb).2⟩

theorem touch_lw (key : ByteArray) (h : LW w p cap sh L S W) (hks : key.size ≤ maxLen) :
    Calls Tryz.prog 20 #[ptr p, .string key] W fun e W' => e = .returned (.bool (atKey L key).isSome) ∧ LW w p cap sh (touI L key) S W' := by
  obtain ⟨P, h, rfl, rfl, rfl, rfl, hq, hd⟩ := h
  refine (touch_plain P key W h.at_ hks).mono ?_
  rintro e' W' ⟨F, he, ht⟩
  obtain ⟨q1, q2⟩ := LW.turn h hq hd ht
  exact ⟨he, { P with L := _, foot := F }, h.turn ht, rfl, rfl, rfl, rfl, q1, q2⟩

theorem remove_lw (key : ByteArray) (h : LW w p cap sh L S W) (hks : key.size ≤ maxLen) :
    Calls Tryz.prog 21 #[ptr p, .string key] W fun e W' => e = .returned (.bool (atKey L key).isSome) ∧ LW w p cap sh (woE L key) S W' := by
  obtain ⟨P, h, rfl, rfl, rfl, rfl, hq, hd⟩ := h
  refine (remove_plain P key W h.at_ hks).mono ?_
  rintro e' W' ⟨F, he, ht⟩
  obtain ⟨q1, q2⟩ := LW.turn h hq hd ht
  exact ⟨he, { P with L := _, foot := F }, h.turn ht, rfl, rfl, rfl, rfl, q1, q2⟩

theorem keys_lw (t : Int) (h : LW w p cap sh L S W) :
    Calls Tryz.prog 14 #[ptr p, .int .i64 t] W fun e W' => ∃ a c, e = .returned (.slice a (keysOf L t).length c) ∧ LW w p cap sh L (S.and (.strs (.slice a (keysOf L t).length c) (keysOf L t))) W' ∧ Keep (fun _ => False) W W' := by
  have h0 := h
  obtain ⟨P, h, rfl, rfl, rfl, rfl, hq, hd⟩ := h
  refine (keys_plain P t W h.at_).mono ?_
  rintro e' W' ⟨v, he, hs, _, k⟩
  have hst := StrsAt.of_owns hs
  obtain ⟨a, c, hv', _⟩ := id hst
  subst hv'
  exact ⟨a, c, he, h0.add (T := .strs _ _) k hst (fun b hb => World.ownsRow.lt hs b hb), k⟩

theorem free_lw (h : LW w p cap sh L S W) : Calls Tryz.prog 16 #[ptr p] W fun e W' => e = .returned (.int .i64 (cap - tot L)) ∧ W = W' := by
  obtain ⟨P, h, rfl, rfl, rfl, rfl, _⟩ := h
  exact free_plain P W h.at_
theorem used_lw (t : Int) (h : LW w p cap sh L S W) : Calls Tryz.prog 15 #[ptr p, .int .i64 t] W fun e W' => e = .returned (.int .i64 (usedI sh L t)) ∧ W = W' := by
  obtain ⟨P, h, rfl, rfl, rfl, rfl, _⟩ := h
  exact used_plain P t W h.at_
theorem has_lw (key : ByteArray) (h : LW w p cap sh L S W) (hks : key.size ≤ maxLen) : Calls Tryz.prog 18 #[ptr p, .string key] W fun e W' => e = .returned (.bool (atKey L key).isSome) ∧ W = W' := by
  obtain ⟨P, h, rfl, rfl, rfl, rfl, _⟩ := h
  exact has_plain P key W h.at_ hks
theorem tenant_lw (key : ByteArray) (h : LW w p cap sh L S W) (hks : key.size ≤ maxLen) : Calls Tryz.prog 19 #[ptr p, .string key] W fun e W' => e = .returned (.int .i64 (tenI L key)) ∧ W = W' := by
  obtain ⟨P, h, rfl, rfl, rfl, rfl, _⟩ := h
  exact tenant_plain P key W h.at_ hks

/-- What a pool's list is like. -/
structure Sane (cap : Int) (sh : List Int) (L : List E) : Prop where
  keys : (L.map E.key).Nodup
  rng : ∀ x ∈ L, x.t < sh.length ∧ 1 ≤ x.z
  le : tot L ≤ cap
  cap : cap ≤ 1000000
  n0 : 0 < sh.length
  n8 : sh.length ≤ 8
  shr : ∀ x ∈ sh, 0 ≤ x ∧ x ≤ 1000000
theorem LW.sane (h : LW w p cap sh L S W) : Sane cap sh L := by
  obtain ⟨P, h, rfl, rfl, rfl, rfl, _⟩ := h
  obtain ⟨g, hp, e1, e2, e3, e4, _⟩ := h.at_
  rw [← e2, ← e3, ← e4]
  exact ⟨hp.keys, hp.rng, hp.le, hp.cap, hp.n0, hp.n8, hp.shr⟩
end

theorem usedI_nat {sh : List Int} (L : List E) {t : Nat} (h : t < sh.length) : usedI sh L t = usedOf L t := by
  rw [usedI, if_pos (by omega), Int.toNat_natCast]
end Go.Proofs.YtcnpncndecjahaaGreatDoor.Mem

/-
  The forms of queries: maps of words and functions.
-/
namespace Go.Proofs.YtcnpncndecjahaaGreatDoor
open Go.RowKit Go.Shelf

/-- Bytes as a string. -/
abbrev bs (l : List UInt8) : ByteArray := ⟨l.toArray⟩
theorem intKeyed : Maps.Keyed Tryz.prog 3 := Maps.int_keyed Tryz.underlying3
theorem keyInt {i : Int} (h : I64 i) : keyOf Tryz.prog 3 (.int .i64 i) = some (.int .i64 i) := Maps.keyOf_int_mk Tryz.underlying3 (WalkArith.wf_i64 h)
def fnK (k : Int) : Nat := if k = 1 then 69 else if k = 2 ∨ k = 3 then 70 else if k = 4 ∨ k = 5 ∨ k = 6 then 71 else 72
def glueV (ofb jb : Nat) (k : Int) : Value := if k = 4 ∨ k = 5 ∨ k = 6 then .map (some ofb) else if k = 7 then .map (some jb) else .map none
def formV (ofb jb : Nat) (k : Int) : Value := .agg #[.string (bs (wordK k)), .func (.func (fnK k)) #[] #[], glueV ofb jb k]
def FormR (ofb jb : Nat) (key v : Value) : Prop := ∃ k : Int, 1 ≤ k ∧ k ≤ 7 ∧ key = .int .i64 k ∧ v = formV ofb jb k
/-- Words in front of fields, in memory. -/
def GlueAt (W : World) (gv : Value) (k : Int) : Prop := (gv = .map none ∧ ∀ i, glueK k i = none) ∨ ∃ b, gv = .map (some b) ∧ MapRel Tryz.prog 3 W b (fun key v => ∃ (i : Nat) (g : List UInt8), i ≤ 9 ∧ glueK k i = some g ∧ key = .int .i64 i ∧ v = .string (bs g))
theorem MapRel.kept {P : Program} {kt : TypeId} {W W' : World} {b : Nat} {R : Value → Value → Prop} (h : MapRel P kt W b R) (k : Keep (fun _ => False) W W') : MapRel P kt W' b R := h.of_heap (k.block b h.lt (fun h => h))
theorem GlueAt.kept {W W' : World} {gv : Value} {k : Int} (h : GlueAt W gv k) (q : Keep (fun _ => False) W W') : GlueAt W' gv k := by
  rcases h with h | ⟨b, h1, h2⟩
  · exact .inl h
  · exact .inr ⟨b, h1, h2.kept q⟩
def FormsPost (w : World) (e : Ending) (w' : World) : Prop := ∃ mb ofb jb, e = .returned (.map (some mb)) ∧ MapRel Tryz.prog 3 w' mb (FormR ofb jb) ∧ (∀ k : Int, 1 ≤ k → k ≤ 7 → GlueAt w' (glueV ofb jb k) k) ∧ Keep (fun _ => False) w w'
set_option maxRecDepth 100000 in
set_option maxHeartbeats 4000000 in
theorem forms_any (w : World) : Calls Tryz.prog 34 #[] w (FormsPost w) := by
  have hmm := @run_makeMap Tryz.prog
  have KI : Hid (∀ i : Int, 1 ≤ i ∧ i ≤ 7 → keyOf Tryz.prog 3 (.int .i64 i) = some (.int .i64 i)) := Lib.hid (fun i h => keyInt (by unfold I64; omega))
  have m1 := MapRel.made Tryz.prog 3 w
  obtain ⟨e1, k1, u1, r1⟩ := m1.update intKeyed Tryz.underlying90 (KI.out 1 (by decide)) (.string ⟨#[111, 102]⟩)
  have K1 : Keep (fun _ => False) w ((w.alloc (.map #[] 0)).putObj w.heap.size (.map e1 k1)) := ((Keep.refl _ w).alloc _).putObj _ (.inr (Nat.le_refl _))
  have RO := Lib.hid r1
  have HK0 := Lib.hid K1
  clear m1 r1 K1
  go_enter Tryz.func34, Tryz.ntmps34
  go_upto_region 2 with (fail)
  clear u1
  generalize (w.alloc (.map #[] 0)).putObj w.heap.size (.map e1 k1) = V0 at *
  generalize w.heap.size = ofb at *
  have m1 := MapRel.made Tryz.prog 3 V0
  obtain ⟨e1, k1, u1, r1⟩ := m1.update intKeyed Tryz.underlying93 (KI.out 1 (by decide)) (.agg #[.string ⟨#[114, 111, 119]⟩, .func (.func 69) #[] #[], .map none])
  have K1 : Keep (fun _ => False) V0 ((V0.alloc (.map #[] 0)).putObj V0.heap.size (.map e1 k1)) := ((Keep.refl _ V0).alloc _).putObj _ (.inr (Nat.le_refl _))
  have HNE : Hid (ofb < V0.heap.size) := Lib.hid RO.out.lt
  have RO1 := Lib.hid (RO.out.kept K1)
  have HK1 := Lib.hid (HK0.out.trans K1)
  have HSW : Hid (w.heap.size ≤ V0.heap.size) := Lib.hid HK0.out.size
  have R1 := Lib.hid r1
  clear m1 r1 K1 RO HK0
  go_wp2_with fail
  clear u1
  generalize (V0.alloc (.map #[] 0)).putObj V0.heap.size (.map e1 k1) = V1 at *
  generalize V0.heap.size = mb at *
  have KM1 : Hid (Keep (fun j => j = mb) V1 V1) := Lib.hid (Keep.refl _ V1)
  obtain ⟨e2, k2, u2, r2⟩ := R1.out.update intKeyed Tryz.underlying93 (KI.out 2 (by decide)) (.agg #[.string ⟨#[114, 111, 119, 115]⟩, .func (.func 70) #[] #[], .map none])
  have R2 := Lib.hid r2
  have KM2 := Lib.hid (KM1.out.putObj (.map e2 k2) (.inl (rfl : mb = mb)))
  clear r2 R1 KM1
  rw [u2]
  simp only [Result.andThen]
  rw [Oper.upon_skip]
  go_wp2_with fail
  clear u2
  generalize V1.putObj mb (.map e2 k2) = V2 at *
  obtain ⟨e3, k3, u3, r3⟩ := R2.out.update intKeyed Tryz.underlying93 (KI.out 3 (by decide)) (.agg #[.string ⟨#[99, 111, 117, 110, 116]⟩, .func (.func 70) #[] #[], .map none])
  have R3 := Lib.hid r3
  have KM3 := Lib.hid (KM2.out.putObj (.map e3 k3) (.inl (rfl : mb = mb)))
  clear r3 R2 KM2
  rw [u3]
  simp only [Result.andThen]
  rw [Oper.upon_skip]
  go_wp2_with fail
  clear u3
  generalize V2.putObj mb (.map e3 k3) = V3 at *
  obtain ⟨e4, k4, u4, r4⟩ := R3.out.update intKeyed Tryz.underlying93 (KI.out 4 (by decide)) (.agg #[.string ⟨#[115, 117, 109]⟩, .func (.func 71) #[] #[], .map (some ofb)])
  have R4 := Lib.hid r4
  have KM4 := Lib.hid (KM3.out.putObj (.map e4 k4) (.inl (rfl : mb = mb)))
  clear r4 R3 KM3
  rw [u4]
  simp only [Result.andThen]
  rw [Oper.upon_skip]
  go_wp2_with fail
  clear u4
  generalize V3.putObj mb (.map e4 k4) = V4 at *
  obtain ⟨e5, k5, u5, r5⟩ := R4.out.update intKeyed Tryz.underlying93 (KI.out 5 (by decide)) (.agg #[.string ⟨#[109, 105, 110]⟩, .func (.func 71) #[] #[], .map (some ofb)])
  have R5 := Lib.hid r5
  have KM5 := Lib.hid (KM4.out.putObj (.map e5 k5) (.inl (rfl : mb = mb)))
  clear r5 R4 KM4
  rw [u5]
  simp only [Result.andThen]
  rw [Oper.upon_skip]
  go_wp2_with fail
  clear u5
  generalize V4.putObj mb (.map e5 k5) = V5 at *
  obtain ⟨e6, k6, u6, r6⟩ := R5.out.update intKeyed Tryz.underlying93 (KI.out 6 (by decide)) (.agg #[.string ⟨#[109, 97, 120]⟩, .func (.func 71) #[] #[], .map (some ofb)])
  have R6 := Lib.hid r6
  have KM6 := Lib.hid (KM5.out.putObj (.map e6 k6) (.inl (rfl : mb = mb)))
  clear r6 R5 KM5
  have hsz : (V5.putObj mb (.map e6 k6)).heap.size = V5.heap.size := by simp
  have HSZ := Lib.hid hsz
  clear hsz
  rw [u6]
  simp only [Result.andThen]
  rw [Oper.upon_skip]
  go_wp2_with fail
  clear u6
  generalize V5.putObj mb (.map e6 k6) = V6 at *
  rw [← HSZ.out]
  have m7 := MapRel.made Tryz.prog 3 V6
  obtain ⟨f1, g1, t1, q1⟩ := m7.update intKeyed Tryz.underlying90 (KI.out 1 (by decide)) (.string ⟨#[116, 111]⟩)
  have KA : Hid (Keep (fun _ => False) V6 (V6.alloc (.map #[] 0))) := Lib.hid ((Keep.refl _ V6).alloc _)
  obtain ⟨f2, g2, t2, q2⟩ := q1.update intKeyed Tryz.underlying90 (KI.out 2 (by decide)) (.string ⟨#[111, 102]⟩)
  have Q2 := Lib.hid q2
  have KB : Hid (Keep (fun _ => False) V6 (((V6.alloc (.map #[] 0)).putObj V6.heap.size (.map f1 g1)).putObj V6.heap.size (.map f2 g2))) := Lib.hid ((KA.out.putObj _ (.inr (Nat.le_refl _))).putObj _ (.inr (Nat.le_refl _)))
  clear m7 q1 q2
  have HJB : Hid (mb < V6.heap.size ∧ ofb < V6.heap.size) := Lib.hid (by have h1 := R6.out.lt; have h2 := HNE.out; omega)
  have R7 := Lib.hid (R6.out.kept KB.out)
  rw [t1]
  simp only [Result.andThen]
  rw [Oper.upon_skip]
  go_wp2_with fail
  clear t1 t2
  generalize ((V6.alloc (.map #[] 0)).putObj V6.heap.size (.map f1 g1)).putObj V6.heap.size (.map f2 g2) = V7 at *
  generalize V6.heap.size = jb at *
  obtain ⟨e7, k7, u7, r7⟩ := R7.out.update intKeyed Tryz.underlying93 (KI.out 7 (by decide)) (.agg #[.string ⟨#[106, 111, 105, 110]⟩, .func (.func 72) #[] #[], .map (some jb)])
  have R8 := Lib.hid r7
  have KC := Lib.hid ((Keep.refl (fun j => j = mb) V7).putObj (.map e7 k7) (.inl (rfl : mb = mb)))
  clear r7
  rw [u7]
  simp only [Result.andThen]
  rw [Oper.upon_skip]
  go_wp2_with fail
  clear u7
  generalize V7.putObj mb (.map e7 k7) = V8 at *
  go_ret
  have hne1 := HNE.out
  have hne2 := HJB.out
  have hmb : mb ≠ ofb := by omega
  have KZ : Keep (fun j => j = mb) V1 V8 := (KM6.out.trans (KB.out.mono (fun _ h => h.elim))).trans KC.out
  have hro := RO1.out.of_heap (KZ.block ofb RO1.out.lt (fun e => hmb e.symm))
  have hq := Q2.out.of_heap (KC.out.block jb Q2.out.lt (fun e => by have h5 : jb = mb := e; omega))
  refine ⟨mb, ofb, jb, rfl, ?_, ?_, ?_⟩
  · refine R8.out.congr (fun key v => ?_)
    constructor
    · rintro ⟨k, h1, h2, rfl, rfl⟩
      rcases (by omega : k = 1 ∨ k = 2 ∨ k = 3 ∨ k = 4 ∨ k = 5 ∨ k = 6 ∨ k = 7) with rfl | rfl | rfl | rfl | rfl | rfl | rfl
      · exact .inr ⟨by simp, .inr ⟨by simp, .inr ⟨by simp, .inr ⟨by simp, .inr ⟨by simp, .inr ⟨by simp, .inl ⟨rfl, rfl⟩⟩⟩⟩⟩⟩⟩
      · exact .inr ⟨by simp, .inr ⟨by simp, .inr ⟨by simp, .inr ⟨by simp, .inr ⟨by simp, .inl ⟨rfl, rfl⟩⟩⟩⟩⟩⟩
      · exact .inr ⟨by simp, .inr ⟨by simp, .inr ⟨by simp, .inr ⟨by simp, .inl ⟨rfl, rfl⟩⟩⟩⟩⟩
      · exact .inr ⟨by simp, .inr ⟨by simp, .inr ⟨by simp, .inl ⟨rfl, rfl⟩⟩⟩⟩
      · exact .inr ⟨by simp, .inr ⟨by simp, .inl ⟨rfl, rfl⟩⟩⟩
      · exact .inr ⟨by simp, .inl ⟨rfl, rfl⟩⟩
      · exact .inl ⟨rfl, rfl⟩
    · rintro (⟨rfl, rfl⟩ | ⟨-, ⟨rfl, rfl⟩ | ⟨-, ⟨rfl, rfl⟩ | ⟨-, ⟨rfl, rfl⟩ | ⟨-, ⟨rfl, rfl⟩ | ⟨-, ⟨rfl, rfl⟩ | ⟨-, ⟨rfl, rfl⟩ | ⟨-, h⟩⟩⟩⟩⟩⟩⟩)
      · exact ⟨7, by decide, by decide, rfl, rfl⟩
      · exact ⟨6, by decide, by decide, rfl, rfl⟩
      · exact ⟨5, by decide, by decide, rfl, rfl⟩
      · exact ⟨4, by decide, by decide, rfl, rfl⟩
      · exact ⟨3, by decide, by decide, rfl, rfl⟩
      · exact ⟨2, by decide, by decide, rfl, rfl⟩
      · exact ⟨1, by decide, by decide, rfl, rfl⟩
      · exact h.elim
  · intro k h1 h2
    have hof : ∀ k : Int, (k = 4 ∨ k = 5 ∨ k = 6) → GlueAt V8 (.map (some ofb)) k := fun k hk => .inr ⟨ofb, rfl, hro.congr (fun key v => by
      constructor
      · rintro ⟨i, g, -, hg, rfl, rfl⟩
        unfold glueK at hg
        rw [if_pos hk] at hg
        split at hg
        · rename_i hi
          subst hi
          cases Option.some.inj hg
          exact .inl ⟨rfl, rfl⟩
        · cases hg
      · rintro (⟨rfl, rfl⟩ | ⟨-, h⟩)
        · exact ⟨1, wOf, by decide, by unfold glueK; rw [if_pos hk, if_pos rfl], rfl, rfl⟩
        · exact h.elim)⟩
    rcases (by omega : k = 1 ∨ k = 2 ∨ k = 3 ∨ k = 4 ∨ k = 5 ∨ k = 6 ∨ k = 7) with rfl | rfl | rfl | rfl | rfl | rfl | rfl
    · exact .inl ⟨rfl, fun i => rfl⟩
    · exact .inl ⟨rfl, fun i => rfl⟩
    · exact .inl ⟨rfl, fun i => rfl⟩
    · exact hof 4 (.inl rfl)
    · exact hof 5 (.inr (.inl rfl))
    · exact hof 6 (.inr (.inr rfl))
    · refine .inr ⟨jb, rfl, hq.congr (fun key v => ?_)⟩
      constructor
      · rintro ⟨i, g, -, hg, rfl, rfl⟩
        unfold glueK at hg
        rw [if_neg (by decide), if_pos rfl] at hg
        split at hg
        · rename_i hi
          subst hi
          cases Option.some.inj hg
          exact .inr ⟨by simp, .inl ⟨rfl, rfl⟩⟩
        · split at hg
          · rename_i hi
            subst hi
            cases Option.some.inj hg
            exact .inl ⟨rfl, rfl⟩
          · cases hg
      · rintro (⟨rfl, rfl⟩ | ⟨-, ⟨rfl, rfl⟩ | ⟨-, h⟩⟩)
        · exact ⟨2, wOf, by decide, rfl, rfl, rfl⟩
        · exact ⟨1, wTo, by decide, rfl, rfl, rfl⟩
        · exact h.elim
  · exact HK1.out.trans' ((KM6.out.trans (KB.out.mono (fun _ h => h.elim))).trans KC.out) (fun j e => .inr (by have h5 : j = mb := e; have := HSW.out; omega))
end Go.Proofs.YtcnpncndecjahaaGreatDoor

/-
  DERIVED: THE SHELF's CONTRACTS AT THIS DUMP, IN PLAIN WORDS (tools/lay-plain.mjs out of 'YtcnpncndecjahaaGreatDoorT0.lean', which tools/lay-shelf.mjs wrote): THE SAME DECLARATIONS UNDER THE SAME NAMES: 'import', 'namespace', 'open', 'def', 'theorem' AND NOTHING ELSE: no command of the shelf's: FOR A HAND-IN. Each laying: the table of numbers ('.._ren') and one theorem, a field a fact of the dump's own or the kernel's comparison; each contract: ONE APPLICATION.
-/
namespace Go.Proofs
open Go.Shelf
def Tryz.lays169_ren : Go.Shelf.Ren := ⟨fun | 169 => 39 | n => n, fun | 70 => 95 | 9 => 9 | 0 => 0 | 72 => 98 | 37 => 96 | 127 => 146 | 3 => 3 | 5 => 5 | n => n, fun | n => n⟩
theorem Tryz.lays169 : Go.Proofs.Lays.n169 Tryz.prog Tryz.lays169_ren := {
  mixed := by kernel_rfl
  f169 := Tryz.func39.trans (congrArg some (by kernel_rfl))
  t0 := Tryz.underlying0
  a0 := Tryz.isAgg0
  z0 := Tryz.sizeOf0
  v0 := Tryz.zeroValue0
  t3 := Tryz.underlying3
  a3 := Tryz.isAgg3
  z3 := Tryz.sizeOf3
  v3 := Tryz.zeroValue3
  t9 := Tryz.underlying9
  a9 := Tryz.isAgg9
  z9 := Tryz.sizeOf9
  v9 := Tryz.zeroValue9
  t37 := Tryz.underlying96
  a37 := Tryz.isAgg96
  z37 := Tryz.sizeOf96
  v37 := Tryz.zeroValue96
  t70 := Tryz.underlying95
  a70 := Tryz.isAgg95
  z70 := Tryz.sizeOf95
  v70 := Tryz.zeroValue95
  t72 := Tryz.underlying98
  a72 := Tryz.isAgg98
  z72 := Tryz.sizeOf98
  v72 := Tryz.zeroValue98
  t127 := Tryz.underlying146
  a127 := Tryz.isAgg146
  z127 := Tryz.sizeOf146
  v127 := Tryz.zeroValue146 }
theorem Tryz.Builder_Extra_169 : Builder.Extra Tryz.prog Tryz.lays169_ren := {
  sizeBuilder := by kernel_rfl
  liesBuilder := by kernel_rfl
  t5 := Tryz.underlying5
  a5 := Tryz.isAgg5
  z5 := Tryz.sizeOf5
  v5 := Tryz.zeroValue5
  infoByte := by kernel_rfl
  cellsByte := by kernel_rfl
  sizeByte := by kernel_rfl
  neB5 := by decide }
open Go.RowKit in
/-- (*strings.Builder).String: "String returns the accumulated string.": OF A BUILDER THAT HOLDS AT LEAST ONE BYTE. ✋ THE MODEL FREEZES THOSE BYTES IN THE BUFFER (unsafe.String): a later write INTO them ends the model's run without an answer; a later append BEHIND them goes on. The statement's order of evaluation is drawn: one draw. (LAID: no walk: one application.) -/
theorem Tryz.Builder_String (B b : Nat) (l : List UInt8) (w : World) (h : Lib.IsBuilder 98 5 B b (Lib.byteCells l) w) (h0 : l ≠ []) :
    Calls Tryz.prog 39 #[.pointer (some ⟨b, 0, none⟩)] w fun e w' => e = .returned (.string ⟨l.toArray⟩) ∧ Below B w w' := Any.Builder_String Tryz.lays169 Tryz.Builder_Extra_169 B b l w h h0
open Go.RowKit in
/-- (*strings.Builder).String OF A BUILDER THAT HOLDS NO BYTE: the empty string. (Its buffer is nil, or a row of which it has taken nothing yet; where that row has NO capacity the model lays one new block for unsafe.SliceData's 'some address'.) One draw. (LAID: no walk: one application.) -/
theorem Tryz.Builder_String_empty (B b : Nat) (w : World) (h : Lib.IsBuilder 98 5 B b [] w) (hBw : B ≤ w.heap.size) :
    Calls Tryz.prog 39 #[.pointer (some ⟨b, 0, none⟩)] w fun e w' => e = .returned (.string ⟨#[]⟩) ∧ Below B w w' := Any.Builder_String_empty Tryz.lays169 Tryz.Builder_Extra_169 B b w h hBw
open Go.RowKit in
/-- (*strings.Builder).String: "String returns the accumulated string.": WHATEVER THE BUILDER HOLDS. (LAID: no walk: one application.) -/
theorem Tryz.Builder_String_any (B b : Nat) (l : List UInt8) (w : World) (h : Lib.IsBuilder 98 5 B b (Lib.byteCells l) w) (hBw : B ≤ w.heap.size) :
    Calls Tryz.prog 39 #[.pointer (some ⟨b, 0, none⟩)] w fun e w' => e = .returned (.string ⟨l.toArray⟩) ∧ Below B w w' := Any.Builder_String_any Tryz.lays169 Tryz.Builder_Extra_169 B b l w h hBw
def Tryz.lays128_ren : Go.Shelf.Ren := ⟨fun | 128 => 114 | n => n, fun | 51 => 180 | 3 => 3 | 4 => 4 | 46 => 161 | 5 => 5 | 9 => 9 | n => n, fun | n => n⟩
theorem Tryz.lays128 : Go.Proofs.Lays.n128 Tryz.prog Tryz.lays128_ren := {
  mixed := by kernel_rfl
  f128 := Tryz.func114.trans (congrArg some (by kernel_rfl))
  t3 := Tryz.underlying3
  a3 := Tryz.isAgg3
  z3 := Tryz.sizeOf3
  v3 := Tryz.zeroValue3
  t4 := Tryz.underlying4
  a4 := Tryz.isAgg4
  z4 := Tryz.sizeOf4
  v4 := Tryz.zeroValue4
  t5 := Tryz.underlying5
  a5 := Tryz.isAgg5
  z5 := Tryz.sizeOf5
  v5 := Tryz.zeroValue5
  t9 := Tryz.underlying9
  a9 := Tryz.isAgg9
  z9 := Tryz.sizeOf9
  v9 := Tryz.zeroValue9
  t46 := Tryz.underlying161
  a46 := Tryz.isAgg161
  z46 := Tryz.sizeOf161
  v46 := Tryz.zeroValue161
  t51 := Tryz.underlying180
  a51 := Tryz.isAgg180
  z51 := Tryz.sizeOf180
  v51 := Tryz.zeroValue180 }
/-- bits.Len32: "Len32 returns the minimum number of bits required to represent x; the result is 0 for x == 0.": IT RETURNS 'Lib.bitLen x'; the world is as it was. ('h0', 'h1': x is a uint32.) (LAID: no walk: one application.) -/
theorem Tryz.bits_Len32 (x : Int) (w : World) (h0 : 0 ≤ x) (h1 : x ≤ 4294967295) :
    Calls Tryz.prog 114 #[.int .u32 x] w fun e w' => e = .returned (.int .i64 (Lib.bitLen x.toNat)) ∧ w' = w := Any.bits_Len32 Tryz.lays128 x w h0 h1
def Tryz.lays125_ren : Go.Shelf.Ren := ⟨fun | 125 => 97 | 128 => 114 | 129 => 115 | n => n, fun | 46 => 161 | 3 => 3 | 51 => 180 | 53 => 164 | 4 => 4 | 5 => 5 | 9 => 9 | n => n, fun | n => n⟩
theorem Tryz.lays125 : Go.Proofs.Lays.n125 Tryz.prog Tryz.lays125_ren := {
  mixed := by kernel_rfl
  f125 := Tryz.func97.trans (congrArg some (by kernel_rfl))
  f128 := Tryz.func114.trans (congrArg some (by kernel_rfl))
  f129 := Tryz.func115.trans (congrArg some (by kernel_rfl))
  t3 := Tryz.underlying3
  a3 := Tryz.isAgg3
  z3 := Tryz.sizeOf3
  v3 := Tryz.zeroValue3
  t4 := Tryz.underlying4
  a4 := Tryz.isAgg4
  z4 := Tryz.sizeOf4
  v4 := Tryz.zeroValue4
  t5 := Tryz.underlying5
  a5 := Tryz.isAgg5
  z5 := Tryz.sizeOf5
  v5 := Tryz.zeroValue5
  t9 := Tryz.underlying9
  a9 := Tryz.isAgg9
  z9 := Tryz.sizeOf9
  v9 := Tryz.zeroValue9
  t46 := Tryz.underlying161
  a46 := Tryz.isAgg161
  z46 := Tryz.sizeOf161
  v46 := Tryz.zeroValue161
  t51 := Tryz.underlying180
  a51 := Tryz.isAgg180
  z51 := Tryz.sizeOf180
  v51 := Tryz.zeroValue180
  t53 := Tryz.underlying164
  a53 := Tryz.isAgg164
  z53 := Tryz.sizeOf164
  v53 := Tryz.zeroValue164 }
/-- bits.Len: "Len returns the minimum number of bits required to represent x; the result is 0 for x == 0.": IT RETURNS 'Lib.bitLen x'; the world is as it was. (A uint has 64 bits in the model.) ITS CALLEE bits.Len64 IS MET BY ITS OWN CONTRACT OFF THE SHELF (lay that first). (LAID: no walk: one application.) -/
theorem Tryz.bits_Len (x : Int) (w : World) (h0 : 0 ≤ x) (h1 : x ≤ 18446744073709551615) :
    Calls Tryz.prog 97 #[.int .u64 x] w fun e w' => e = .returned (.int .i64 (Lib.bitLen x.toNat)) ∧ w' = w := Any.bits_Len Tryz.lays125 x w h0 h1
open Go.RowKit in
/-- (*strings.Builder).String: "String returns the accumulated string.": OF A BUILDER THAT HOLDS AT LEAST ONE BYTE. ✋ THE MODEL FREEZES THOSE BYTES IN THE BUFFER (unsafe.String): a later write INTO them ends the model's run without an answer; a later append BEHIND them goes on. The statement's order of evaluation is drawn: one draw. THE FORM '_f': IT SAYS BESIDES THAT THE BUILDER IS A BUILDER STILL ('Lib.IsBuilderF', the same bytes): SO IT CAN BE WRITTEN ON: 'b.WriteString(b.String()[:k])'. (LAID: no walk: one application.) -/
theorem Tryz.Builder_String_f (B b : Nat) (l : List UInt8) (w : World) (h : Lib.IsBuilderF 98 5 B b (Lib.byteCells l) w) (h0 : l ≠ []) :
    Calls Tryz.prog 39 #[.pointer (some ⟨b, 0, none⟩)] w fun e w' => e = .returned (.string ⟨l.toArray⟩) ∧ (Lib.IsBuilderF 98 5 B b (Lib.byteCells l) w' ∧ Below B w w') := Any.Builder_String_f Tryz.lays169 Tryz.Builder_Extra_169 B b l w h h0
open Go.RowKit in
/-- (*strings.Builder).String OF A BUILDER THAT HOLDS NO BYTE: the empty string; THE FORM '_f': a builder still. (LAID: no walk: one application.) -/
theorem Tryz.Builder_String_empty_f (B b : Nat) (w : World) (h : Lib.IsBuilderF 98 5 B b [] w) (hBw : B ≤ w.heap.size) :
    Calls Tryz.prog 39 #[.pointer (some ⟨b, 0, none⟩)] w fun e w' => e = .returned (.string ⟨#[]⟩) ∧ (Lib.IsBuilderF 98 5 B b [] w' ∧ Below B w w') := Any.Builder_String_empty_f Tryz.lays169 Tryz.Builder_Extra_169 B b w h hBw
open Go.RowKit in
/-- (*strings.Builder).String: "String returns the accumulated string.": WHATEVER THE BUILDER HOLDS; THE FORM '_f': OF A BUILDER THAT MAY HAVE BEEN READ BEFORE; AND IT IS A BUILDER STILL, holding the same bytes: it can be written on. (LAID: no walk: one application.) -/
theorem Tryz.Builder_String_any_f (B b : Nat) (l : List UInt8) (w : World) (h : Lib.IsBuilderF 98 5 B b (Lib.byteCells l) w) (hBw : B ≤ w.heap.size) :
    Calls Tryz.prog 39 #[.pointer (some ⟨b, 0, none⟩)] w fun e w' => e = .returned (.string ⟨l.toArray⟩) ∧ (Lib.IsBuilderF 98 5 B b (Lib.byteCells l) w' ∧ Below B w w') := Any.Builder_String_any_f Tryz.lays169 Tryz.Builder_Extra_169 B b l w h hBw
open Go.RowKit in
/-- (*strings.Builder).String: "String returns the accumulated string.": OF A BUILDER THAT HOLDS AT LEAST ONE BYTE. ✋ THE MODEL FREEZES THOSE BYTES IN THE BUFFER (unsafe.String): a later write INTO them ends the model's run without an answer; a later append BEHIND them goes on. The statement's order of evaluation is drawn: one draw. THE FORM '_k': OVER 'Lib.IsBuilderF' (a builder that 'String()' may have read), AND WITH THE FRAME THAT REACHES ABOVE THE BUILDER: 'Lib.OthersKept': every block that is not b and is no row of uint8's stands as it stood: the iterator of a range among them. (LAID: no walk: one application.) -/
theorem Tryz.Builder_String_k (B b : Nat) (l : List UInt8) (w : World) (h : Lib.IsBuilderF 98 5 B b (Lib.byteCells l) w) (h0 : l ≠ []) :
    Calls Tryz.prog 39 #[.pointer (some ⟨b, 0, none⟩)] w fun e w' => e = .returned (.string ⟨l.toArray⟩) ∧ (Lib.IsBuilderF 98 5 B b (Lib.byteCells l) w' ∧ Below B w w' ∧ Lib.OthersKept 5 (some b) w w') := Any.Builder_String_k Tryz.lays169 Tryz.Builder_Extra_169 B b l w h h0
open Go.RowKit in
/-- (*strings.Builder).String OF A BUILDER THAT HOLDS NO BYTE: the empty string; THE FORM '_k': OVER 'Lib.IsBuilderF' (a builder that 'String()' may have read), AND WITH THE FRAME THAT REACHES ABOVE THE BUILDER: 'Lib.OthersKept': every block that is not b and is no row of uint8's stands as it stood: the iterator of a range among them. (LAID: no walk: one application.) -/
theorem Tryz.Builder_String_empty_k (B b : Nat) (w : World) (h : Lib.IsBuilderF 98 5 B b [] w) (hBw : B ≤ w.heap.size) :
    Calls Tryz.prog 39 #[.pointer (some ⟨b, 0, none⟩)] w fun e w' => e = .returned (.string ⟨#[]⟩) ∧ (Lib.IsBuilderF 98 5 B b [] w' ∧ Below B w w' ∧ Lib.OthersKept 5 (some b) w w') := Any.Builder_String_empty_k Tryz.lays169 Tryz.Builder_Extra_169 B b w h hBw
open Go.RowKit in
/-- (*strings.Builder).String: "String returns the accumulated string.": WHATEVER THE BUILDER HOLDS; THE FORM '_k': OVER 'Lib.IsBuilderF' (a builder that 'String()' may have read), AND WITH THE FRAME THAT REACHES ABOVE THE BUILDER: 'Lib.OthersKept': every block that is not b and is no row of uint8's stands as it stood: the iterator of a range among them. (LAID: no walk: one application.) -/
theorem Tryz.Builder_String_any_k (B b : Nat) (l : List UInt8) (w : World) (h : Lib.IsBuilderF 98 5 B b (Lib.byteCells l) w) (hBw : B ≤ w.heap.size) :
    Calls Tryz.prog 39 #[.pointer (some ⟨b, 0, none⟩)] w fun e w' => e = .returned (.string ⟨l.toArray⟩) ∧ (Lib.IsBuilderF 98 5 B b (Lib.byteCells l) w' ∧ Below B w w' ∧ Lib.OthersKept 5 (some b) w w') := Any.Builder_String_any_k Tryz.lays169 Tryz.Builder_Extra_169 B b l w h hBw
def Tryz.lays129_ren : Go.Shelf.Ren := ⟨fun | 129 => 115 | n => n, fun | 53 => 164 | 3 => 3 | 4 => 4 | 46 => 161 | 5 => 5 | 9 => 9 | n => n, fun | n => n⟩
theorem Tryz.lays129 : Go.Proofs.Lays.n129 Tryz.prog Tryz.lays129_ren := {
  mixed := by kernel_rfl
  f129 := Tryz.func115.trans (congrArg some (by kernel_rfl))
  t3 := Tryz.underlying3
  a3 := Tryz.isAgg3
  z3 := Tryz.sizeOf3
  v3 := Tryz.zeroValue3
  t4 := Tryz.underlying4
  a4 := Tryz.isAgg4
  z4 := Tryz.sizeOf4
  v4 := Tryz.zeroValue4
  t5 := Tryz.underlying5
  a5 := Tryz.isAgg5
  z5 := Tryz.sizeOf5
  v5 := Tryz.zeroValue5
  t9 := Tryz.underlying9
  a9 := Tryz.isAgg9
  z9 := Tryz.sizeOf9
  v9 := Tryz.zeroValue9
  t46 := Tryz.underlying161
  a46 := Tryz.isAgg161
  z46 := Tryz.sizeOf161
  v46 := Tryz.zeroValue161
  t53 := Tryz.underlying164
  a53 := Tryz.isAgg164
  z53 := Tryz.sizeOf164
  v53 := Tryz.zeroValue164 }
/-- bits.Len64: "Len64 returns the minimum number of bits required to represent x; the result is 0 for x == 0.": IT RETURNS 'Lib.bitLen x'; the world is as it was. ('h0', 'h1': x is a uint64.) (LAID: no walk: one application.) -/
theorem Tryz.bits_Len64 (x : Int) (w : World) (h0 : 0 ≤ x) (h1 : x ≤ 18446744073709551615) :
    Calls Tryz.prog 115 #[.int .u64 x] w fun e w' => e = .returned (.int .i64 (Lib.bitLen x.toNat)) ∧ w' = w := Any.bits_Len64 Tryz.lays129 x w h0 h1
def Tryz.lays317_ren : Go.Shelf.Ren := ⟨fun | 317 => 116 | n => n, fun | 3 => 3 | 46 => 161 | n => n, fun | n => n⟩
theorem Tryz.lays317 : Go.Proofs.Lays.n317 Tryz.prog Tryz.lays317_ren := {
  mixed := by kernel_rfl
  f317 := Tryz.func116.trans (congrArg some (by kernel_rfl))
  t3 := Tryz.underlying3
  a3 := Tryz.isAgg3
  z3 := Tryz.sizeOf3
  v3 := Tryz.zeroValue3
  t46 := Tryz.underlying161
  a46 := Tryz.isAgg161
  z46 := Tryz.sizeOf161
  v46 := Tryz.zeroValue161 }
open Go.Lib in
/-- internal/strconv.log10Pow2: "log10Pow2(x) returns ⌊log₁₀ 2**x⌋ = ⌊x * log₁₀ 2⌋.": '(x * 78913) >> 18', at an x up to 64 (a length in bits). The world is as it was. (LAID: no walk: one application.) -/
theorem Tryz.internal_strconv_log10Pow2 (x : Nat) (h : x ≤ 64) (w : World) :
    Calls Tryz.prog 116 #[.int .i64 x] w fun e w' => e = .returned (.int .i64 (Lib.l10 x)) ∧ w' = w := Any.internal_strconv_log10Pow2 Tryz.lays317 x h w
def Tryz.lays318_ren : Go.Shelf.Ren := ⟨fun | 318 => 117 | n => n, fun | 3 => 3 | 4 => 4 | n => n, fun | n => n⟩
theorem Tryz.lays318 : Go.Proofs.Lays.n318 Tryz.prog Tryz.lays318_ren := {
  mixed := by kernel_rfl
  f318 := Tryz.func117.trans (congrArg some (by kernel_rfl))
  t3 := Tryz.underlying3
  a3 := Tryz.isAgg3
  z3 := Tryz.sizeOf3
  v3 := Tryz.zeroValue3
  t4 := Tryz.underlying4
  a4 := Tryz.isAgg4
  z4 := Tryz.sizeOf4
  v4 := Tryz.zeroValue4 }
open Go.Lib in
/-- internal/strconv.bool2: "bool2 converts b to an integer: 1 for true, 0 for false." The world is as it was. (LAID: no walk: one application.) -/
theorem Tryz.internal_strconv_bool2_int (b : Bool) (w : World) :
    Calls Tryz.prog 117 #[.bool b] w fun e w' => e = .returned (.int .i64 (if b then 1 else 0)) ∧ w' = w := Any.internal_strconv_bool2_int Tryz.lays318 b w
def Tryz.lays283_ren : Go.Shelf.Ren := ⟨fun | 283 => 99 | n => n, fun | 3 => 3 | 9 => 9 | 4 => 4 | n => n, fun | n => n⟩
theorem Tryz.lays283 : Go.Proofs.Lays.n283 Tryz.prog Tryz.lays283_ren := {
  mixed := by kernel_rfl
  f283 := Tryz.func99.trans (congrArg some (by kernel_rfl))
  t3 := Tryz.underlying3
  a3 := Tryz.isAgg3
  z3 := Tryz.sizeOf3
  v3 := Tryz.zeroValue3
  t4 := Tryz.underlying4
  a4 := Tryz.isAgg4
  z4 := Tryz.sizeOf4
  v4 := Tryz.zeroValue4
  t9 := Tryz.underlying9
  a9 := Tryz.isAgg9
  z9 := Tryz.sizeOf9
  v9 := Tryz.zeroValue9 }
open Go.Lib in
/-- internal/strconv.small: "small returns the string for an i with 0 <= i < nSmalls.": i's decimal numeral. The world is as it was. (LAID: no walk: one application.) -/
theorem Tryz.internal_strconv_small (i : Nat) (h : i < 100) (w : World) :
    Calls Tryz.prog 99 #[.int .i64 i] w fun e w' => e = .returned (.string ⟨(Lib.decDigits i).toArray⟩) ∧ w' = w := Any.internal_strconv_small Tryz.lays283 i h w
def Tryz.laysM284_ren : Go.Shelf.Ren := ⟨fun | 284 => 100 | 129 => 115 | 317 => 116 | 318 => 117 | n => n, fun | 53 => 164 | 3 => 3 | 212 => 182 | 0 => 0 | 4 => 4 | 46 => 161 | 5 => 5 | 9 => 9 | n => n, fun | 17 => 0 | n => n⟩
theorem Tryz.laysM284 : Go.Proofs.LaysM.n284 Tryz.prog Tryz.laysM284_ren := {
  mixed := by kernel_rfl
  f129 := Tryz.func115.trans (congrArg some (by kernel_rfl))
  f284 := Tryz.func100.trans (congrArg some (by kernel_rfl))
  f317 := Tryz.func116.trans (congrArg some (by kernel_rfl))
  f318 := Tryz.func117.trans (congrArg some (by kernel_rfl))
  t0 := Tryz.underlying0
  a0 := Tryz.isAgg0
  z0 := Tryz.sizeOf0
  v0 := Tryz.zeroValue0
  t3 := Tryz.underlying3
  a3 := Tryz.isAgg3
  z3 := Tryz.sizeOf3
  v3 := Tryz.zeroValue3
  t4 := Tryz.underlying4
  a4 := Tryz.isAgg4
  z4 := Tryz.sizeOf4
  v4 := Tryz.zeroValue4
  t5 := Tryz.underlying5
  a5 := Tryz.isAgg5
  z5 := Tryz.sizeOf5
  v5 := Tryz.zeroValue5
  t9 := Tryz.underlying9
  a9 := Tryz.isAgg9
  z9 := Tryz.sizeOf9
  v9 := Tryz.zeroValue9
  t46 := Tryz.underlying161
  a46 := Tryz.isAgg161
  z46 := Tryz.sizeOf161
  v46 := Tryz.zeroValue161
  t53 := Tryz.underlying164
  a53 := Tryz.isAgg164
  z53 := Tryz.sizeOf164
  v53 := Tryz.zeroValue164
  t212 := Tryz.underlying182
  a212 := Tryz.isAgg182
  z212 := Tryz.sizeOf182
  v212 := Tryz.zeroValue182
  g17 := by kernel_rfl
  i0 := by kernel_rfl
  i3 := by kernel_rfl
  i4 := by kernel_rfl
  i5 := by kernel_rfl
  i9 := by kernel_rfl
  i46 := by kernel_rfl
  i53 := by kernel_rfl
  i212 := by kernel_rfl
  m17 := by kernel_rfl }
open Go.Lib in
/-- internal/strconv.numDigits, at a d that is not 0: THE NUMBER OF d's DECIMAL DIGITS. The world is as it was. (LAID: no walk: one application.) -/
theorem Tryz.internal_strconv_numDigits (u : Nat) (h1 : 1 ≤ u) (h2 : u < 18446744073709551616) (w : World) (htab : Lib.TabIs Tryz.prog w "internal/strconv.uint64pow10" .u64 Lib.pow10Tab) :
    Calls Tryz.prog 100 #[.int .u64 u] w fun e w' => e = .returned (.int .i64 (Lib.nDigits u)) ∧ w' = w := Any.internal_strconv_numDigits Tryz.laysM284 u h1 h2 w htab
def Tryz.lays285_ren : Go.Shelf.Ren := ⟨fun | 285 => 101 | n => n, fun | 37 => 96 | 53 => 164 | 3 => 3 | 4 => 4 | 51 => 180 | 9 => 9 | 5 => 5 | 0 => 0 | n => n, fun | n => n⟩
theorem Tryz.lays285 : Go.Proofs.Lays.n285 Tryz.prog Tryz.lays285_ren := {
  mixed := by kernel_rfl
  f285 := Tryz.func101.trans (congrArg some (by kernel_rfl))
  t0 := Tryz.underlying0
  a0 := Tryz.isAgg0
  z0 := Tryz.sizeOf0
  v0 := Tryz.zeroValue0
  t3 := Tryz.underlying3
  a3 := Tryz.isAgg3
  z3 := Tryz.sizeOf3
  v3 := Tryz.zeroValue3
  t4 := Tryz.underlying4
  a4 := Tryz.isAgg4
  z4 := Tryz.sizeOf4
  v4 := Tryz.zeroValue4
  t5 := Tryz.underlying5
  a5 := Tryz.isAgg5
  z5 := Tryz.sizeOf5
  v5 := Tryz.zeroValue5
  t9 := Tryz.underlying9
  a9 := Tryz.isAgg9
  z9 := Tryz.sizeOf9
  v9 := Tryz.zeroValue9
  t37 := Tryz.underlying96
  a37 := Tryz.isAgg96
  z37 := Tryz.sizeOf96
  v37 := Tryz.zeroValue96
  t51 := Tryz.underlying180
  a51 := Tryz.isAgg180
  z51 := Tryz.sizeOf180
  v51 := Tryz.zeroValue180
  t53 := Tryz.underlying164
  a53 := Tryz.isAgg164
  z53 := Tryz.sizeOf164
  v53 := Tryz.zeroValue164 }
open Go.RowKit Go.Sort Go.Lib in
/-- internal/strconv.formatBase10: "formatBase10 formats the decimal representation of u into a. The caller is responsible for ensuring that a is big enough to hold u. If a is too big, leading zeros will be filled in as needed.": THE ROW HOLDS u's DIGITS ('FmtInv .. 0 ..': every place t holds 'dg u (len - 1 - t)'); all else is as it was but for the count of draws. (LAID: no walk: one application.) -/
theorem Tryz.internal_strconv_formatBase10 (blk off cap : Nat) (u : Nat) (d : Array UInt8) (w : World) (hH : Holds (fun (b : UInt8) => Value.int .u8 (b.toNat : Int)) w blk off d) (hu : u < 10 ^ d.size) (hu64 : u < 18446744073709551616) (hsz : d.size < 4611686018427387904) :
    Calls Tryz.prog 101 #[.slice (some ⟨blk, off, none⟩) d.size cap, .int .u64 u] w fun e w' =>
      e = .returned (.tuple #[]) ∧ ∃ (n v' : Nat) (dk : Array UInt8), w' = (putRow (fun (b : UInt8) => Value.int .u8 (b.toNat : Int)) w blk off dk).drewN n ∧ FmtInv d.size u 0 v' dk := Any.internal_strconv_formatBase10 Tryz.lays285 blk off cap u d w hH hu hu64 hsz
def Tryz.laysM246_ren : Go.Shelf.Ren := ⟨fun | 246 => 91 | 283 => 99 | 284 => 100 | 285 => 101 | 286 => 102 | 129 => 115 | 317 => 116 | 318 => 117 | 319 => 118 | 320 => 119 | 337 => 127 | 338 => 128 | n => n, fun | 2 => 2 | 3 => 3 | 9 => 9 | 4 => 4 | 171 => 163 | 0 => 0 | 53 => 164 | 37 => 96 | 5 => 5 | 173 => 167 | 212 => 182 | 51 => 180 | 20 => 20 | 213 => 183 | 46 => 161 | 232 => 193 | 233 => 194 | n => n, fun | 17 => 0 | 18 => 1 | 19 => 2 | n => n⟩
theorem Tryz.laysM246 : Go.Proofs.LaysM.n246 Tryz.prog Tryz.laysM246_ren := {
  mixed := by kernel_rfl
  f129 := Tryz.func115.trans (congrArg some (by kernel_rfl))
  f246 := Tryz.func91.trans (congrArg some (by kernel_rfl))
  f283 := Tryz.func99.trans (congrArg some (by kernel_rfl))
  f284 := Tryz.func100.trans (congrArg some (by kernel_rfl))
  f285 := Tryz.func101.trans (congrArg some (by kernel_rfl))
  f286 := Tryz.func102.trans (congrArg some (by kernel_rfl))
  f317 := Tryz.func116.trans (congrArg some (by kernel_rfl))
  f318 := Tryz.func117.trans (congrArg some (by kernel_rfl))
  f319 := Tryz.func118.trans (congrArg some (by kernel_rfl))
  f320 := Tryz.func119.trans (congrArg some (by kernel_rfl))
  f337 := Tryz.func127.trans (congrArg some (by kernel_rfl))
  f338 := Tryz.func128.trans (congrArg some (by kernel_rfl))
  t0 := Tryz.underlying0
  a0 := Tryz.isAgg0
  z0 := Tryz.sizeOf0
  v0 := Tryz.zeroValue0
  t2 := Tryz.underlying2
  a2 := Tryz.isAgg2
  z2 := Tryz.sizeOf2
  v2 := Tryz.zeroValue2
  t3 := Tryz.underlying3
  a3 := Tryz.isAgg3
  z3 := Tryz.sizeOf3
  v3 := Tryz.zeroValue3
  t4 := Tryz.underlying4
  a4 := Tryz.isAgg4
  z4 := Tryz.sizeOf4
  v4 := Tryz.zeroValue4
  t5 := Tryz.underlying5
  a5 := Tryz.isAgg5
  z5 := Tryz.sizeOf5
  v5 := Tryz.zeroValue5
  t9 := Tryz.underlying9
  a9 := Tryz.isAgg9
  z9 := Tryz.sizeOf9
  v9 := Tryz.zeroValue9
  t20 := Tryz.underlying20
  a20 := Tryz.isAgg20
  z20 := Tryz.sizeOf20
  v20 := Tryz.zeroValue20
  t37 := Tryz.underlying96
  a37 := Tryz.isAgg96
  z37 := Tryz.sizeOf96
  v37 := Tryz.zeroValue96
  t46 := Tryz.underlying161
  a46 := Tryz.isAgg161
  z46 := Tryz.sizeOf161
  v46 := Tryz.zeroValue161
  t51 := Tryz.underlying180
  a51 := Tryz.isAgg180
  z51 := Tryz.sizeOf180
  v51 := Tryz.zeroValue180
  t53 := Tryz.underlying164
  a53 := Tryz.isAgg164
  z53 := Tryz.sizeOf164
  v53 := Tryz.zeroValue164
  t171 := Tryz.underlying163
  a171 := Tryz.isAgg163
  z171 := Tryz.sizeOf163
  v171 := Tryz.zeroValue163
  t173 := Tryz.underlying167
  a173 := Tryz.isAgg167
  z173 := Tryz.sizeOf167
  v173 := Tryz.zeroValue167
  t212 := Tryz.underlying182
  a212 := Tryz.isAgg182
  z212 := Tryz.sizeOf182
  v212 := Tryz.zeroValue182
  t213 := Tryz.underlying183
  a213 := Tryz.isAgg183
  z213 := Tryz.sizeOf183
  t232 := Tryz.underlying193
  a232 := Tryz.isAgg193
  z232 := Tryz.sizeOf193
  v232 := Tryz.zeroValue193
  t233 := Tryz.underlying194
  a233 := Tryz.isAgg194
  z233 := Tryz.sizeOf194
  v233 := Tryz.zeroValue194
  g17 := by kernel_rfl
  g18 := by kernel_rfl
  g19 := by kernel_rfl
  i0 := by kernel_rfl
  i2 := by kernel_rfl
  i3 := by kernel_rfl
  i4 := by kernel_rfl
  i5 := by kernel_rfl
  i9 := by kernel_rfl
  i20 := by kernel_rfl
  i37 := by kernel_rfl
  i46 := by kernel_rfl
  i51 := by kernel_rfl
  i53 := by kernel_rfl
  i171 := by kernel_rfl
  i173 := by kernel_rfl
  i212 := by kernel_rfl
  i232 := by kernel_rfl
  i233 := by kernel_rfl
  m17 := by kernel_rfl
  m18 := by kernel_rfl
  m19 := by kernel_rfl }
open Go.RowKit Go.Sort Go.Lib in
/-- internal/strconv.FormatInt: "FormatInt returns the string representation of i in the given base": AT BASE 10: i's decimal numeral, for every int64. The world behind the call: the world before it, new blocks behind the heap, draws. (LAID: no walk: one application.) -/
theorem Tryz.internal_strconv_FormatInt_10 (n : Int) (h0 : -9223372036854775808 ≤ n) (h1 : n ≤ 9223372036854775807) (w : World) (htab : Lib.TabIs Tryz.prog w "internal/strconv.uint64pow10" .u64 Lib.pow10Tab) :
    Calls Tryz.prog 91 #[.int .i64 n, .int .i64 10] w fun e w' => e = .returned (.string ⟨(Lib.itoa n).toArray⟩) ∧ ∃ k os, w' = grow (w.drewN k) os := Any.internal_strconv_FormatInt_10 Tryz.laysM246 n h0 h1 w htab
def Tryz.lays246_ren : Go.Shelf.Ren := ⟨fun | 246 => 91 | 283 => 99 | 284 => 100 | 285 => 101 | 286 => 102 | 129 => 115 | 317 => 116 | 318 => 117 | 319 => 118 | 320 => 119 | 337 => 127 | 338 => 128 | n => n, fun | 2 => 2 | 3 => 3 | 9 => 9 | 4 => 4 | 171 => 163 | 0 => 0 | 53 => 164 | 37 => 96 | 5 => 5 | 173 => 167 | 212 => 182 | 51 => 180 | 20 => 20 | 213 => 183 | 46 => 161 | 232 => 193 | 233 => 194 | n => n, fun | 17 => 0 | 18 => 1 | 19 => 2 | n => n⟩
theorem Tryz.lays246 : Go.Proofs.Lays.n246 Tryz.prog Tryz.lays246_ren := {
  mixed := by kernel_rfl
  f129 := Tryz.func115.trans (congrArg some (by kernel_rfl))
  f246 := Tryz.func91.trans (congrArg some (by kernel_rfl))
  f283 := Tryz.func99.trans (congrArg some (by kernel_rfl))
  f284 := Tryz.func100.trans (congrArg some (by kernel_rfl))
  f285 := Tryz.func101.trans (congrArg some (by kernel_rfl))
  f286 := Tryz.func102.trans (congrArg some (by kernel_rfl))
  f317 := Tryz.func116.trans (congrArg some (by kernel_rfl))
  f318 := Tryz.func117.trans (congrArg some (by kernel_rfl))
  f319 := Tryz.func118.trans (congrArg some (by kernel_rfl))
  f320 := Tryz.func119.trans (congrArg some (by kernel_rfl))
  f337 := Tryz.func127.trans (congrArg some (by kernel_rfl))
  f338 := Tryz.func128.trans (congrArg some (by kernel_rfl))
  t0 := Tryz.underlying0
  a0 := Tryz.isAgg0
  z0 := Tryz.sizeOf0
  v0 := Tryz.zeroValue0
  t2 := Tryz.underlying2
  a2 := Tryz.isAgg2
  z2 := Tryz.sizeOf2
  v2 := Tryz.zeroValue2
  t3 := Tryz.underlying3
  a3 := Tryz.isAgg3
  z3 := Tryz.sizeOf3
  v3 := Tryz.zeroValue3
  t4 := Tryz.underlying4
  a4 := Tryz.isAgg4
  z4 := Tryz.sizeOf4
  v4 := Tryz.zeroValue4
  t5 := Tryz.underlying5
  a5 := Tryz.isAgg5
  z5 := Tryz.sizeOf5
  v5 := Tryz.zeroValue5
  t9 := Tryz.underlying9
  a9 := Tryz.isAgg9
  z9 := Tryz.sizeOf9
  v9 := Tryz.zeroValue9
  t20 := Tryz.underlying20
  a20 := Tryz.isAgg20
  z20 := Tryz.sizeOf20
  v20 := Tryz.zeroValue20
  t37 := Tryz.underlying96
  a37 := Tryz.isAgg96
  z37 := Tryz.sizeOf96
  v37 := Tryz.zeroValue96
  t46 := Tryz.underlying161
  a46 := Tryz.isAgg161
  z46 := Tryz.sizeOf161
  v46 := Tryz.zeroValue161
  t51 := Tryz.underlying180
  a51 := Tryz.isAgg180
  z51 := Tryz.sizeOf180
  v51 := Tryz.zeroValue180
  t53 := Tryz.underlying164
  a53 := Tryz.isAgg164
  z53 := Tryz.sizeOf164
  v53 := Tryz.zeroValue164
  t171 := Tryz.underlying163
  a171 := Tryz.isAgg163
  z171 := Tryz.sizeOf163
  v171 := Tryz.zeroValue163
  t173 := Tryz.underlying167
  a173 := Tryz.isAgg167
  z173 := Tryz.sizeOf167
  v173 := Tryz.zeroValue167
  t212 := Tryz.underlying182
  a212 := Tryz.isAgg182
  z212 := Tryz.sizeOf182
  v212 := Tryz.zeroValue182
  t213 := Tryz.underlying183
  a213 := Tryz.isAgg183
  z213 := Tryz.sizeOf183
  t232 := Tryz.underlying193
  a232 := Tryz.isAgg193
  z232 := Tryz.sizeOf193
  v232 := Tryz.zeroValue193
  t233 := Tryz.underlying194
  a233 := Tryz.isAgg194
  z233 := Tryz.sizeOf194
  v233 := Tryz.zeroValue194
  g17 := by kernel_rfl
  g18 := by kernel_rfl
  g19 := by kernel_rfl }
open Go.RowKit Go.Sort Go.Lib in
/-- THE ROAD WITHOUT THE TABLE: 0 <= i < 100: two constants are read, nothing is laid: no premise on the world, and the world is as it was. (LAID: no walk: one application.) -/
theorem Tryz.internal_strconv_FormatInt_10_small (i : Nat) (hi : i < 100) (w : World) :
    Calls Tryz.prog 91 #[.int .i64 i, .int .i64 10] w fun e w' => e = .returned (.string ⟨(Lib.decDigits i).toArray⟩) ∧ w' = w := Any.internal_strconv_FormatInt_10_small Tryz.lays246 i hi w
def Tryz.laysM243_ren : Go.Shelf.Ren := ⟨fun | 243 => 74 | 246 => 91 | 283 => 99 | 284 => 100 | 285 => 101 | 286 => 102 | 129 => 115 | 317 => 116 | 318 => 117 | 319 => 118 | 320 => 119 | 337 => 127 | 338 => 128 | n => n, fun | 3 => 3 | 9 => 9 | 2 => 2 | 4 => 4 | 171 => 163 | 0 => 0 | 53 => 164 | 37 => 96 | 5 => 5 | 173 => 167 | 212 => 182 | 51 => 180 | 20 => 20 | 213 => 183 | 46 => 161 | 232 => 193 | 233 => 194 | n => n, fun | 17 => 0 | 18 => 1 | 19 => 2 | n => n⟩
theorem Tryz.laysM243 : Go.Proofs.LaysM.n243 Tryz.prog Tryz.laysM243_ren := {
  mixed := by kernel_rfl
  f129 := Tryz.func115.trans (congrArg some (by kernel_rfl))
  f243 := Tryz.func74.trans (congrArg some (by kernel_rfl))
  f246 := Tryz.func91.trans (congrArg some (by kernel_rfl))
  f283 := Tryz.func99.trans (congrArg some (by kernel_rfl))
  f284 := Tryz.func100.trans (congrArg some (by kernel_rfl))
  f285 := Tryz.func101.trans (congrArg some (by kernel_rfl))
  f286 := Tryz.func102.trans (congrArg some (by kernel_rfl))
  f317 := Tryz.func116.trans (congrArg some (by kernel_rfl))
  f318 := Tryz.func117.trans (congrArg some (by kernel_rfl))
  f319 := Tryz.func118.trans (congrArg some (by kernel_rfl))
  f320 := Tryz.func119.trans (congrArg some (by kernel_rfl))
  f337 := Tryz.func127.trans (congrArg some (by kernel_rfl))
  f338 := Tryz.func128.trans (congrArg some (by kernel_rfl))
  t0 := Tryz.underlying0
  a0 := Tryz.isAgg0
  z0 := Tryz.sizeOf0
  v0 := Tryz.zeroValue0
  t2 := Tryz.underlying2
  a2 := Tryz.isAgg2
  z2 := Tryz.sizeOf2
  v2 := Tryz.zeroValue2
  t3 := Tryz.underlying3
  a3 := Tryz.isAgg3
  z3 := Tryz.sizeOf3
  v3 := Tryz.zeroValue3
  t4 := Tryz.underlying4
  a4 := Tryz.isAgg4
  z4 := Tryz.sizeOf4
  v4 := Tryz.zeroValue4
  t5 := Tryz.underlying5
  a5 := Tryz.isAgg5
  z5 := Tryz.sizeOf5
  v5 := Tryz.zeroValue5
  t9 := Tryz.underlying9
  a9 := Tryz.isAgg9
  z9 := Tryz.sizeOf9
  v9 := Tryz.zeroValue9
  t20 := Tryz.underlying20
  a20 := Tryz.isAgg20
  z20 := Tryz.sizeOf20
  v20 := Tryz.zeroValue20
  t37 := Tryz.underlying96
  a37 := Tryz.isAgg96
  z37 := Tryz.sizeOf96
  v37 := Tryz.zeroValue96
  t46 := Tryz.underlying161
  a46 := Tryz.isAgg161
  z46 := Tryz.sizeOf161
  v46 := Tryz.zeroValue161
  t51 := Tryz.underlying180
  a51 := Tryz.isAgg180
  z51 := Tryz.sizeOf180
  v51 := Tryz.zeroValue180
  t53 := Tryz.underlying164
  a53 := Tryz.isAgg164
  z53 := Tryz.sizeOf164
  v53 := Tryz.zeroValue164
  t171 := Tryz.underlying163
  a171 := Tryz.isAgg163
  z171 := Tryz.sizeOf163
  v171 := Tryz.zeroValue163
  t173 := Tryz.underlying167
  a173 := Tryz.isAgg167
  z173 := Tryz.sizeOf167
  v173 := Tryz.zeroValue167
  t212 := Tryz.underlying182
  a212 := Tryz.isAgg182
  z212 := Tryz.sizeOf182
  v212 := Tryz.zeroValue182
  t213 := Tryz.underlying183
  a213 := Tryz.isAgg183
  z213 := Tryz.sizeOf183
  t232 := Tryz.underlying193
  a232 := Tryz.isAgg193
  z232 := Tryz.sizeOf193
  v232 := Tryz.zeroValue193
  t233 := Tryz.underlying194
  a233 := Tryz.isAgg194
  z233 := Tryz.sizeOf194
  v233 := Tryz.zeroValue194
  g17 := by kernel_rfl
  g18 := by kernel_rfl
  g19 := by kernel_rfl
  i0 := by kernel_rfl
  i2 := by kernel_rfl
  i3 := by kernel_rfl
  i4 := by kernel_rfl
  i5 := by kernel_rfl
  i9 := by kernel_rfl
  i20 := by kernel_rfl
  i37 := by kernel_rfl
  i46 := by kernel_rfl
  i51 := by kernel_rfl
  i53 := by kernel_rfl
  i171 := by kernel_rfl
  i173 := by kernel_rfl
  i212 := by kernel_rfl
  i232 := by kernel_rfl
  i233 := by kernel_rfl
  m17 := by kernel_rfl
  m18 := by kernel_rfl
  m19 := by kernel_rfl }
open Go.RowKit Go.Sort Go.Lib in
/-- internal/strconv.Itoa: "Itoa is equivalent to FormatInt(int64(i), 10).": i's decimal numeral, for every int. (LAID: no walk: one application.) -/
theorem Tryz.internal_strconv_Itoa (n : Int) (h0 : -9223372036854775808 ≤ n) (h1 : n ≤ 9223372036854775807) (w : World) (htab : Lib.TabIs Tryz.prog w "internal/strconv.uint64pow10" .u64 Lib.pow10Tab) :
    Calls Tryz.prog 74 #[.int .i64 n] w fun e w' => e = .returned (.string ⟨(Lib.itoa n).toArray⟩) ∧ ∃ k os, w' = grow (w.drewN k) os := Any.internal_strconv_Itoa Tryz.laysM243 n h0 h1 w htab
def Tryz.lays243_ren : Go.Shelf.Ren := ⟨fun | 243 => 74 | 246 => 91 | 283 => 99 | 284 => 100 | 285 => 101 | 286 => 102 | 129 => 115 | 317 => 116 | 318 => 117 | 319 => 118 | 320 => 119 | 337 => 127 | 338 => 128 | n => n, fun | 3 => 3 | 9 => 9 | 2 => 2 | 4 => 4 | 171 => 163 | 0 => 0 | 53 => 164 | 37 => 96 | 5 => 5 | 173 => 167 | 212 => 182 | 51 => 180 | 20 => 20 | 213 => 183 | 46 => 161 | 232 => 193 | 233 => 194 | n => n, fun | 17 => 0 | 18 => 1 | 19 => 2 | n => n⟩
theorem Tryz.lays243 : Go.Proofs.Lays.n243 Tryz.prog Tryz.lays243_ren := {
  mixed := by kernel_rfl
  f129 := Tryz.func115.trans (congrArg some (by kernel_rfl))
  f243 := Tryz.func74.trans (congrArg some (by kernel_rfl))
  f246 := Tryz.func91.trans (congrArg some (by kernel_rfl))
  f283 := Tryz.func99.trans (congrArg some (by kernel_rfl))
  f284 := Tryz.func100.trans (congrArg some (by kernel_rfl))
  f285 := Tryz.func101.trans (congrArg some (by kernel_rfl))
  f286 := Tryz.func102.trans (congrArg some (by kernel_rfl))
  f317 := Tryz.func116.trans (congrArg some (by kernel_rfl))
  f318 := Tryz.func117.trans (congrArg some (by kernel_rfl))
  f319 := Tryz.func118.trans (congrArg some (by kernel_rfl))
  f320 := Tryz.func119.trans (congrArg some (by kernel_rfl))
  f337 := Tryz.func127.trans (congrArg some (by kernel_rfl))
  f338 := Tryz.func128.trans (congrArg some (by kernel_rfl))
  t0 := Tryz.underlying0
  a0 := Tryz.isAgg0
  z0 := Tryz.sizeOf0
  v0 := Tryz.zeroValue0
  t2 := Tryz.underlying2
  a2 := Tryz.isAgg2
  z2 := Tryz.sizeOf2
  v2 := Tryz.zeroValue2
  t3 := Tryz.underlying3
  a3 := Tryz.isAgg3
  z3 := Tryz.sizeOf3
  v3 := Tryz.zeroValue3
  t4 := Tryz.underlying4
  a4 := Tryz.isAgg4
  z4 := Tryz.sizeOf4
  v4 := Tryz.zeroValue4
  t5 := Tryz.underlying5
  a5 := Tryz.isAgg5
  z5 := Tryz.sizeOf5
  v5 := Tryz.zeroValue5
  t9 := Tryz.underlying9
  a9 := Tryz.isAgg9
  z9 := Tryz.sizeOf9
  v9 := Tryz.zeroValue9
  t20 := Tryz.underlying20
  a20 := Tryz.isAgg20
  z20 := Tryz.sizeOf20
  v20 := Tryz.zeroValue20
  t37 := Tryz.underlying96
  a37 := Tryz.isAgg96
  z37 := Tryz.sizeOf96
  v37 := Tryz.zeroValue96
  t46 := Tryz.underlying161
  a46 := Tryz.isAgg161
  z46 := Tryz.sizeOf161
  v46 := Tryz.zeroValue161
  t51 := Tryz.underlying180
  a51 := Tryz.isAgg180
  z51 := Tryz.sizeOf180
  v51 := Tryz.zeroValue180
  t53 := Tryz.underlying164
  a53 := Tryz.isAgg164
  z53 := Tryz.sizeOf164
  v53 := Tryz.zeroValue164
  t171 := Tryz.underlying163
  a171 := Tryz.isAgg163
  z171 := Tryz.sizeOf163
  v171 := Tryz.zeroValue163
  t173 := Tryz.underlying167
  a173 := Tryz.isAgg167
  z173 := Tryz.sizeOf167
  v173 := Tryz.zeroValue167
  t212 := Tryz.underlying182
  a212 := Tryz.isAgg182
  z212 := Tryz.sizeOf182
  v212 := Tryz.zeroValue182
  t213 := Tryz.underlying183
  a213 := Tryz.isAgg183
  z213 := Tryz.sizeOf183
  t232 := Tryz.underlying193
  a232 := Tryz.isAgg193
  z232 := Tryz.sizeOf193
  v232 := Tryz.zeroValue193
  t233 := Tryz.underlying194
  a233 := Tryz.isAgg194
  z233 := Tryz.sizeOf194
  v233 := Tryz.zeroValue194
  g17 := by kernel_rfl
  g18 := by kernel_rfl
  g19 := by kernel_rfl }
open Go.RowKit Go.Sort Go.Lib in
/-- THE ROAD WITHOUT THE TABLE: 0 <= i < 100. (LAID: no walk: one application.) -/
theorem Tryz.internal_strconv_Itoa_small (i : Nat) (hi : i < 100) (w : World) :
    Calls Tryz.prog 74 #[.int .i64 i] w fun e w' => e = .returned (.string ⟨(Lib.decDigits i).toArray⟩) ∧ w' = w := Any.internal_strconv_Itoa_small Tryz.lays243 i hi w
def Tryz.laysM171_ren : Go.Shelf.Ren := ⟨fun | 171 => 38 | 243 => 74 | 246 => 91 | 283 => 99 | 284 => 100 | 285 => 101 | 286 => 102 | 129 => 115 | 317 => 116 | 318 => 117 | 319 => 118 | 320 => 119 | 337 => 127 | 338 => 128 | n => n, fun | 3 => 3 | 9 => 9 | 2 => 2 | 4 => 4 | 171 => 163 | 0 => 0 | 53 => 164 | 37 => 96 | 5 => 5 | 173 => 167 | 212 => 182 | 51 => 180 | 20 => 20 | 213 => 183 | 46 => 161 | 232 => 193 | 233 => 194 | n => n, fun | 17 => 0 | 18 => 1 | 19 => 2 | n => n⟩
theorem Tryz.laysM171 : Go.Proofs.LaysM.n171 Tryz.prog Tryz.laysM171_ren := {
  mixed := by kernel_rfl
  f129 := Tryz.func115.trans (congrArg some (by kernel_rfl))
  f171 := Tryz.func38.trans (congrArg some (by kernel_rfl))
  f243 := Tryz.func74.trans (congrArg some (by kernel_rfl))
  f246 := Tryz.func91.trans (congrArg some (by kernel_rfl))
  f283 := Tryz.func99.trans (congrArg some (by kernel_rfl))
  f284 := Tryz.func100.trans (congrArg some (by kernel_rfl))
  f285 := Tryz.func101.trans (congrArg some (by kernel_rfl))
  f286 := Tryz.func102.trans (congrArg some (by kernel_rfl))
  f317 := Tryz.func116.trans (congrArg some (by kernel_rfl))
  f318 := Tryz.func117.trans (congrArg some (by kernel_rfl))
  f319 := Tryz.func118.trans (congrArg some (by kernel_rfl))
  f320 := Tryz.func119.trans (congrArg some (by kernel_rfl))
  f337 := Tryz.func127.trans (congrArg some (by kernel_rfl))
  f338 := Tryz.func128.trans (congrArg some (by kernel_rfl))
  t0 := Tryz.underlying0
  a0 := Tryz.isAgg0
  z0 := Tryz.sizeOf0
  v0 := Tryz.zeroValue0
  t2 := Tryz.underlying2
  a2 := Tryz.isAgg2
  z2 := Tryz.sizeOf2
  v2 := Tryz.zeroValue2
  t3 := Tryz.underlying3
  a3 := Tryz.isAgg3
  z3 := Tryz.sizeOf3
  v3 := Tryz.zeroValue3
  t4 := Tryz.underlying4
  a4 := Tryz.isAgg4
  z4 := Tryz.sizeOf4
  v4 := Tryz.zeroValue4
  t5 := Tryz.underlying5
  a5 := Tryz.isAgg5
  z5 := Tryz.sizeOf5
  v5 := Tryz.zeroValue5
  t9 := Tryz.underlying9
  a9 := Tryz.isAgg9
  z9 := Tryz.sizeOf9
  v9 := Tryz.zeroValue9
  t20 := Tryz.underlying20
  a20 := Tryz.isAgg20
  z20 := Tryz.sizeOf20
  v20 := Tryz.zeroValue20
  t37 := Tryz.underlying96
  a37 := Tryz.isAgg96
  z37 := Tryz.sizeOf96
  v37 := Tryz.zeroValue96
  t46 := Tryz.underlying161
  a46 := Tryz.isAgg161
  z46 := Tryz.sizeOf161
  v46 := Tryz.zeroValue161
  t51 := Tryz.underlying180
  a51 := Tryz.isAgg180
  z51 := Tryz.sizeOf180
  v51 := Tryz.zeroValue180
  t53 := Tryz.underlying164
  a53 := Tryz.isAgg164
  z53 := Tryz.sizeOf164
  v53 := Tryz.zeroValue164
  t171 := Tryz.underlying163
  a171 := Tryz.isAgg163
  z171 := Tryz.sizeOf163
  v171 := Tryz.zeroValue163
  t173 := Tryz.underlying167
  a173 := Tryz.isAgg167
  z173 := Tryz.sizeOf167
  v173 := Tryz.zeroValue167
  t212 := Tryz.underlying182
  a212 := Tryz.isAgg182
  z212 := Tryz.sizeOf182
  v212 := Tryz.zeroValue182
  t213 := Tryz.underlying183
  a213 := Tryz.isAgg183
  z213 := Tryz.sizeOf183
  t232 := Tryz.underlying193
  a232 := Tryz.isAgg193
  z232 := Tryz.sizeOf193
  v232 := Tryz.zeroValue193
  t233 := Tryz.underlying194
  a233 := Tryz.isAgg194
  z233 := Tryz.sizeOf194
  v233 := Tryz.zeroValue194
  g17 := by kernel_rfl
  g18 := by kernel_rfl
  g19 := by kernel_rfl
  i0 := by kernel_rfl
  i2 := by kernel_rfl
  i3 := by kernel_rfl
  i4 := by kernel_rfl
  i5 := by kernel_rfl
  i9 := by kernel_rfl
  i20 := by kernel_rfl
  i37 := by kernel_rfl
  i46 := by kernel_rfl
  i51 := by kernel_rfl
  i53 := by kernel_rfl
  i171 := by kernel_rfl
  i173 := by kernel_rfl
  i212 := by kernel_rfl
  i232 := by kernel_rfl
  i233 := by kernel_rfl
  m17 := by kernel_rfl
  m18 := by kernel_rfl
  m19 := by kernel_rfl }
open Go.RowKit Go.Sort Go.Lib in
/-- strconv.Itoa: "Itoa is equivalent to FormatInt(int64(i), 10).": i's DECIMAL NUMERAL ('Lib.itoa': a '-' where i is negative, then the digits), FOR EVERY int. The world behind the call: the world before it, new blocks behind the heap (the library's 'var a [24]byte'), draws. (LAID: no walk: one application.) -/
theorem Tryz.strconv_Itoa (n : Int) (h0 : -9223372036854775808 ≤ n) (h1 : n ≤ 9223372036854775807) (w : World) (htab : Lib.TabIs Tryz.prog w "internal/strconv.uint64pow10" .u64 Lib.pow10Tab) :
    Calls Tryz.prog 38 #[.int .i64 n] w fun e w' => e = .returned (.string ⟨(Lib.itoa n).toArray⟩) ∧ ∃ k os, w' = grow (w.drewN k) os := Any.strconv_Itoa Tryz.laysM171 n h0 h1 w htab
def Tryz.lays171_ren : Go.Shelf.Ren := ⟨fun | 171 => 38 | 243 => 74 | 246 => 91 | 283 => 99 | 284 => 100 | 285 => 101 | 286 => 102 | 129 => 115 | 317 => 116 | 318 => 117 | 319 => 118 | 320 => 119 | 337 => 127 | 338 => 128 | n => n, fun | 3 => 3 | 9 => 9 | 2 => 2 | 4 => 4 | 171 => 163 | 0 => 0 | 53 => 164 | 37 => 96 | 5 => 5 | 173 => 167 | 212 => 182 | 51 => 180 | 20 => 20 | 213 => 183 | 46 => 161 | 232 => 193 | 233 => 194 | n => n, fun | 17 => 0 | 18 => 1 | 19 => 2 | n => n⟩
theorem Tryz.lays171 : Go.Proofs.Lays.n171 Tryz.prog Tryz.lays171_ren := {
  mixed := by kernel_rfl
  f129 := Tryz.func115.trans (congrArg some (by kernel_rfl))
  f171 := Tryz.func38.trans (congrArg some (by kernel_rfl))
  f243 := Tryz.func74.trans (congrArg some (by kernel_rfl))
  f246 := Tryz.func91.trans (congrArg some (by kernel_rfl))
  f283 := Tryz.func99.trans (congrArg some (by kernel_rfl))
  f284 := Tryz.func100.trans (congrArg some (by kernel_rfl))
  f285 := Tryz.func101.trans (congrArg some (by kernel_rfl))
  f286 := Tryz.func102.trans (congrArg some (by kernel_rfl))
  f317 := Tryz.func116.trans (congrArg some (by kernel_rfl))
  f318 := Tryz.func117.trans (congrArg some (by kernel_rfl))
  f319 := Tryz.func118.trans (congrArg some (by kernel_rfl))
  f320 := Tryz.func119.trans (congrArg some (by kernel_rfl))
  f337 := Tryz.func127.trans (congrArg some (by kernel_rfl))
  f338 := Tryz.func128.trans (congrArg some (by kernel_rfl))
  t0 := Tryz.underlying0
  a0 := Tryz.isAgg0
  z0 := Tryz.sizeOf0
  v0 := Tryz.zeroValue0
  t2 := Tryz.underlying2
  a2 := Tryz.isAgg2
  z2 := Tryz.sizeOf2
  v2 := Tryz.zeroValue2
  t3 := Tryz.underlying3
  a3 := Tryz.isAgg3
  z3 := Tryz.sizeOf3
  v3 := Tryz.zeroValue3
  t4 := Tryz.underlying4
  a4 := Tryz.isAgg4
  z4 := Tryz.sizeOf4
  v4 := Tryz.zeroValue4
  t5 := Tryz.underlying5
  a5 := Tryz.isAgg5
  z5 := Tryz.sizeOf5
  v5 := Tryz.zeroValue5
  t9 := Tryz.underlying9
  a9 := Tryz.isAgg9
  z9 := Tryz.sizeOf9
  v9 := Tryz.zeroValue9
  t20 := Tryz.underlying20
  a20 := Tryz.isAgg20
  z20 := Tryz.sizeOf20
  v20 := Tryz.zeroValue20
  t37 := Tryz.underlying96
  a37 := Tryz.isAgg96
  z37 := Tryz.sizeOf96
  v37 := Tryz.zeroValue96
  t46 := Tryz.underlying161
  a46 := Tryz.isAgg161
  z46 := Tryz.sizeOf161
  v46 := Tryz.zeroValue161
  t51 := Tryz.underlying180
  a51 := Tryz.isAgg180
  z51 := Tryz.sizeOf180
  v51 := Tryz.zeroValue180
  t53 := Tryz.underlying164
  a53 := Tryz.isAgg164
  z53 := Tryz.sizeOf164
  v53 := Tryz.zeroValue164
  t171 := Tryz.underlying163
  a171 := Tryz.isAgg163
  z171 := Tryz.sizeOf163
  v171 := Tryz.zeroValue163
  t173 := Tryz.underlying167
  a173 := Tryz.isAgg167
  z173 := Tryz.sizeOf167
  v173 := Tryz.zeroValue167
  t212 := Tryz.underlying182
  a212 := Tryz.isAgg182
  z212 := Tryz.sizeOf182
  v212 := Tryz.zeroValue182
  t213 := Tryz.underlying183
  a213 := Tryz.isAgg183
  z213 := Tryz.sizeOf183
  t232 := Tryz.underlying193
  a232 := Tryz.isAgg193
  z232 := Tryz.sizeOf193
  v232 := Tryz.zeroValue193
  t233 := Tryz.underlying194
  a233 := Tryz.isAgg194
  z233 := Tryz.sizeOf194
  v233 := Tryz.zeroValue194
  g17 := by kernel_rfl
  g18 := by kernel_rfl
  g19 := by kernel_rfl }
open Go.RowKit Go.Sort Go.Lib in
/-- THE ROAD WITHOUT THE TABLE: 0 <= i < 100: NO PREMISE ON THE WORLD, AND THE WORLD IS AS IT WAS: a row that keeps its argument in that range need list no table ('laid = []'). (LAID: no walk: one application.) -/
theorem Tryz.strconv_Itoa_small (i : Nat) (hi : i < 100) (w : World) :
    Calls Tryz.prog 38 #[.int .i64 i] w fun e w' => e = .returned (.string ⟨(Lib.decDigits i).toArray⟩) ∧ w' = w := Any.strconv_Itoa_small Tryz.lays171 i hi w
end Go.Proofs

/-
  strings.Builder's writers (this translation's copy check refuses a builder that was copied); the closure of Print.
-/
namespace Go.Proofs.YtcnpncndecjahaaGreatDoor
open Go.RowKit Go.Shelf

/-- A builder that holds l. -/
abbrev Bld (B b : Nat) (l : List UInt8) (W : World) : Prop := Lib.IsBuilderF 98 5 B b (Lib.byteCells l) W
/-- What a writer leaves as it was. -/
structure Wrote (B b : Nat) (W W' : World) : Prop where
  below : Below B W W'
  others : Lib.OthersKept 5 (some b) W W'
theorem Wrote.trans {B b : Nat} {W W' W'' : World} (h : Wrote B b W W') (k : Wrote B b W' W'') : Wrote B b W W'' := ⟨h.below.trans k.below, h.others.trans k.others⟩
theorem infoByte : (Tryz.prog.info? 5).map (fun i => (i.zero, i.size, i.bytes)) = some (some (.int .u8 0), 1, 1) := by kernel_rfl
theorem sizeBld : (Tryz.prog.info? 98).map (·.size) = some 2 := by kernel_rfl
set_option maxRecDepth 100000 in
set_option maxHeartbeats 1000000 in
theorem copyCheck_fresh (B b : Nat) (cs : List Value) (w : World) (h : Lib.BuilderAtF 98 5 B b (.pointer none) cs w) : Calls Tryz.prog 73 #[ptr b] w fun e w' => e = .returned (.tuple #[]) ∧ w' = w.setCell ⟨b, 0, none⟩ (ptr b) := by
  have c0 := h.cell0
  have f0 := h.frozen0
  have hsh := h.shape
  obtain ⟨i, hi, his⟩ := Option.map_eq_some_iff.1 sizeBld
  have h44 := @run_callFunc_extern Tryz.prog 90 _ Extern.AbiNoEscape.same Tryz.func90 (by kernel_rfl) (by kernel_rfl) (by kernel_rfl) (by kernel_rfl)
  go_enter Tryz.func73, Tryz.ntmps73
  go_wp2_with fail
  rw [Lib.run_to_unsafe w ⟨b, 0, none⟩ Tryz.underlying95 Tryz.underlying155 hi (by rw [his]; decide) hsh (show (0 : Nat) < 2 by decide)]
  simp only [Result.andThen]
  rw [Oper.upon_value]
  go_wp2_with fail
  rw [Lib.run_noEscape]
  simp only [Result.andThen]
  rw [Oper.upon_value]
  go_wp2_with fail
  rw [Lib.run_from_unsafe w ⟨b, 0, none⟩ Tryz.underlying155 Tryz.underlying95 hi hsh (by kernel_rfl)]
  simp only [Result.andThen]
  rw [Oper.upon_value]
  go_wp2_with fail
  go_end0
  exact ⟨rfl, rfl⟩
set_option maxRecDepth 100000 in
set_option maxHeartbeats 1000000 in
theorem copyCheck_used (B b : Nat) (cs : List Value) (w : World) (h : Lib.BuilderAtF 98 5 B b (ptr b) cs w) : Calls Tryz.prog 73 #[ptr b] w fun e w' => e = .returned (.tuple #[]) ∧ w' = w := by
  have c0 := h.cell0
  obtain ⟨i, hi, his⟩ := Option.map_eq_some_iff.1 sizeBld
  have hne := Lib.run_neq_ptr_same (P := Tryz.prog) w ⟨b, 0, none⟩ Tryz.underlying95 hi
  go_enter Tryz.func73, Tryz.ntmps73
  go_wp2_with fail
  go_end0
  exact ⟨rfl, rfl⟩
theorem copyCheck_any (B b : Nat) (l : List UInt8) (w : World) (h : Bld B b l w) : Calls Tryz.prog 73 #[ptr b] w fun e w' => e = .returned (.tuple #[]) ∧ Lib.BuilderAtF 98 5 B b (ptr b) (Lib.byteCells l) w' ∧ Wrote B b w w' := by
  rcases h with h | h
  · refine (copyCheck_fresh B b _ w h).mono ?_
    rintro e w' ⟨rfl, rfl⟩
    exact ⟨rfl, h.used _, (Below.refl B w).setCell (p := ⟨b, 0, none⟩) h.1 _, (Lib.OthersKept.refl _ _ w).setCell ⟨b, 0, none⟩ rfl _⟩
  · refine (copyCheck_used B b _ w h).mono ?_
    rintro e w' ⟨rfl, rfl⟩
    exact ⟨rfl, h, Below.refl B _, Lib.OthersKept.refl _ _ _⟩
theorem byteCells_snoc (l : List UInt8) (c : UInt8) : Lib.byteCells (l ++ [c]) = Lib.byteCells l ++ [.int .u8 (c.toNat : Int)] := by simp [Lib.byteCells]
theorem byteCells_app (l : List UInt8) (s : ByteArray) : Lib.byteCells (l ++ s.data.toList) = Lib.byteCells l ++ Lib.strCells s := by simp [Lib.byteCells, Lib.strCells]
theorem byteCells_len (l : List UInt8) : (Lib.byteCells l).length = l.length := by simp [Lib.byteCells]
theorem Bld.lt {B b : Nat} {l : List UInt8} {W : World} (h : Bld B b l W) : b < W.heap.size := by
  rcases h with h | h <;> exact h.lt
set_option maxRecDepth 100000 in
set_option maxHeartbeats 2000000 in
theorem writeByte_any (B b : Nat) (l : List UInt8) (c : UInt8) (w : World) (h : Bld B b l w) (hl : l.length ≤ 1000000) (hBw : B ≤ w.heap.size) : Calls Tryz.prog 37 #[ptr b, .int .u8 (c.toNat : Int)] w fun e w' => e = .returned .nilIface ∧ Bld B b (l ++ [c]) w' ∧ Wrote B b w w' := by
  obtain ⟨i0, hi, hz0, hz1, hz2⟩ := info_parts infoByte
  rw [← byteCells_len l] at hl
  have HSN := Lib.hid (byteCells_snoc l c)
  have HCC := Lib.hid (copyCheck_any B b l w h)
  generalize Lib.byteCells l = cs at *
  clear h
  go_enter Tryz.func37, Tryz.ntmps37
  go_wp2_with fail
  with_reducible refine HCC.out.mono ?_
  rintro e w1 ⟨rfl, h1, hw1⟩
  have HW1 := Lib.hid hw1
  clear hw1 HCC
  obtain ⟨hB, v, hbk, hown, hne⟩ := h1
  have c0 : w1.cell? ⟨b, 0, none⟩ = some (ptr b) := by rw [Lib.cell_of_heap hbk]; rfl
  have c1 : w1.cell? ⟨b, 1, none⟩ = some v := by rw [Lib.cell_of_heap hbk]; rfl
  go_wp2_with (at_builtin; refine wpList_append_ownF _ rfl _ _ 96 rfl B 5 i0 (.int .u8 0) 1 1 Tryz.underlying96 hi hz0 hz1 hz2 rfl (by decide) _ _ _ rfl (hown.alloc _) ⟨w1.heap.size, 0, none⟩ 1 1 [.int .u8 (c.toNat : Int)] rfl rfl ?c1 ?c2 ?c3 ?c4 ?c5 ?_)
  case c1 =>
    intro j u hj
    match j, hj with
    | 0, hj => simp at hj; subst hj; simp [Addr.add]
  case c2 => intro u hu; simp at hu; subst hu; rfl
  case c3 => unfold maxLen; omega
  case c4 => omega
  case c5 => have := HW1.out.below.size; simp; omega
  intro v' w2 hown' hgrow _
  have hlt : b < w1.heap.size := by
    rcases Nat.lt_or_ge b w1.heap.size with h' | h'
    · exact h'
    · simp [Array.getElem?_eq_none h'] at hbk
  have hb2 : w2.heap[b]? = some (.cells #[ptr b, v] 98 (0, 0)) := by
    rw [hgrow.block b (by simp; omega) (fun e => hne e.symm), Lib.alloc_old w1 _ b hlt]
    exact hbk
  have d0 : w2.cell? ⟨b, 0, none⟩ = some (ptr b) := by rw [Lib.cell_of_heap hb2]; rfl
  have d1 : w2.cell? ⟨b, 1, none⟩ = some v := by rw [Lib.cell_of_heap hb2]; rfl
  have f1 : w2.frozen? ⟨b, 1, none⟩ = false := Lib.frozen_of_heap hb2 1
  have hbl := HW1.out.below
  have hot := HW1.out.others
  obtain ⟨g, cap, rfl⟩ : ∃ g cap, v' = .slice (some ⟨g, 0, none⟩) (cs.length + 1) cap := by
    rcases hown'.2 with ⟨_, h0⟩ | ⟨g, cap, cur, fz, hv, _⟩
    · omega
    · exact ⟨g, cap, hv⟩
  go_wp2_with fail
  go_ret
  refine ⟨rfl, .inr ?_, ?_, ((hot.alloc _).grown hgrow (Lib.ownsRowF_kind (hown.alloc _))).setCell ⟨b, 1, none⟩ rfl _⟩
  · rw [HSN.out]
    exact Lib.BuilderAtF.put (T := 98) (e := 5) hB hb2 (by simpa using hown') (by decide)
  · exact ((hbl.alloc (by have := hbl.size; omega) _).grown hgrow (by have := hbl.size; simp; omega) (fun k hk => (hown.lt k hk).1)).setCell (p := ⟨b, 1, none⟩) hB _
set_option maxRecDepth 100000 in
set_option maxHeartbeats 2000000 in
theorem writeString_any (B b : Nat) (l : List UInt8) (s : ByteArray) (w : World) (h : Bld B b l w) (hl : l.length + s.size ≤ 1000000) (hBw : B ≤ w.heap.size) : Calls Tryz.prog 35 #[ptr b, .string s] w fun e w' => e = .returned (.tuple #[.int .i64 s.size, .nilIface]) ∧ Bld B b (l ++ s.data.toList) w' ∧ Wrote B b w w' := by
  obtain ⟨i0, hi, hz0, hz1, hz2⟩ := info_parts infoByte
  rw [← byteCells_len l] at hl
  have HSN := Lib.hid (byteCells_app l s)
  have HCC := Lib.hid (copyCheck_any B b l w h)
  generalize Lib.byteCells l = cs at *
  clear h
  go_enter Tryz.func35, Tryz.ntmps35
  go_wp2_with fail
  with_reducible refine HCC.out.mono ?_
  rintro e w1 ⟨rfl, h1, hw1⟩
  have HW1 := Lib.hid hw1
  clear hw1 HCC
  obtain ⟨hB, v, hbk, hown, hne⟩ := h1
  have c0 : w1.cell? ⟨b, 0, none⟩ = some (ptr b) := by rw [Lib.cell_of_heap hbk]; rfl
  have c1 : w1.cell? ⟨b, 1, none⟩ = some v := by rw [Lib.cell_of_heap hbk]; rfl
  go_wp2_with (at_builtin; refine Lib.wpList_append_own_stringF _ rfl _ _ 96 9 rfl B 5 i0 Tryz.underlying96 Tryz.underlying9 hi hz0 hz1 hz2 _ _ _ rfl hown s rfl ?c3 ?c4 ?c5 ?_)
  case c3 => unfold maxLen; omega
  case c4 => omega
  case c5 => have := HW1.out.below.size; omega
  intro v' w2 hown' hgrow _
  have hlt : b < w1.heap.size := by
    rcases Nat.lt_or_ge b w1.heap.size with h' | h'
    · exact h'
    · simp [Array.getElem?_eq_none h'] at hbk
  have hb2 : w2.heap[b]? = some (.cells #[ptr b, v] 98 (0, 0)) := by
    rw [hgrow.block b hlt (fun e => hne e.symm)]
    exact hbk
  have d0 : w2.cell? ⟨b, 0, none⟩ = some (ptr b) := by rw [Lib.cell_of_heap hb2]; rfl
  have d1 : w2.cell? ⟨b, 1, none⟩ = some v := by rw [Lib.cell_of_heap hb2]; rfl
  have f1 : w2.frozen? ⟨b, 1, none⟩ = false := Lib.frozen_of_heap hb2 1
  have hbl := HW1.out.below
  have hot := HW1.out.others
  obtain ⟨ao, n', cap, rfl⟩ : ∃ ao n' cap, v' = .slice ao n' cap := by
    rcases hown'.2 with ⟨hv, _⟩ | ⟨g, cap, cur, fz, hv, _⟩
    · exact ⟨_, _, _, hv⟩
    · exact ⟨_, _, _, hv⟩
  go_wp2_with fail
  go_ret2
  refine ⟨rfl, .inr ?_, ?_, (hot.grown hgrow (Lib.ownsRowF_kind hown)).setCell ⟨b, 1, none⟩ rfl _⟩
  · rw [HSN.out]
    exact Lib.BuilderAtF.put (T := 98) (e := 5) hB hb2 (by simpa [Lib.strCells_length] using hown') (by decide)
  · exact (hbl.grown hgrow (by have := hbl.size; omega) (fun k hk => (hown.lt k hk).1)).setCell (p := ⟨b, 1, none⟩) hB _
set_option maxRecDepth 100000 in
set_option maxHeartbeats 2000000 in
/-- A space and a word. -/
theorem put_any (B b : Nat) (l : List UInt8) (s : ByteArray) (w : World) (h : Bld B b l w) (hl : l.length + s.size ≤ 100000) (hBw : B ≤ w.heap.size) : Calls Tryz.prog 36 #[.string s, ptr b] w fun e w' => e = .returned (.tuple #[]) ∧ Bld B b (l ++ 32 :: s.data.toList) w' ∧ Wrote B b w w' := by
  have H1 := Lib.hid (writeByte_any B b l 32 w h (by omega) hBw)
  have H2 : Hid (∀ W, Bld B b (l ++ [32]) W → B ≤ W.heap.size → Calls Tryz.prog 35 #[ptr b, .string s] W fun e w' => e = .returned (.tuple #[.int .i64 s.size, .nilIface]) ∧ Bld B b ((l ++ [32]) ++ s.data.toList) w' ∧ Wrote B b W w') := Lib.hid (fun W hW hB => writeString_any B b (l ++ [32]) s W hW (by simp; omega) hB)
  have e32 : ((32 : UInt8).toNat : Int) = 32 := rfl
  rw [e32] at H1
  clear h e32
  go_enter Tryz.func36, Tryz.ntmps36
  go_wp2_with fail
  with_reducible refine H1.out.mono ?_
  rintro e w1 ⟨rfl, h1, hw1⟩
  have HW1 := Lib.hid hw1
  have HB1 := Lib.hid h1
  clear h1 hw1 H1
  go_wp2_with fail
  with_reducible refine (H2.out _ HB1.out (Nat.le_trans hBw HW1.out.below.size)).mono ?_
  rintro e w2 ⟨rfl, h2, hw2⟩
  have HW2 := Lib.hid hw2
  have HB2 := Lib.hid h2
  clear h2 hw2
  go_wp2_with fail
  go_end0
  refine ⟨rfl, ?_, HW1.out.trans HW2.out⟩
  have := HB2.out
  simpa using this
end Go.Proofs.YtcnpncndecjahaaGreatDoor

/-
  A region that draws its order and holds several operations that lay blocks, in whatever order: what each answers is told by a property that lasts.
-/
namespace Go.Proofs.YtcnpncndecjahaaGreatDoor
open Go Go.RowKit

/-- A free operation: its number, the slot of what it answers, the slots of free operations that it reads. -/
structure FO where
  idx : Nat
  slot : Nat
  deps : List Nat

def putL (ds : List Nat) (vs : Nat → Value) (a : Act) : Act := ds.foldl (fun a d => a.put (some d) (vs d)) a
theorem putL_size (vs : Nat → Value) : ∀ (ds : List Nat) (a : Act), (putL ds vs a).tmps.size = a.tmps.size ∧ (putL ds vs a).defers = a.defers
  | [], _ => ⟨rfl, rfl⟩
  | d :: ds, a => by
    obtain ⟨h1, h2⟩ := putL_size vs ds (a.put (some d) (vs d))
    exact ⟨h1.trans (by simp [Act.put]), h2.trans rfl⟩
theorem putL_get (vs : Nat → Value) (t : Nat) : ∀ (ds : List Nat) (a : Act), t < a.tmps.size → (putL ds vs a).tmps[t]? = if t ∈ ds then some (vs t) else a.tmps[t]?
  | [], a, _ => by simp [putL]
  | d :: ds, a, ht => by
    have h := putL_get vs t ds (a.put (some d) (vs d)) (by simpa [Act.put] using ht)
    show (putL ds vs (a.put (some d) (vs d))).tmps[t]? = _
    rw [h]
    by_cases e : t ∈ ds
    · rw [if_pos e, if_pos (List.mem_cons_of_mem _ e)]
    · rw [if_neg e]
      by_cases e2 : t = d
      · subst e2
        rw [if_pos List.mem_cons_self]
        simp [Act.put, ht]
      · rw [if_neg (by simp [e, e2])]
        simp only [Act.put]
        exact Array.getElem?_setIfInBounds_ne (fun e => e2 e.symm)

section
variable {P : Program} {md : Region.Mode} {ops : Array Oper} {C : World → Prop} {S : Nat → Value → World → Prop} {R : World → World → Prop}

def tmpsOf (o : Oper) : List Nat := o.op.operands.toList.filterMap fun | .tmp t => some t | _ => none
def specOk (md : Region.Mode) (ops : Array Oper) (hs : List FO) : Bool := hs.all fun h =>
  (match ops[h.idx]? with
   | some o => o.guard.isNone && (o.dst == some h.slot) && (hs.all fun k => !(tmpsOf o).contains k.slot || h.deps.contains k.slot)
   | none => false) &&
  (h.deps.all fun d => hs.any fun k => (k.slot == d) && Region.waitsFor md ops h.idx k.idx) &&
  (hs.all fun k => (h.idx == k.idx) == (h.slot == k.slot))
def freeOk (md : Region.Mode) (ops : Array Oper) (hs : List FO) (ts : List (Bool × Nat)) : Nat → Array Bool → Bool
  | 0, listed => (hs.all fun h => listed.getD h.idx false) && walkB md ops ts listed
  | f + 1, listed => !(Region.ready md ops listed).isEmpty && (Region.ready md ops listed).all fun i => (hs.any fun h => h.idx == i) && freeOk md ops hs ts f (listed.setIfInBounds i true)

/-- What is to be shown of each free operation. -/
def freeW (P : Program) (ops : Array Oper) (C : World → Prop) (S : Nat → Value → World → Prop) (R : World → World → Prop) (a1 : Act) : List FO → Prop
  | [] => True
  | h :: rest => (∀ o, ops[h.idx]? = some o → ∀ vs w, C w → (∀ d ∈ h.deps, S d (vs d) w) → ∀ K : Value → World → Prop, (∀ v w', S h.slot v w' → R w w' → K v w') → o.wp P (putL h.deps vs a1) w (fun a' w' => a'.defers = a1.defers ∧ K (a'.tmps.getD h.slot undef) w') noQ) ∧ freeW P ops C S R a1 rest
theorem freeW_step {a1 : Act} {h : FO} {rest : List FO} {o : Oper} (ho : ops[h.idx]? = some o)
    (h1 : ∀ vs w, C w → (∀ d ∈ h.deps, S d (vs d) w) → ∀ K : Value → World → Prop, (∀ v w', S h.slot v w' → R w w' → K v w') → o.wp P (putL h.deps vs a1) w (fun a' w' => a'.defers = a1.defers ∧ K (a'.tmps.getD h.slot undef) w') noQ)
    (h2 : freeW P ops C S R a1 rest) : freeW P ops C S R a1 (h :: rest) :=
  ⟨fun o' ho' => by cases ho.symm.trans ho'; exact h1, h2⟩
theorem freeW_mem {a1 : Act} : ∀ {hs : List FO}, freeW P ops C S R a1 hs → ∀ h ∈ hs, ∀ o, ops[h.idx]? = some o → ∀ vs w, C w → (∀ d ∈ h.deps, S d (vs d) w) → ∀ K : Value → World → Prop, (∀ v w', S h.slot v w' → R w w' → K v w') → o.wp P (putL h.deps vs a1) w (fun a' w' => a'.defers = a1.defers ∧ K (a'.tmps.getD h.slot undef) w') noQ
  | [], _, h, hm => by cases hm
  | k :: rest, hw, h, hm => by
    rcases List.mem_cons.1 hm with rfl | hm
    · exact hw.1
    · exact freeW_mem hw.2 h hm

structure FreeInv (hs : List FO) (C : World → Prop) (S : Nat → Value → World → Prop) (a1 : Act) (listed : Array Bool) (a : Act) (w : World) : Prop where
  defers : a.defers = a1.defers
  size : a.tmps.size = a1.tmps.size
  other : ∀ t, (∀ h ∈ hs, h.slot = t → listed.getD h.idx false = false) → a.tmps[t]? = a1.tmps[t]?
  spec : ∀ h ∈ hs, listed.getD h.idx false = true → S h.slot (a.tmps.getD h.slot undef) w
  cls : C w

theorem getD_of_get? {α : Type} {a b : Array α} {t : Nat} {d : α} (h : a[t]? = b[t]?) : a.getD t d = b.getD t d := by
  rw [Array.getD_eq_getD_getElem?, Array.getD_eq_getD_getElem?, h]

theorem wpC_free {Q : Act → World → Prop} {hs : List FO} {ts : List (Bool × Nat)} {a1 : Act} (hsel : Region.noSelect ops = true) (hsp : specOk md ops hs = true) (hsz : ∀ h ∈ hs, h.slot < a1.tmps.size)
    (hS : ∀ t v w w', S t v w → R w w' → S t v w') (hR : ∀ w w', C w → R w w' → C w') (hst : freeW P ops C S R a1 hs)
    (hfin : ∀ vs w, C w → (∀ h ∈ hs, S h.slot (vs h.slot) w) → walkW P ops Q ts C (putL (hs.map FO.slot) vs a1) w) :
    ∀ (f : Nat) (listed : Array Bool) (a : Act) (w : World), freeOk md ops hs ts f listed = true → FreeInv hs C S a1 listed a w → wpC P md ops C Q (f + ts.length) listed a w
  | 0, listed, a, w, hB, inv => by
    rw [Nat.zero_add]
    simp only [freeOk, Bool.and_eq_true, List.all_eq_true] at hB
    have ha : a = putL (hs.map FO.slot) (fun t => a.tmps.getD t undef) a1 := by
      obtain ⟨p1, p2⟩ := putL_size (fun t => a.tmps.getD t undef) (hs.map FO.slot) a1
      have ht : a.tmps = (putL (hs.map FO.slot) (fun t => a.tmps.getD t undef) a1).tmps := by
        apply Array.ext_getElem?
        intro t
        by_cases htl : t < a1.tmps.size
        · rw [putL_get _ t _ _ htl]
          by_cases hm : t ∈ hs.map FO.slot
          · rw [if_pos hm, Array.getElem?_eq_getElem (by rw [inv.size]; exact htl)]
            congr 1
            simp [inv.size, htl]
          · rw [if_neg hm]
            exact inv.other t (fun h hh e => absurd (List.mem_map.2 ⟨h, hh, e⟩) hm)
        · rw [Array.getElem?_eq_none (by rw [inv.size]; omega), Array.getElem?_eq_none (by rw [p1]; omega)]
      have hd : a.defers = (putL (hs.map FO.slot) (fun t => a.tmps.getD t undef) a1).defers := inv.defers.trans p2.symm
      generalize putL (hs.map FO.slot) (fun t => a.tmps.getD t undef) a1 = b at ht hd
      cases a
      cases b
      simp only at ht hd
      rw [ht, hd]
    refine wpC_walk hsel ts C listed a w hB.2 ?_
    have h := hfin (fun t => a.tmps.getD t undef) w inv.cls (fun h hh => inv.spec h hh (hB.1 h hh))
    rwa [← ha] at h
  | f + 1, listed, a, w, hB, inv => by
    simp only [freeOk, Bool.and_eq_true, List.all_eq_true, List.any_eq_true, Bool.not_eq_true', beq_iff_eq] at hB
    obtain ⟨hne, hall⟩ := hB
    rw [show f + 1 + ts.length = (f + ts.length) + 1 by omega]
    refine ⟨inv.cls, fun h0 => (by rw [h0] at hne; simp at hne), fun i hi => ?_⟩
    obtain ⟨⟨h, hh, rfl⟩, hB2⟩ := hall i hi
    have hspec := hsp
    simp only [specOk, List.all_eq_true, Bool.and_eq_true] at hspec
    obtain ⟨⟨q1, q2⟩, q3⟩ := hspec h hh
    cases ho : ops[h.idx]? with
    | none => rw [ho] at q1; cases q1
    | some o =>
      rw [ho] at q1
      simp only [Bool.and_eq_true, List.all_eq_true, Bool.or_eq_true, Bool.not_eq_true', beq_iff_eq, Option.isNone_iff_eq_none] at q1
      obtain ⟨⟨g1, g2⟩, g3⟩ := q1
      obtain ⟨hun, oj, hoj, hwait⟩ := mem_ready.1 hi
      obtain rfl : oj = o := Option.some.inj (hoj.symm.trans ho)
      -- what it reads is listed
      have hdeps : ∀ d ∈ h.deps, ∃ k ∈ hs, k.slot = d ∧ listed.getD k.idx false = true := fun d hd => by
        obtain ⟨k, hk, e⟩ := List.any_eq_true.1 (q2 d hd)
        simp only [Bool.and_eq_true, beq_iff_eq] at e
        obtain ⟨oj', hoj', e', he', hb', hon'⟩ := Region.waitsFor_spec e.2
        obtain rfl : oj' = oj := Option.some.inj (hoj'.symm.trans ho)
        have := hwait e' he' hb'
        rw [hon'] at this
        exact ⟨k, hk, e.1, this⟩
      have hev : execOp a.eval oj = execOp (putL h.deps (fun t => a.tmps.getD t undef) a1).eval oj := by
        refine execOp_congr oj (fun cs b => Region.noSelect_spec hsel h.idx oj cs b ho) (fun x hx => ?_)
        cases x with
        | tmp t =>
          show a.tmps.getD t undef = (putL h.deps (fun t => a.tmps.getD t undef) a1).tmps.getD t undef
          by_cases htl : t < a1.tmps.size
          · have e2 : (putL h.deps (fun t => a.tmps.getD t undef) a1).tmps.getD t undef = if t ∈ h.deps then a.tmps.getD t undef else a1.tmps.getD t undef := by
              rw [Array.getD_eq_getD_getElem?, putL_get _ t _ _ htl]
              by_cases hnd : t ∈ h.deps
              · rw [if_pos hnd, if_pos hnd]; rfl
              · rw [if_neg hnd, if_neg hnd, Array.getD_eq_getD_getElem?]
            rw [e2]
            by_cases hnd : t ∈ h.deps
            · rw [if_pos hnd]
            · rw [if_neg hnd]
              refine getD_of_get? (inv.other t (fun k hk e => ?_))
              rcases g3 k hk with h3 | h3
              · exfalso
                have hmem : t ∈ tmpsOf oj := List.mem_filterMap.2 ⟨.tmp t, by simpa using hx, rfl⟩
                rw [e] at h3
                have : (tmpsOf oj).contains t = true := by simpa using hmem
                rw [this] at h3
                cases h3
              · rw [e] at h3
                exact absurd (by simpa using h3) hnd
          · rw [Array.getD_eq_getD_getElem?, Array.getD_eq_getD_getElem?, Array.getElem?_eq_none (by rw [inv.size]; exact Nat.le_of_not_lt htl), Array.getElem?_eq_none (by rw [(putL_size _ _ _).1]; exact Nat.le_of_not_lt htl)]
        | _ => rfl
      have hwp := freeW_mem hst h hh oj ho (fun t => a.tmps.getD t undef) w inv.cls (fun d hd => by
        obtain ⟨k, hk, e, hl⟩ := hdeps d hd
        have := inv.spec k hk hl
        rwa [e] at this) (fun v w' => S h.slot v w' ∧ R w w') (fun v w' h1 h2 => ⟨h1, h2⟩)
      -- the next state
      have hnext : ∀ u w', (S h.slot (((putL h.deps (fun t => a.tmps.getD t undef) a1).put oj.dst u).tmps.getD h.slot undef) w' ∧ R w w') → wpC P md ops C Q (f + ts.length) (listed.setIfInBounds h.idx true) (a.put oj.dst u) w' := fun u w' ⟨e2, e3⟩ => by
        rw [g2] at e2 ⊢
        have hsl := hsz h hh
        have huv : ((putL h.deps (fun t => a.tmps.getD t undef) a1).put (some h.slot) u).tmps.getD h.slot undef = u := by
          have hb : h.slot < (putL h.deps (fun t => a.tmps.getD t undef) a1).tmps.size := by rw [(putL_size _ _ _).1]; exact hsl
          generalize putL h.deps (fun t => a.tmps.getD t undef) a1 = b at hb
          simp [Act.put, hb]
        rw [huv] at e2
        have hlt : h.idx < listed.size := by
          rcases Nat.lt_or_ge h.idx listed.size with h' | h'
          · exact h'
          · simp [Array.getElem?_eq_none h'] at hun
        have hset : ∀ j, (listed.setIfInBounds h.idx true).getD j false = if j = h.idx then true else listed.getD j false := fun j => by
          by_cases e : j = h.idx
          · subst e; simp [hlt]
          · rw [if_neg e, getD_set_ne false (fun e' => e e'.symm)]
        refine wpC_free hsel hsp hsz hS hR hst hfin f _ _ _ hB2 ⟨inv.defers, by simp [Act.put, inv.size], fun t ht => ?_, fun k hk hl => ?_, hR _ _ inv.cls e3⟩
        · have hne : h.slot ≠ t := fun e => by
            have := ht h hh e
            rw [hset, if_pos rfl] at this
            cases this
          have h1 : (a.put (some h.slot) u).tmps[t]? = a.tmps[t]? := by
            simp only [Act.put]
            exact Array.getElem?_setIfInBounds_ne hne
          rw [h1]
          refine inv.other t (fun k hk e => ?_)
          have := ht k hk e
          rw [hset] at this
          split at this
          · cases this
          · exact this
        · by_cases e : k.idx = h.idx
          · have e' : k.slot = h.slot := by
              have h1 := q3 k hk
              rw [beq_iff_eq] at h1
              have h2 : (h.idx == k.idx) = true := by simp [e]
              rw [h2] at h1
              have := h1.symm
              simp only [beq_iff_eq] at this
              exact this.symm
            rw [e']
            have : (a.put (some h.slot) u).tmps.getD h.slot undef = u := by
              simp [Act.put, inv.size, hsl]
            rw [this]
            exact e2
          · have e' : k.slot ≠ h.slot := fun e' => by
              have h1 := q3 k hk
              rw [beq_iff_eq] at h1
              have h2 : (h.slot == k.slot) = true := by simp [e']
              rw [h2] at h1
              simp only [beq_iff_eq] at h1
              exact e h1.symm
            rw [hset, if_neg e] at hl
            have h1 : (a.put (some h.slot) u).tmps.getD k.slot undef = a.tmps.getD k.slot undef := getD_of_get? (by
              simp only [Act.put]
              exact Array.getElem?_setIfInBounds_ne (fun e => e' e.symm))
            rw [h1]
            exact hS _ _ _ _ (inv.spec k hk hl) e3
      unfold wpOp
      simp only [ho]
      have hw : Region.wanted oj (yielded ops a.tmps) = true := by unfold Region.wanted; rw [g1]
      simp only [hw, if_true]
      refine .inl ?_
      unfold Oper.wp at hwp ⊢
      rw [hev]
      generalize (execOp (putL h.deps (fun t => a.tmps.getD t undef) a1).eval oj).run P w = r at *
      cases r with
      | ok n w' =>
        cases n <;> simp only [Oper.upon] at hwp ⊢
        case value u => exact hnext u w' hwp.2
        case skip => exact hnext _ w' hwp.2
        case defer d =>
          obtain ⟨e1, -⟩ := hwp
          exfalso
          have e2 := (putL_size (fun t => a.tmps.getD t undef) h.deps a1).2
          generalize putL h.deps (fun t => a.tmps.getD t undef) a1 = b at e1 e2
          have := congrArg List.length e1
          rw [g2] at this
          simp [Act.put, e2] at this
        case enter f' args =>
          refine Calls.mono hwp fun e w'' he => ?_
          cases e with
          | returned u => exact hnext u w'' he.2
          | panicked c => exact he
          | outgrown => exact he
        case row row args => exact Rows.mono hwp fun u w'' he => hnext u w'' he.2
      | halt x w' => cases x <;> simp only [Oper.upon] at hwp <;> exact hwp.elim

/-- The reads, the free operations, the rest. -/
def regionFreeOk (ops : Array Oper) (hs : List FO) (ts : List (Bool × Nat)) : List Nat → Array Bool → Bool
  | [], listed => (hs.all fun h => !listed.getD h.idx false) && freeOk .any ops hs ts hs.length listed
  | k :: rest, listed => (Region.ready .any ops listed).contains k && Region.free .any ops listed k && regionFreeOk ops hs ts rest (listed.setIfInBounds k true)
theorem wpC_reads {Q : Act → World → Prop} {hs : List FO} {ts : List (Bool × Nat)} (hsel : Region.noSelect ops = true) (hsp : specOk .any ops hs = true)
    (hS : ∀ t v w w', S t v w → R w w' → S t v w') (hR : ∀ w w', C w → R w w' → C w') (w : World) (hC : C w) : ∀ (rs : List Nat) (listed : Array Bool) (a : Act), regionFreeOk ops hs ts rs listed = true →
    headW P ops C (fun a1 => (∀ h ∈ hs, h.slot < a1.tmps.size) ∧ freeW P ops C S R a1 hs ∧ ∀ vs w, C w → (∀ h ∈ hs, S h.slot (vs h.slot) w) → walkW P ops Q ts C (putL (hs.map FO.slot) vs a1) w) rs a → wpC P .any ops C Q (rs.length + (hs.length + ts.length)) listed a w
  | [], listed, a, hB, h => by
    simp only [regionFreeOk, Bool.and_eq_true, List.all_eq_true, Bool.not_eq_true'] at hB
    obtain ⟨h1, h2, h3⟩ := h
    rw [List.length_nil, Nat.zero_add]
    exact wpC_free hsel hsp h1 hS hR h2 h3 _ _ _ _ hB.2 ⟨rfl, rfl, fun _ _ => rfl, fun k hk hl => (by rw [hB.1 k hk] at hl; cases hl), hC⟩
  | k :: rest, listed, a, hB, h => by
    simp only [regionFreeOk, Bool.and_eq_true] at hB
    obtain ⟨⟨hr, hf⟩, hB'⟩ := hB
    obtain ⟨o, v, ho, hy, h⟩ := h
    rw [List.length_cons, show rest.length + 1 + (hs.length + ts.length) = (rest.length + (hs.length + ts.length)) + 1 by omega]
    exact wpC_first ho (Region.noSelect_spec hsel) _ listed a w (Region.free_spec ho hf) (by simpa using hr) hy (wpC_reads hsel hsp hS hR w hC rest _ _ hB' h)
def regFreeOk (ops : Array Oper) (rs : List Nat) (hs : List FO) (ts : List (Bool × Nat)) : Bool := Region.noSelect ops && decide (rs.length + (hs.length + ts.length) = ops.size) && specOk .any ops hs && regionFreeOk ops hs ts rs (Array.replicate ops.size false)
theorem wp_region_free {id : Nat} {Q : Exit → Act → World → Prop} {a : Act} {w : World} {l : List Oper} (rs : List Nat) (hs : List FO) (ts : List (Bool × Nat)) (C : World → Prop) (S : Nat → Value → World → Prop) (R : World → World → Prop) (hm : P.follows .mixedOrders = true) (hB : regFreeOk l.toArray rs hs ts = true) (hC : C w.drew)
    (hS : ∀ t v w w', S t v w → R w w' → S t v w') (hR : ∀ w w', C w → R w w' → C w')
    (h : headW P l.toArray C (fun a1 => (∀ h ∈ hs, h.slot < a1.tmps.size) ∧ freeW P l.toArray C S R a1 hs ∧ ∀ vs w, C w → (∀ h ∈ hs, S h.slot (vs h.slot) w) → walkW P l.toArray (fun a w => Q .normal a w) ts C (putL (hs.map FO.slot) vs a1) w) rs a) : (Code.region id l.toArray true).wp P Q a w := by
  simp only [regFreeOk, Bool.and_eq_true, decide_eq_true_eq] at hB
  obtain ⟨⟨⟨hsel, hlen⟩, hsp⟩, hB⟩ := hB
  refine wp_region_any hm (wpAny_of_wpC (C := C) (Q := fun a w => Q .normal a w) (fun _ _ h => h) _ _ _ _ ?_)
  rw [← hlen]
  exact wpC_reads hsel hsp hS hR w.drew hC rs _ a (by rw [hlen]; exact hB) h
end
end Go.Proofs.YtcnpncndecjahaaGreatDoor

/-
  The fields of a query, as pointers.
-/
namespace Go.Proofs.YtcnpncndecjahaaGreatDoor
open Go.RowKit Go.Shelf

abbrev pF (z f : Nat) : Value := .pointer (some ⟨z, f, none⟩)
/-- Pointers to fields in a row of their own. -/
def FldPost (z : Nat) (fs : List Nat) (w : World) (e : Ending) (w' : World) : Prop := ∃ a c, e = .returned (.slice a fs.length c) ∧ w'.ownsRow w.heap.size 107 1 (.slice a fs.length c) fs.length (fs.map (pF z)) ∧ Keep (fun _ => False) w w'
theorem own_new (W : World) (B : Nat) (xs : List Value) (t : TypeId) (hB : B ≤ W.heap.size) (hn : 0 < xs.length) (hl : xs.length ≤ 1000) : (W.alloc (.cells xs.toArray t)).ownsRow B t 1 (.slice (some ⟨W.heap.size, 0, none⟩) xs.length xs.length) xs.length xs :=
  ⟨by simp, .inr ⟨W.heap.size, xs.length, xs.toArray, rfl, hB, World.alloc_heap_new _ _, Nat.le_refl _, by unfold maxLen; omega, by simp, by simp⟩⟩
theorem wp_appP {P : Program} {o : Oper} {a : Act} {w w' : World} {K : Act → World → Prop} {Q : Exit → Act → World → Prop} {v v2 v' : Value}
    (s x : Operand) (t : TypeId) (hop : o.op = Op.call { callee := Callee.builtin Builtin.append, args := #[s, x], argTypes := #[t, t] })
    (hs : a.eval s = v) (hx : a.eval x = v2) (hrun : (Builtin.append_ #[t, t] o.type #[v, v2]).run P w = .ok v' w') (hK : K (a.put o.dst v') w') : o.wp P a w K Q := by
  unfold Oper.wp
  simp [execOp, hop, resolve, invoke, builtin, hs, hx, hrun, Result.andThen]
  exact hK
theorem walkW_app {P : Program} {ops : Array Oper} {C : World → Prop} {Q : Act → World → Prop} {i : Nat} {rest : List (Bool × Nat)} {a : Act} {w w' : World} {o : Oper} {v v2 v' : Value} (ho : ops[i]? = some o) (hC : C w) (hw : Region.wanted o (yielded ops a.tmps) = true)
    (s x : Operand) (t : TypeId) (hop : o.op = Op.call { callee := Callee.builtin Builtin.append, args := #[s, x], argTypes := #[t, t] })
    (hs : a.eval s = v) (hx : a.eval x = v2) (hrun : (Builtin.append_ #[t, t] o.type #[v, v2]).run P w = .ok v' w') (hK : walkW P ops Q rest C (a.put o.dst v') w') : walkW P ops Q ((false, i) :: rest) C a w :=
  walkW_do ho hC (fun K hK' => by rw [if_pos hw]; exact wp_appP s x t hop hs hx hrun (hK' _ _ hK))
theorem infoPtr : (Tryz.prog.info? 107).map (fun i => (i.zero, i.size, i.bytes)) = some (some (.pointer none), 1, 8) := by kernel_rfl
/-- One row of pointers behind another. -/
theorem app_ptr (W : World) (ty lo z : Nat) (a b : Option Addr) (n c m d : Nat) (xs ys : List Nat) (_hn : xs.length = n) (hm : ys.length = m) (hown : W.ownsRow lo 107 1 (.slice a n c) n (xs.map (pF z))) (hs : W.ownsRow lo 107 1 (.slice b m d) m (ys.map (pF z))) (hne : 0 < m) (hl : n + m ≤ 1000) (hlo : lo ≤ W.heap.size) :
    ∃ v' w', (Builtin.append_ #[105, 105] ty #[.slice a n c, .slice b m d]).run Tryz.prog W = .ok v' w' ∧ w'.ownsRow lo 107 1 v' (n + m) ((xs ++ ys).map (pF z)) ∧ Keep (fun k => (Value.slice a n c).ownBlock = some k) W w' := by
  obtain ⟨i0, hi, hz0, hz1, hz2⟩ := info_parts infoPtr
  obtain ⟨-, ⟨-, h0⟩ | ⟨g, cap, cur, e, hg, hh, hnc, hcm, hsz, htk⟩⟩ := hs
  · omega
  obtain ⟨rfl, -, rfl⟩ := Value.slice.inj e
  obtain ⟨v', w', r1, r2, r3, r4, r5⟩ := run_append_own_at (P := Tryz.prog) W lo 105 ty 107 i0 _ 1 8 Tryz.underlying105 hi hz0 hz1 hz2 rfl (by decide) (.slice a n c) n (xs.map (pF z)) hown ⟨g, 0, none⟩ m d (ys.map (pF z)) (by simp [hm])
    (by
      intro j u hj
      rw [Addr.add_lit, Nat.zero_add]
      rw [← htk, List.getElem?_take] at hj
      split at hj
      · simp only [World.cell?, hh]
        simpa using hj
      · cases hj)
    (by
      intro u hu
      obtain ⟨f, _, rfl⟩ := List.mem_map.1 hu
      rfl) (by unfold maxLen; omega) (by omega) hlo
  exact ⟨v', w', r1, by rw [List.map_append]; exact r2, Keep.of_grown r3⟩
set_option maxRecDepth 100000 in
set_option maxHeartbeats 1000000 in
theorem rowFields_any (z : Nat) (w : World) : Calls Tryz.prog 69 #[ptr z] w (FldPost z [1, 3] w) := by
  have HK : Hid (Keep (fun _ => False) w w.drew) := Lib.hid (Keep.refl _ w).drew
  have HK1 : Hid (Keep (fun _ => False) w (w.alloc (.cells #[pF z 1, pF z 3] 107)).drew) := Lib.hid ((Keep.refl _ w).alloc _).drew
  have HO : Hid ((w.alloc (.cells #[pF z 1, pF z 3] 107)).drew.ownsRow w.heap.size 107 1 (.slice (some ⟨w.heap.size, 0, none⟩) 2 2) 2 [pF z 1, pF z 3]) := Lib.hid (own_new w w.heap.size [pF z 1, pF z 3] 107 (Nat.le_refl _) (by simp) (by simp))
  go_enter Tryz.func69, Tryz.ntmps69
  go_upto_region 1 with (fail)
  refine wp_region_walk [(true, 0), (true, 1), (true, 2), (false, 3), (false, 4), (false, 5), (false, 6), (false, 7)] (inKA (fun _ => False) w) (by kernel_rfl) (by kernel_rfl) ?_
  iterate 3 (refine walkW_read rfl (fun K hK => ?_); go_simp; refine hK _ ?_; clear hK K)
  iterate 4 (refine walkW_do rfl (inKA.of HK.out) (fun K hK => ?_); go_simp; refine hK _ _ ?_; clear hK K)
  refine walkW_do rfl (inKA.of HK1.out) (fun K hK => ?_)
  go_simp
  refine hK _ _ ?_; clear hK K
  refine ⟨inKA.of HK1.out, ?_⟩
  go_wp2_with fail
  go_ret
  exact ⟨_, _, rfl, HO.out, HK1.out⟩
set_option maxRecDepth 100000 in
set_option maxHeartbeats 1000000 in
theorem rangeFields_any (z : Nat) (w : World) : Calls Tryz.prog 70 #[ptr z] w (FldPost z [1, 2, 3, 4] w) := by
  have HK : Hid (Keep (fun _ => False) w w.drew) := Lib.hid (Keep.refl _ w).drew
  have HK1 : Hid (Keep (fun _ => False) w (w.alloc (.cells #[pF z 1, pF z 2, pF z 3, pF z 4] 107)).drew) := Lib.hid ((Keep.refl _ w).alloc _).drew
  have HO : Hid ((w.alloc (.cells #[pF z 1, pF z 2, pF z 3, pF z 4] 107)).drew.ownsRow w.heap.size 107 1 (.slice (some ⟨w.heap.size, 0, none⟩) 4 4) 4 [pF z 1, pF z 2, pF z 3, pF z 4]) := Lib.hid (own_new w w.heap.size [pF z 1, pF z 2, pF z 3, pF z 4] 107 (Nat.le_refl _) (by simp) (by simp))
  go_enter Tryz.func70, Tryz.ntmps70
  go_upto_region 1 with (fail)
  refine wp_region_walk [(true, 0), (true, 1), (true, 2), (true, 3), (true, 4), (true, 5), (true, 6), (true, 7), (true, 8), (false, 9), (false, 10), (false, 11), (false, 12), (false, 13)] (inKA (fun _ => False) w) (by kernel_rfl) (by kernel_rfl) ?_
  iterate 9 (refine walkW_read rfl (fun K hK => ?_); go_simp; refine hK _ ?_; clear hK K)
  iterate 4 (refine walkW_do rfl (inKA.of HK.out) (fun K hK => ?_); go_simp; refine hK _ _ ?_; clear hK K)
  refine walkW_do rfl (inKA.of HK1.out) (fun K hK => ?_)
  go_simp
  refine hK _ _ ?_; clear hK K
  refine ⟨inKA.of HK1.out, ?_⟩
  go_wp2_with fail
  go_ret
  exact ⟨_, _, rfl, HO.out, HK1.out⟩
theorem own_kept {W W' : World} {lo : Nat} {e : TypeId} {z n : Nat} {v : Value} {xs : List Value} (h : W.ownsRow lo e z v n xs) (k : Keep (fun _ => False) W W') : W'.ownsRow lo e z v n xs := by
  obtain ⟨h1, h2 | ⟨g, cap, cur, hv, hg, hh, h3⟩⟩ := h
  · exact ⟨h1, .inl h2⟩
  · exact ⟨h1, .inr ⟨g, cap, cur, hv, hg, k.heap hh (fun h => h), h3⟩⟩
theorem own_low {W : World} {lo lo' : Nat} {e : TypeId} {z n : Nat} {v : Value} {xs : List Value} (h : W.ownsRow lo e z v n xs) (hl : lo' ≤ lo) : W.ownsRow lo' e z v n xs := by
  obtain ⟨h1, h2 | ⟨g, cap, cur, hv, hg, h3⟩⟩ := h
  · exact ⟨h1, .inl h2⟩
  · exact ⟨h1, .inr ⟨g, cap, cur, hv, Nat.le_trans hl hg, h3⟩⟩
/-- What the free operations answer. -/
def aggFields_anyS (w : World) (z : Nat) (t : Nat) (v : Value) (W : World) : Prop :=
  (t = 6 → ∃ a c, v = .slice a 1 c ∧ W.ownsRow w.heap.size 107 1 (.slice a 1 c) 1 ([5].map (pF z))) ∧
  (t = 8 → ∃ a c, v = .slice a 4 c ∧ W.ownsRow w.heap.size 107 1 (.slice a 4 c) 4 ([1, 2, 3, 4].map (pF z)))
theorem aggFields_anyS_keep {u : World} {z : Nat} (t : Nat) (v : Value) (w w' : World) (h : aggFields_anyS u z t v w) (k : Keep (fun _ => False) w w') : aggFields_anyS u z t v w' := by
  obtain ⟨h1, h2⟩ := h
  refine ⟨fun e => ?_, fun e => ?_⟩
  · obtain ⟨a, c, q1, q2⟩ := h1 e
    exact ⟨a, c, q1, own_kept q2 k⟩
  · obtain ⟨a, c, q1, q2⟩ := h2 e
    exact ⟨a, c, q1, own_kept q2 k⟩
set_option maxRecDepth 100000 in
set_option maxHeartbeats 2000000 in
theorem aggFields_any (z : Nat) (w : World) : Calls Tryz.prog 71 #[ptr z] w (FldPost z [5, 1, 2, 3, 4] w) := by
  have HRF : Hid (∀ W, Calls Tryz.prog 70 #[ptr z] W (FldPost z [1, 2, 3, 4] W)) := Lib.hid (rangeFields_any z)
  go_enter Tryz.func71, Tryz.ntmps71
  go_upto_region 1 with (fail)
  refine wp_region_free [0, 1, 2, 4] [⟨3, 6, []⟩, ⟨5, 8, []⟩] [(false, 6), (false, 7)] (inKA (fun _ => False) w) (aggFields_anyS w z) (Keep (fun _ => False)) (by kernel_rfl) (by kernel_rfl) (inKA.of (Keep.refl _ w).drew) aggFields_anyS_keep (fun w w' hw hk => by obtain ⟨p, rfl⟩ := hw; exact inKA.of (p.k.trans hk)) ?_
  iterate 4 (refine headW_step rfl (fun K hK => ?_); go_simp; refine hK _ ?_; clear hK K)
  refine ⟨?_, ?_, ?_⟩
  · intro h hh
    simp only [List.mem_cons, List.not_mem_nil, or_false] at hh
    rcases hh with rfl | rfl <;> simp
  · refine freeW_step rfl (fun vs W hC hS K hK => ?_) (freeW_step rfl (fun vs W hC hS K hK => ?_) trivial)
    · obtain ⟨p, rfl⟩ := hC
      simp only [putL, List.foldl]
      have HO := Lib.hid (own_new p.val w.heap.size [pF z 5] 107 p.k.size (by simp) (by simp))
      go_simp
      exact hK _ _ ⟨fun _ => ⟨_, _, rfl, HO.out⟩, fun e => absurd e (by decide)⟩ ((Keep.refl _ p.val).alloc _)
    · obtain ⟨p, rfl⟩ := hC
      simp only [putL, List.foldl]
      have HSZ := Lib.hid p.k.size
      go_simp
      refine (HRF.out p.val).mono ?_
      rintro e W2 ⟨a, c, rfl, ho, kk⟩
      exact hK _ _ ⟨fun e => absurd e (by decide), fun _ => ⟨_, _, rfl, own_low ho HSZ.out⟩⟩ kk
  · intro vs W hC hS
    obtain ⟨p, rfl⟩ := hC
    obtain ⟨a1, c1, e1, o1⟩ := (hS ⟨3, 6, []⟩ (by simp)).1 rfl
    obtain ⟨a2, c2, e2, o2⟩ := (hS ⟨5, 8, []⟩ (by simp)).2 rfl
    simp only [] at e1 e2
    simp only [List.map, putL, List.foldl]
    generalize vs 6 = v1 at *
    generalize vs 8 = v2 at *
    subst e1 e2
    have HKP := Lib.hid p.k
    have hap := app_ptr p.val 105 w.heap.size z a1 a2 1 c1 4 c2 [5] [1, 2, 3, 4] rfl rfl o1 o2 (by decide) (by decide) p.k.size
    obtain ⟨v', w', r1, r2, r3⟩ := hap
    have HR := Lib.hid r1
    have HO := Lib.hid r2
    have hz : ∀ j, (Value.slice a1 1 c1).ownBlock = some j → w.heap.size ≤ j := fun j hj => (o1.lt j hj).1
    have HKQ : Hid (Keep (fun _ => False) w w') := Lib.hid (HKP.out.trans' r3 (fun j e => .inr (hz j e)))
    clear hS o1 o2 r1 r2 r3 hz
    generalize p.val = V at *
    obtain ⟨av, cv, rfl⟩ : ∃ a c, v' = .slice a 5 c := by
      rcases HO.out.2 with ⟨_, h0⟩ | ⟨g, c, cur, hv, _⟩
      · exact absurd h0 (by decide)
      · exact ⟨_, _, hv⟩
    refine walkW_app rfl (inKA.of HKP.out) rfl (.tmp 6) (.tmp 8) 105 rfl rfl rfl HR.out ?_
    refine walkW_do rfl (inKA.of HKQ.out) (fun K hK => ?_)
    go_simp
    refine hK _ _ ?_; clear hK K
    refine ⟨inKA.of HKQ.out, ?_⟩
    go_wp2_with fail
    go_ret
    exact ⟨_, _, rfl, HO.out, HKQ.out⟩
/-- What the free operations answer. -/
def joinFields_anyS (w : World) (z : Nat) (t : Nat) (v : Value) (W : World) : Prop :=
  (t = 9 → ∃ a c, v = .slice a 2 c ∧ W.ownsRow w.heap.size 107 1 (.slice a 2 c) 2 ([5, 6].map (pF z))) ∧
  (t = 11 → ∃ a c, v = .slice a 4 c ∧ W.ownsRow w.heap.size 107 1 (.slice a 4 c) 4 ([1, 2, 3, 4].map (pF z)))
theorem joinFields_anyS_keep {u : World} {z : Nat} (t : Nat) (v : Value) (w w' : World) (h : joinFields_anyS u z t v w) (k : Keep (fun _ => False) w w') : joinFields_anyS u z t v w' := by
  obtain ⟨h1, h2⟩ := h
  refine ⟨fun e => ?_, fun e => ?_⟩
  · obtain ⟨a, c, q1, q2⟩ := h1 e
    exact ⟨a, c, q1, own_kept q2 k⟩
  · obtain ⟨a, c, q1, q2⟩ := h2 e
    exact ⟨a, c, q1, own_kept q2 k⟩
set_option maxRecDepth 100000 in
set_option maxHeartbeats 2000000 in
theorem joinFields_any (z : Nat) (w : World) : Calls Tryz.prog 72 #[ptr z] w (FldPost z [5, 6, 1, 2, 3, 4] w) := by
  have HRF : Hid (∀ W, Calls Tryz.prog 70 #[ptr z] W (FldPost z [1, 2, 3, 4] W)) := Lib.hid (rangeFields_any z)
  go_enter Tryz.func72, Tryz.ntmps72
  go_upto_region 1 with (fail)
  refine wp_region_free [0, 1, 2, 3, 4, 5, 7] [⟨6, 9, []⟩, ⟨8, 11, []⟩] [(false, 9), (false, 10)] (inKA (fun _ => False) w) (joinFields_anyS w z) (Keep (fun _ => False)) (by kernel_rfl) (by kernel_rfl) (inKA.of (Keep.refl _ w).drew) joinFields_anyS_keep (fun w w' hw hk => by obtain ⟨p, rfl⟩ := hw; exact inKA.of (p.k.trans hk)) ?_
  iterate 7 (refine headW_step rfl (fun K hK => ?_); go_simp; refine hK _ ?_; clear hK K)
  refine ⟨?_, ?_, ?_⟩
  · intro h hh
    simp only [List.mem_cons, List.not_mem_nil, or_false] at hh
    rcases hh with rfl | rfl <;> simp
  · refine freeW_step rfl (fun vs W hC hS K hK => ?_) (freeW_step rfl (fun vs W hC hS K hK => ?_) trivial)
    · obtain ⟨p, rfl⟩ := hC
      simp only [putL, List.foldl]
      have HO := Lib.hid (own_new p.val w.heap.size [pF z 5, pF z 6] 107 p.k.size (by simp) (by simp))
      go_simp
      exact hK _ _ ⟨fun _ => ⟨_, _, rfl, HO.out⟩, fun e => absurd e (by decide)⟩ ((Keep.refl _ p.val).alloc _)
    · obtain ⟨p, rfl⟩ := hC
      simp only [putL, List.foldl]
      have HSZ := Lib.hid p.k.size
      go_simp
      refine (HRF.out p.val).mono ?_
      rintro e W2 ⟨a, c, rfl, ho, kk⟩
      exact hK _ _ ⟨fun e => absurd e (by decide), fun _ => ⟨_, _, rfl, own_low ho HSZ.out⟩⟩ kk
  · intro vs W hC hS
    obtain ⟨p, rfl⟩ := hC
    obtain ⟨a1, c1, e1, o1⟩ := (hS ⟨6, 9, []⟩ (by simp)).1 rfl
    obtain ⟨a2, c2, e2, o2⟩ := (hS ⟨8, 11, []⟩ (by simp)).2 rfl
    simp only [] at e1 e2
    simp only [List.map, putL, List.foldl]
    generalize vs 9 = v1 at *
    generalize vs 11 = v2 at *
    subst e1 e2
    have HKP := Lib.hid p.k
    have hap := app_ptr p.val 105 w.heap.size z a1 a2 2 c1 4 c2 [5, 6] [1, 2, 3, 4] rfl rfl o1 o2 (by decide) (by decide) p.k.size
    obtain ⟨v', w', r1, r2, r3⟩ := hap
    have HR := Lib.hid r1
    have HO := Lib.hid r2
    have hz : ∀ j, (Value.slice a1 2 c1).ownBlock = some j → w.heap.size ≤ j := fun j hj => (o1.lt j hj).1
    have HKQ : Hid (Keep (fun _ => False) w w') := Lib.hid (HKP.out.trans' r3 (fun j e => .inr (hz j e)))
    clear hS o1 o2 r1 r2 r3 hz
    generalize p.val = V at *
    obtain ⟨av, cv, rfl⟩ : ∃ a c, v' = .slice a 6 c := by
      rcases HO.out.2 with ⟨_, h0⟩ | ⟨g, c, cur, hv, _⟩
      · exact absurd h0 (by decide)
      · exact ⟨_, _, hv⟩
    refine walkW_app rfl (inKA.of HKP.out) rfl (.tmp 9) (.tmp 11) 105 rfl rfl rfl HR.out ?_
    refine walkW_do rfl (inKA.of HKQ.out) (fun K hK => ?_)
    go_simp
    refine hK _ _ ?_; clear hK K
    refine ⟨inKA.of HKQ.out, ?_⟩
    go_wp2_with fail
    go_ret
    exact ⟨_, _, rfl, HO.out, HKQ.out⟩
end Go.Proofs.YtcnpncndecjahaaGreatDoor

/-
  A line's beginning, field by field.
-/
namespace Go.Proofs.YtcnpncndecjahaaGreatDoor
open Go.Lib

theorem pieces_snoc (q : Qy) (k : Int) (f : Nat) (fs : List Nat) : ∀ i, pieces q k i (fs ++ [f]) = pieces q k i fs ++ (glueL k (i + fs.length) ++ [itoa (q.get f)]) := by
  induction fs with
  | nil => intro i; simp [pieces]
  | cons x fs ih =>
    intro i
    show glueL k i ++ itoa (q.get x) :: pieces q k (i + 1) (fs ++ [f]) = _
    rw [ih (i + 1)]
    show _ = (glueL k i ++ itoa (q.get x) :: pieces q k (i + 1) fs) ++ _
    rw [List.length_cons, show i + 1 + fs.length = i + (fs.length + 1) by omega]
    simp
/-- The line up to field k. -/
def linePre (q : Qy) (k : Nat) : List UInt8 := joinW (wordK q.kd :: pieces q q.kd 0 ((flds q.kd).take k))
theorem linePre_zero (q : Qy) : linePre q 0 = wordK q.kd := rfl
theorem linePre_all (q : Qy) {k : Nat} (h : (flds q.kd).length ≤ k) : linePre q k = lineL q := by
  unfold linePre lineL lineWs
  rw [List.take_of_length_le h]
/-- The line with the word in front of field k. -/
def lineGl (q : Qy) (k : Nat) : List UInt8 := match glueK q.kd k with | some g => linePre q k ++ 32 :: g | none => linePre q k
theorem linePre_next (q : Qy) {k f : Nat} (h : (flds q.kd)[k]? = some f) : linePre q (k + 1) = lineGl q k ++ 32 :: itoa (q.get f) := by
  have hk : k < (flds q.kd).length := (List.getElem?_eq_some_iff.1 h).1
  have e : (flds q.kd).take (k + 1) = (flds q.kd).take k ++ [f] := by rw [List.take_add_one, h]; rfl
  unfold lineGl linePre
  rw [e, pieces_snoc, List.length_take, Nat.min_eq_left (by omega), Nat.zero_add]
  unfold glueL
  cases glueK q.kd k with
  | none =>
    simp only [List.nil_append]
    rw [show wordK q.kd :: (pieces q q.kd 0 ((flds q.kd).take k) ++ [itoa (q.get f)]) = (wordK q.kd :: pieces q q.kd 0 ((flds q.kd).take k)) ++ [itoa (q.get f)] by simp, joinW_snoc _ _ (by simp)]
  | some g =>
    simp only []
    rw [show wordK q.kd :: (pieces q q.kd 0 ((flds q.kd).take k) ++ ([g] ++ [itoa (q.get f)])) = ((wordK q.kd :: pieces q q.kd 0 ((flds q.kd).take k)) ++ [g]) ++ [itoa (q.get f)] by simp, joinW_snoc _ _ (by simp), joinW_snoc _ _ (by simp)]
theorem wordK_len (k : Int) : (wordK k).length ≤ 5 := by
  unfold wordK
  repeat' split
  all_goals decide
theorem glueK_len {k : Int} {i : Nat} {g : List UInt8} (h : glueK k i = some g) : g.length = 2 := by
  unfold glueK at h
  split at h
  · split at h
    · cases Option.some.inj h; rfl
    · cases h
  · split at h
    · split at h
      · cases Option.some.inj h; rfl
      · split at h
        · cases Option.some.inj h; rfl
        · cases h
    · cases h
theorem lineGl_len (q : Qy) (k : Nat) : (lineGl q k).length ≤ (linePre q k).length + 3 := by
  unfold lineGl
  cases e : glueK q.kd k with
  | none => simp
  | some g =>
    have := glueK_len e
    simp
    omega
theorem flds_len (k : Int) : 2 ≤ (flds k).length ∧ (flds k).length ≤ 6 := by
  unfold flds
  repeat' split
  all_goals decide
theorem flds_lt {k : Int} {j f : Nat} (h : (flds k)[j]? = some f) : f < 7 := by
  have hm := List.mem_of_getElem? h
  unfold flds at hm
  repeat' split at hm
  all_goals (simp only [List.mem_cons, List.not_mem_nil, or_false] at hm; omega)
theorem linePre_len (q : Qy) (hq : ∀ f, -9223372036854775808 ≤ q.get f ∧ q.get f ≤ 9223372036854775807) : ∀ k, (linePre q k).length ≤ 5 + 25 * k := by
  intro k
  induction k with
  | zero => rw [linePre_zero]; have := wordK_len q.kd; omega
  | succ k ih =>
    cases e : (flds q.kd)[k]? with
    | none =>
      have h1 : (flds q.kd).length ≤ k := List.getElem?_eq_none_iff.1 e
      rw [linePre_all q (by omega), ← linePre_all q h1]
      omega
    | some f =>
      have h1 := itoa_length_le (q.get f) (hq f).1 (hq f).2
      have h2 := lineGl_len q k
      rw [linePre_next q e, List.length_append, List.length_cons]
      omega
end Go.Proofs.YtcnpncndecjahaaGreatDoor

/-
  Lookups of words and forms; Itoa; fields of every kind.
-/
namespace Go.Proofs.YtcnpncndecjahaaGreatDoor
open Go.RowKit Go.Shelf
open Go.Sort (grow)

/-- The library's table of powers of ten. -/
def Pow (w : World) : Prop := Lib.TabIs Tryz.prog w "internal/strconv.uint64pow10" .u64 Lib.pow10Tab
theorem gPow : Tryz.prog.globalNamed "internal/strconv.uint64pow10" = some 0 := by kernel_rfl
theorem Pow.kept {w w' : World} (h : Pow w) (k : Keep (fun _ => False) w w') : Pow w' := by
  unfold Pow Lib.TabIs World.var? at h ⊢
  rw [gPow] at h ⊢
  simp only [Option.bind_some] at h ⊢
  have hlt : 0 < w.heap.size := by
    rcases Nat.lt_or_ge 0 w.heap.size with h' | h'
    · exact h'
    · rw [Array.getElem?_eq_none h'] at h; cases h
  rw [k.block _ hlt (fun h => h)]
  exact h
theorem keep_grow (w : World) (k : Nat) (os : Array Obj) : Keep (fun _ => False) w (grow (w.drewN k) os) := by
  refine ⟨rfl, rfl, rfl, ?_, fun i hi _ => ?_⟩
  · show w.heap.size ≤ (w.heap ++ os).size
    rw [Array.size_append]; omega
  · show (w.heap ++ os)[i]? = w.heap[i]?
    rw [Array.getElem?_append_left hi]
theorem itoa_any (n : Int) (h : I64 n) (w : World) (hP : Pow w) : Calls Tryz.prog 38 #[.int .i64 n] w fun e w' => e = .returned (.string (bs (Lib.itoa n))) ∧ Keep (fun _ => False) w w' :=
  (Tryz.strconv_Itoa n h.1 h.2 w hP).mono fun e w' ⟨h1, k, os, h2⟩ => ⟨h1, by rw [h2]; exact keep_grow w k os⟩
theorem Qy.ok.i64 {q : Qy} (h : q.ok) : ∀ f, I64 (q.get f) := by
  have h1 := h.near
  have h2 := h.2
  unfold Qy.near at h1
  unfold Qy.form at h2
  intro f
  unfold I64
  match f with
  | 0 => show _ ≤ q.kd ∧ q.kd ≤ _; omega
  | 1 => show _ ≤ q.tb ∧ q.tb ≤ _; omega
  | 2 => show _ ≤ q.cl ∧ q.cl ≤ _; omega
  | 3 => show _ ≤ q.lo ∧ q.lo ≤ _; omega
  | 4 => show _ ≤ q.hi ∧ q.hi ≤ _; omega
  | 5 => show _ ≤ q.bb ∧ q.bb ≤ _; omega
  | (n + 6) => show _ ≤ q.ot ∧ q.ot ≤ _; omega
theorem Qy.ok.kind {q : Qy} (h : q.ok) : 1 ≤ q.kd ∧ q.kd ≤ 7 := by
  have h2 := h.2
  unfold Qy.form at h2
  omega
/-- The fields of every kind. -/
theorem fields_any (k : Int) (hk : 1 ≤ k ∧ k ≤ 7) (z : Nat) (w : World) : Calls Tryz.prog (fnK k) #[ptr z] w (FldPost z (flds k) w) := by
  rcases (by omega : k = 1 ∨ k = 2 ∨ k = 3 ∨ k = 4 ∨ k = 5 ∨ k = 6 ∨ k = 7) with rfl | rfl | rfl | rfl | rfl | rfl | rfl
  · exact rowFields_any z w
  · exact rangeFields_any z w
  · exact rangeFields_any z w
  · exact aggFields_any z w
  · exact aggFields_any z w
  · exact aggFields_any z w
  · exact joinFields_any z w
theorem fnK_enters (k : Int) (hk : 1 ≤ k ∧ k ≤ 7) : ∀ (args : Array Value) (w : World), (callFunc (fnK k) args).run Tryz.prog w = .ok (.enter (fnK k) args) w := by
  rcases (by omega : k = 1 ∨ k = 2 ∨ k = 3 ∨ k = 4 ∨ k = 5 ∨ k = 6 ∨ k = 7) with rfl | rfl | rfl | rfl | rfl | rfl | rfl
  · exact enters_of Tryz.func69 (by kernel_rfl) rfl
  · exact enters_of Tryz.func70 (by kernel_rfl) rfl
  · exact enters_of Tryz.func70 (by kernel_rfl) rfl
  · exact enters_of Tryz.func71 (by kernel_rfl) rfl
  · exact enters_of Tryz.func71 (by kernel_rfl) rfl
  · exact enters_of Tryz.func71 (by kernel_rfl) rfl
  · exact enters_of Tryz.func72 (by kernel_rfl) rfl
theorem bs_size (l : List UInt8) : (bs l).size = l.length := by show l.toArray.size = _; simp
theorem bs_list (l : List UInt8) : (bs l).data.toList = l := by simp
theorem zeroStr (w : World) : (zeroValue 9).run Tryz.prog w = .ok (.string ⟨#[]⟩) w := by kernel_rfl
/-- A word in front of a field. -/
def glS (k : Int) (i : Nat) : ByteArray := match glueK k i with | some g => bs g | none => ⟨#[]⟩
theorem glue_look {W : World} {gv : Value} {k : Int} (h : GlueAt W gv k) (i : Nat) (hi : i ≤ 9) : (Instr.lookup 90 gv (.int .i64 i) true).run Tryz.prog W = .ok (.tuple #[.string (glS k i), .bool (glueK k i).isSome]) W := by
  unfold glS
  rcases h with ⟨rfl, hn⟩ | ⟨b, rfl, hr⟩
  · rw [hn i]
    have hkey := keyInt (i := (i : Int)) (by unfold I64; omega)
    rcases intKeyed.find W hkey [] (by simp) with ⟨h1, -⟩ | ⟨j, e0, -, h2, -⟩
    · simp [Instr.lookup, run_underlying Tryz.underlying90, intKeyed.check W _ hkey, h1, Result.andThen]
    · simp at h2
  · rcases hr.look intKeyed Tryz.underlying90 (zeroStr W) true (keyInt (i := i) (by unfold I64; omega)) with ⟨h1, h2⟩ | ⟨v, h1, h2⟩
    · rw [h2]
      cases e : glueK k i with
      | none => rfl
      | some g => exact absurd ⟨i, g, hi, e, rfl, rfl⟩ (h1 _)
    · rw [h2]
      obtain ⟨i', g, -, e, e2, rfl⟩ := h1
      have e3 : (i : Int) = i' := (Value.int.inj e2).2
      have e4 : i = i' := by omega
      subst e4
      rw [e]
      rfl
theorem zeroForm (w : World) : (zeroValue 92).run Tryz.prog w = .ok (.agg #[.string ⟨#[]⟩, .nilFunc, .map none]) w := by kernel_rfl
theorem form_look {W : World} {mb ofb jb : Nat} (h : MapRel Tryz.prog 3 W mb (FormR ofb jb)) (k : Int) (hk : 1 ≤ k ∧ k ≤ 7) : (Instr.lookup 93 (.map (some mb)) (.int .i64 k) false).run Tryz.prog W = .ok (formV ofb jb k) W := by
  rcases h.look intKeyed Tryz.underlying93 (zeroForm W) false (keyInt (i := k) (by unfold I64; omega)) with ⟨h1, h2⟩ | ⟨v, h1, h2⟩
  · exact absurd ⟨k, hk.1, hk.2, rfl, rfl⟩ (h1 _)
  · rw [h2]
    obtain ⟨k', -, -, e, rfl⟩ := h1
    obtain rfl : k = k' := (Value.int.inj e).2
    rfl
/-- A form in a box. -/
def FBox (W : World) (z : Nat) (k : Int) (gv : Value) : Prop := W.cell? ⟨z, 0, none⟩ = some (.string (bs (wordK k))) ∧ W.cell? ⟨z, 1, none⟩ = some (.func (.func (fnK k)) #[] #[]) ∧ W.cell? ⟨z, 2, none⟩ = some gv
theorem FBox.keep {A : Nat → Prop} {W W' : World} {z : Nat} {k : Int} {gv : Value} (h : FBox W z k gv) (q : Keep A W W') (hA : ¬ A z) : FBox W' z k gv := ⟨q.cell h.1 hA, q.cell h.2.1 hA, q.cell h.2.2 hA⟩
theorem glueV_map (ofb jb : Nat) (k : Int) : ∃ o, glueV ofb jb k = .map o := by
  unfold glueV
  repeat' split
  all_goals exact ⟨_, rfl⟩
end Go.Proofs.YtcnpncndecjahaaGreatDoor

/-
  Print of package query.
-/
namespace Go.Proofs.YtcnpncndecjahaaGreatDoor
open Go.RowKit Go.Shelf

/-- A box of three cells. -/
def Box3 (W : World) (z : Nat) (x y u : Value) : Prop := W.cell? ⟨z, 0, none⟩ = some x ∧ W.cell? ⟨z, 1, none⟩ = some y ∧ W.cell? ⟨z, 2, none⟩ = some u ∧ ∀ o, W.frozen? ⟨z, o, none⟩ = false
theorem Box3.lt {W : World} {z : Nat} {x y u : Value} (h : Box3 W z x y u) : z < W.heap.size := World.block_lt_of_cell? _ _ h.1
theorem Box3.keep {W W' : World} {z : Nat} {x y u : Value} {A : Nat → Prop} (h : Box3 W z x y u) (k : Keep A W W') (hz : ¬ A z) : Box3 W' z x y u :=
  ⟨k.cell h.1 hz, k.cell h.2.1 hz, k.cell h.2.2.1 hz, fun o => by
    rw [World.frozen?_of_block (w := W) (a := ⟨z, o, none⟩) (k.block z h.lt hz)]
    exact h.2.2.2 o⟩
theorem Box3.kept {W W' : World} {z : Nat} {x y u : Value} (h : Box3 W z x y u) (k : Keep (fun _ => False) W W') : Box3 W' z x y u := h.keep k (fun h => h)
theorem Box3.new (W : World) (x y u : Value) (t : TypeId) : Box3 (W.alloc (.cells #[x, y, u] t)) W.heap.size x y u := by
  refine ⟨?_, ?_, ?_, ?_⟩
  · simp
  · simp
  · simp
  · intro o; simp [go_sem]
theorem Box3.put {W : World} {z : Nat} {x y u : Value} (h : Box3 W z x y u) (x' y' u' : Value) : Box3 (((W.setCell ⟨z, 0, none⟩ x').setCell ⟨z, 1, none⟩ y').setCell ⟨z, 2, none⟩ u') z x' y' u' := by
  have a0 := cell_set_same (v := x') h.1
  have a1 : (W.setCell ⟨z, 0, none⟩ x').cell? ⟨z, 1, none⟩ = some y := (cell_set_off (by decide)).trans h.2.1
  have a2 : (W.setCell ⟨z, 0, none⟩ x').cell? ⟨z, 2, none⟩ = some u := (cell_set_off (by decide)).trans h.2.2.1
  have b1 := cell_set_same (v := y') a1
  have b2 : ((W.setCell ⟨z, 0, none⟩ x').setCell ⟨z, 1, none⟩ y').cell? ⟨z, 2, none⟩ = some u := (cell_set_off (by decide)).trans a2
  refine ⟨?_, ?_, cell_set_same b2, fun o => ?_⟩
  · exact ((cell_set_off (by decide)).trans ((cell_set_off (by decide)).trans a0))
  · exact (cell_set_off (by decide)).trans b1
  · rw [World.frozen?_setCell, World.frozen?_setCell, World.frozen?_setCell]; exact h.2.2.2 o
theorem Bld.kept {B b : Nat} {l : List UInt8} {W W' : World} (h : Bld B b l W) (k : Keep (fun _ => False) W W') : Bld B b l W' := by
  have hg : W.grownBy W' none := ⟨k.os, k.tape, k.output, k.size, fun j hj _ => k.block j hj (fun h => h)⟩
  rcases h with ⟨h1, v, h2, h3, h4⟩ | ⟨h1, v, h2, h3, h4⟩
  · exact .inl ⟨h1, v, k.heap h2 (fun h => h), h3.kept hg (by
      cases e : v.ownBlock with
      | none => exact .inl rfl
      | some g => exact .inr (by simp)), h4⟩
  · exact .inr ⟨h1, v, k.heap h2 (fun h => h), h3.kept hg (by
      cases e : v.ownBlock with
      | none => exact .inl rfl
      | some g => exact .inr (by simp)), h4⟩
theorem Wrote.of_keep {b : Nat} {W W' : World} (k : Keep (fun _ => False) W W') (hb : b ≤ W.heap.size) : Wrote b b W W' :=
  ⟨(k.mono (fun _ h => h.elim)).below hb, fun _ _ h _ _ => k.heap h (fun h => h)⟩
theorem GlueAt.keepB {W W' : World} {b : Nat} {gv : Value} {k : Int} (h : GlueAt W gv k) (q : Keep (fun j => b ≤ j) W W') (hb : W.heap.size = b) : GlueAt W' gv k := by
  rcases h with h | ⟨m, h1, h2⟩
  · exact .inl h
  · exact .inr ⟨m, h1, h2.of_heap (q.block m h2.lt (by have := h2.lt; omega))⟩
/-- What the free operations of Print's region answer. -/
def prS (kd : Int) (B : Nat) (t : Nat) (v : Value) (W : World) : Prop :=
  (t = 14 → ∃ mb ofb jb, v = .map (some mb) ∧ MapRel Tryz.prog 3 W mb (FormR ofb jb) ∧ ∀ k : Int, 1 ≤ k → k ≤ 7 → GlueAt W (glueV ofb jb k) k) ∧
  (t = 17 → ∃ o, v = .agg #[.string (bs (wordK kd)), .func (.func (fnK kd)) #[] #[], .map o] ∧ GlueAt W (.map o) kd) ∧
  (t = 4 → ∃ z, v = ptr z ∧ B ≤ z ∧ Box3 W z (.string ⟨#[]⟩) .nilFunc (.map none))
theorem prS_keep {kd : Int} {B : Nat} (t : Nat) (v : Value) (w w' : World) (h : prS kd B t v w) (k : Keep (fun _ => False) w w') : prS kd B t v w' := by
  obtain ⟨h1, h2, h3⟩ := h
  refine ⟨fun e => ?_, fun e => ?_, fun e => ?_⟩
  · obtain ⟨mb, ofb, jb, q1, q2, q3⟩ := h1 e
    exact ⟨mb, ofb, jb, q1, q2.kept k, fun i a b => (q3 i a b).kept k⟩
  · obtain ⟨o, q1, q2⟩ := h2 e
    exact ⟨o, q1, q2.kept k⟩
  · obtain ⟨z, q1, q2, q3⟩ := h3 e
    exact ⟨z, q1, q2, q3.kept k⟩
theorem Pow.keepB {W W' : World} {b : Nat} (h : Pow W) (q : Keep (fun j => b ≤ j) W W') (hb : W.heap.size = b) : Pow W' := by
  unfold Pow Lib.TabIs World.var? at h ⊢
  rw [gPow] at h ⊢
  simp only [Option.bind_some] at h ⊢
  have hlt : 0 < W.heap.size := by
    rcases Nat.lt_or_ge 0 W.heap.size with h' | h'
    · exact h'
    · rw [Array.getElem?_eq_none h'] at h; cases h
  rw [q.block _ hlt (by omega)]
  exact h
def PrintPost (q : Qy) (w : World) (e : Ending) (w' : World) : Prop := e = .returned (.tuple #[.string (bs (if q.ok then lineL q else [])), .int .i64 (if q.ok then 0 else 50)]) ∧ Keep (fun _ => False) w w'
set_option maxRecDepth 100000 in
set_option maxHeartbeats 8000000 in
theorem print_any (q : Qy) (w : World) (hP : Pow w) : Calls Tryz.prog 10 #[qV q] w (PrintPost q w) := by
  unfold PrintPost
  have HVA : Hid (∀ W, Calls Tryz.prog 30 #[qV q] W fun e w' => e = .returned (.bool (decide q.ok)) ∧ Keep (fun _ => False) W w') := Lib.hid (valid_any q)
  have K0 : Hid (Keep (fun _ => False) w (w.alloc (.cells #[.int .i64 q.kd, .int .i64 q.tb, .int .i64 q.cl, .int .i64 q.lo, .int .i64 q.hi, .int .i64 q.bb, .int .i64 q.ot] 37))) := Lib.hid ((Keep.refl _ w).alloc _)
  have HQ0 := Lib.hid (QBox.new w q 37)
  have HP := Lib.hid hP
  have HZ0 : Hid (w.heap.size ≤ w.heap.size) := Lib.hid (Nat.le_refl _)
  clear hP
  by_cases hok : q.ok
  · rw [if_pos hok, if_pos hok]
    rw [decide_eq_true hok] at HVA
    have HI := Lib.hid hok.i64
    have HKD := Lib.hid hok.kind
    clear hok
    go_enter Tryz.func10, Tryz.ntmps10
    go_wp2_with fail
    with_reducible refine (HVA.out _).mono ?_
    rintro e W1 ⟨rfl, k1⟩
    have HK1 := Lib.hid (K0.out.trans k1)
    have HQ1 := Lib.hid (HQ0.out.kept k1)
    generalize w.heap.size = z at *
    clear k1 K0 HQ0
    go_upto_region 3 with (fail)
    have r0 : ∀ p : KA (fun _ => False) W1, p.val.cell? ⟨z, 0, none⟩ = some (.int .i64 q.kd) := fun p => (HQ1.out.kept p.k).1 0 (by decide)
    refine wp_region_free [1, 2] [⟨0, 14, []⟩, ⟨3, 17, [14]⟩, ⟨4, 4, []⟩] [(false, 5)] (inKA (fun _ => False) W1) (prS q.kd W1.heap.size) (Keep (fun _ => False)) (by kernel_rfl) (by kernel_rfl) (inKA.of (Keep.refl _ W1).drew) prS_keep (fun w w' hw hk => by obtain ⟨p, rfl⟩ := hw; exact inKA.of (p.k.trans hk)) ?_
    iterate 2 (refine headW_step rfl (fun K hK => ?_); go_simp; refine hK _ ?_; clear hK K)
    clear r0
    refine ⟨?_, ?_, ?_⟩
    · intro h hh
      simp only [List.mem_cons, List.not_mem_nil, or_false] at hh
      rcases hh with rfl | rfl | rfl <;> simp
    · refine freeW_step rfl (fun vs W hC hS K hK => ?_) (freeW_step rfl (fun vs W hC hS K hK => ?_) (freeW_step rfl (fun vs W hC hS K hK => ?_) trivial))
      · simp only [putL, List.foldl]
        go_simp
        refine (forms_any W).mono ?_
        rintro e W2 ⟨mb, ofb, jb, rfl, h1, h2, kk⟩
        exact hK _ _ ⟨fun _ => ⟨mb, ofb, jb, rfl, h1, h2⟩, fun e => absurd e (by decide), fun e => absurd e (by decide)⟩ kk
      · obtain ⟨mb, ofb, jb, e1, h1, h2⟩ := (hS 14 (by simp)).1 rfl
        simp only [putL, List.foldl]
        generalize vs 14 = v14 at *
        subst e1
        have hl := form_look h1 q.kd HKD.out
        obtain ⟨o, ho⟩ := glueV_map ofb jb q.kd
        have h3 := Lib.hid (h2 q.kd HKD.out.1 HKD.out.2)
        unfold formV at hl
        rw [ho] at hl h3
        clear ho h1 h2 hS
        generalize hs : bs (wordK q.kd) = s0 at hl
        have HS := Lib.hid hs
        clear hs
        go_simp
        rw [← HS.out]
        exact hK _ _ ⟨fun e => absurd e (by decide), fun _ => ⟨o, rfl, h3.out⟩, fun e => absurd e (by decide)⟩ (Keep.refl _ W)
      · obtain ⟨p, rfl⟩ := hC
        simp only [putL, List.foldl]
        have hsz := p.k.size
        go_simp
        exact hK _ _ ⟨fun e => absurd e (by decide), fun e => absurd e (by decide), fun _ => ⟨p.val.heap.size, rfl, hsz, Box3.new _ _ _ _ _⟩⟩ ((Keep.refl _ p.val).alloc _)
    · intro vs W hC hS
      obtain ⟨p, rfl⟩ := hC
      obtain ⟨mb, ofb, jb, e1, -, -⟩ := (hS ⟨0, 14, []⟩ (by simp)).1 rfl
      obtain ⟨o, e2, hgl⟩ := (hS ⟨3, 17, [14]⟩ (by simp)).2.1 rfl
      obtain ⟨z4, e3, hz4, hb4⟩ := (hS ⟨4, 4, []⟩ (by simp)).2.2 rfl
      simp only [] at e1 e2 e3
      simp only [List.map, putL, List.foldl]
      generalize vs 14 = v14 at *
      generalize vs 17 = v17 at *
      generalize vs 4 = v4 at *
      have HKP := Lib.hid p.k
      have HGP := Lib.hid hgl
      have HBP := Lib.hid hb4
      have HZ4 := Lib.hid hz4
      clear hS hgl hb4 hz4
      generalize p.val = V at *
      generalize hs : bs (wordK q.kd) = s0 at e2
      generalize hf : fnK q.kd = fk at e2
      have HS := Lib.hid hs
      have HF := Lib.hid hf
      clear hs hf
      subst e1 e2 e3
      obtain ⟨y0, y1, y2, yf⟩ := HBP.out
      refine walkW_do rfl (inKA.of HKP.out) (fun K hK => ?_)
      go_simp
      refine hK _ _ ?_; clear hK K
      clear y0 y1 y2 yf
      have kq : Keep (fun j => j = z4) V (((V.setCell ⟨z4, 0, none⟩ (.string s0)).setCell ⟨z4, 1, none⟩ (.func (.func fk) #[] #[])).setCell ⟨z4, 2, none⟩ (.map o)) := (((Keep.refl (fun j => j = z4) V).setCell (p := ⟨z4, 0, none⟩) _ (.inl rfl)).setCell (p := ⟨z4, 1, none⟩) _ (.inl rfl)).setCell (p := ⟨z4, 2, none⟩) _ (.inl rfl)
      have HB4 := Lib.hid (HBP.out.put (.string s0) (.func (.func fk) #[] #[]) (.map o))
      have HKV : Hid (Keep (fun _ => False) W1 (((V.setCell ⟨z4, 0, none⟩ (.string s0)).setCell ⟨z4, 1, none⟩ (.func (.func fk) #[] #[])).setCell ⟨z4, 2, none⟩ (.map o))) := Lib.hid (HKP.out.trans' kq (fun j e => .inr (by have h5 : j = z4 := e; have := HZ4.out; omega)))
      have HGV : Hid (GlueAt (((V.setCell ⟨z4, 0, none⟩ (.string s0)).setCell ⟨z4, 1, none⟩ (.func (.func fk) #[] #[])).setCell ⟨z4, 2, none⟩ (.map o)) (.map o) q.kd) := Lib.hid (by
        rcases HGP.out with h | ⟨m, h1, h2⟩
        · exact .inl h
        · exact .inr ⟨m, h1, h2.of_heap (kq.block m h2.lt (fun e => h2.not_cell HBP.out.1 e.symm))⟩)
      clear kq HBP HKP HGP HZ4
      generalize ((V.setCell ⟨z4, 0, none⟩ (.string s0)).setCell ⟨z4, 1, none⟩ (.func (.func fk) #[] #[])).setCell ⟨z4, 2, none⟩ (.map o) = V1 at *
      refine ⟨inKA.of HKV.out, ?_⟩
      have HQV := Lib.hid (HQ1.out.kept HKV.out)
      have HKW := Lib.hid (HK1.out.trans HKV.out)
      have HPV := Lib.hid (HP.out.kept HKW.out)
      clear HKV HQ1 HK1
      have HMF : Hid (∀ (fn : Fn) (first cap : Array Value) (w : World), (Instr.makeFunc fn first cap).run Tryz.prog w = .ok (.func fn first cap) w) := Lib.hid (fun _ _ _ _ => rfl)
      have ka : Keep (fun _ => False) V1 (V1.alloc (.cells #[.pointer none, .slice none 0 0] 98)) := (Keep.refl _ V1).alloc _
      have HBL : Hid (Bld V1.heap.size V1.heap.size [] (V1.alloc (.cells #[.pointer none, .slice none 0 0] 98))) := Lib.hid (Lib.IsBuilderF.of (Lib.fresh_isBuilder _ _ V1))
      have HKB : Hid (Keep (fun j => V1.heap.size ≤ j) V1 (V1.alloc (.cells #[.pointer none, .slice none 0 0] 98))) := Lib.hid (ka.mono (fun _ h => h.elim))
      have HZB : Hid (z < V1.heap.size ∧ z4 < V1.heap.size ∧ w.heap.size ≤ V1.heap.size) := Lib.hid ⟨HQV.out.lt, HB4.out.lt, HKW.out.size⟩
      have HSB : Hid (V1.heap.size ≤ (V1.alloc (.cells #[.pointer none, .slice none 0 0] 98)).heap.size) := Lib.hid ka.size
      clear ka
      go_upto_region 5 with (fail)
      generalize V1.alloc (.cells #[.pointer none, .slice none 0 0] 98) = V2 at *
      obtain ⟨b, hbz⟩ : ∃ b, V1.heap.size = b := ⟨_, rfl⟩
      have HVB := Lib.hid hbz
      rw [hbz] at HBL HKB HZB HSB ⊢
      clear hbz
      obtain ⟨y0, y1, y2, -⟩ := HB4.out.keep HKB.out (fun h => by have := HZB.out; omega)
      go_wp2_with fail
      clear y0 y1 y2
      rw [← HS.out]
      with_reducible refine (writeString_any b b [] (bs (wordK q.kd)) V2 HBL.out (by have := wordK_len q.kd; rw [bs_size, List.length_nil]; omega) HSB.out).mono ?_
      rintro e V3 ⟨rfl, hb3, hw3⟩
      have HB3 : Hid (Bld b b (linePre q 0) V3) := Lib.hid (by rw [linePre_zero]; simpa using hb3)
      have HK3 := Lib.hid (HKB.out.trans (Keep.of_below hw3.below))
      have HS3 : Hid (b ≤ V3.heap.size) := Lib.hid (Nat.le_trans HSB.out hw3.below.size)
      clear hb3 hw3 HBL HKB HSB
      have hmf := HMF.out
      have hen := fnK_enters q.kd HKD.out
      rw [HF.out] at hen
      obtain ⟨y0, y1, y2, -⟩ := HB4.out.keep HK3.out (fun h => by have := HZB.out; omega)
      go_wp2_with fail
      clear y0 y1 y2 hmf hen
      rw [← HF.out]
      with_reducible refine (fields_any q.kd HKD.out z V3).mono ?_
      rintro e V4 ⟨ag, cg, rfl, hrow, k4⟩
      obtain ⟨n, hn⟩ : ∃ n, (flds q.kd).length = n := ⟨_, rfl⟩
      have HN := Lib.hid hn
      have hn26 := flds_len q.kd
      rw [hn] at hrow hn26 ⊢
      clear hn
      obtain ⟨-, ⟨-, h0⟩ | ⟨g, cap, cur, e, hg, hh, hnc, hcm, hsz, htk⟩⟩ := hrow
      · omega
      obtain ⟨rfl, -, rfl⟩ := Value.slice.inj e
      clear e
      have HROW : Hid (∀ W : World, W.heap[g]? = some (.cells cur 107 (0, 0)) → ∀ (j f : Nat), (flds q.kd)[j]? = some f → W.cell? ⟨g, j, none⟩ = some (pF z f)) := Lib.hid (fun W hW j f hj => by
        rw [Lib.cell_of_heap hW]
        have h1 : (cur.toList.take (n * 1))[j]? = some (pF z f) := by rw [htk, List.getElem?_map, hj]; rfl
        rw [List.getElem?_take] at h1
        split at h1
        · simpa using h1
        · cases h1)
      have HGB : Hid (b < g) := Lib.hid (by have := HB3.out.lt; omega)
      have HH4 := Lib.hid hh
      have HB4L := Lib.hid (HB3.out.kept k4)
      have HK4 := Lib.hid (HK3.out.trans (k4.mono (fun _ h => h.elim)))
      have HS4 : Hid (b ≤ V4.heap.size) := Lib.hid (Nat.le_trans HS3.out k4.size)
      clear htk hsz hcm hg hh k4 HB3 HK3 HS3
      have HCL : Hid (∀ W l s, Bld b b l W → l.length + s.size ≤ 100000 → b ≤ W.heap.size → Calls Tryz.prog 36 #[.string s, ptr b] W fun e w' => e = .returned (.tuple #[]) ∧ Bld b b (l ++ 32 :: s.data.toList) w' ∧ Wrote b b W w') := Lib.hid (fun W l s h1 h2 h3 => put_any b b l s W h1 h2 h3)
      have HIT : Hid (∀ W x, I64 x → Pow W → Calls Tryz.prog 38 #[.int .i64 x] W fun e w' => e = .returned (.string (bs (Lib.itoa x))) ∧ Keep (fun _ => False) W w') := Lib.hid (fun W x h1 h2 => itoa_any x h1 W h2)
      have HPB : Hid (∀ W, Keep (fun j => b ≤ j) V1 W → Pow W) := Lib.hid (fun W k => HPV.out.keepB k HVB.out)
      go_wp2_with fail
      go_loopg [26] n (fun gh v wr => ∃ k : Nat, gh + k = n ∧ v = .int .i64 k ∧ Bld b b (linePre q k) wr ∧ wr.heap[g]? = some (.cells cur 107 (0, 0)) ∧ Keep (fun j => b ≤ j) V1 wr ∧ b ≤ wr.heap.size)
      case atStart => exact ⟨0, by omega, rfl, HB4L.out, HH4.out, HK4.out, HS4.out⟩
      case round =>
        clear HB4L HH4 HK4 HS4
        obtain ⟨k, hk, rfl, hbl, hh, hkp, hsz⟩ := hrel
        have HBL := Lib.hid hbl
        have HH := Lib.hid hh
        have HKP := Lib.hid hkp
        have HSZ := Lib.hid hsz
        clear hbl hh hkp hsz
        by_cases hlt : k < n
        · obtain ⟨f, hf⟩ : ∃ f, (flds q.kd)[k]? = some f := ⟨_, List.getElem?_eq_getElem (by rw [HN.out]; exact hlt)⟩
          have hf7 := flds_lt hf
          have HNX := Lib.hid (linePre_next q hf)
          have c0 := HROW.out wr HH.out k f hf
          have HLN := Lib.hid (linePre_len q HI.out k)
          have HGN := Lib.hid (lineGl_len q k)
          have hkz : (k : Int) < (n : Int) := by omega
          have hk0 : (0 : Int) ≤ (k : Int) := by omega
          have HIF := Lib.hid (HI.out f)
          have HCF := Lib.hid ((HQV.out.keep HKP.out (fun h => by have := HZB.out; omega)).1 f hf7)
          clear hf
          obtain ⟨y0, y1, y2, -⟩ := HB4.out.keep HKP.out (fun h => by have := HZB.out; omega)
          have hl := glue_look (HGV.out.keepB HKP.out HVB.out) k (by omega)
          cases eg : glueK q.kd k with
          | none =>
            have HGL : Hid (lineGl q k = linePre q k) := Lib.hid (by unfold lineGl; rw [eg])
            rw [eg] at hl
            simp only [Option.isSome_none] at hl
            generalize glS q.kd k = sg at hl
            have HBG := Lib.hid HBL.out
            rw [← HGL.out] at HBG
            clear y0 y1
            have c1 := HCF.out
            go_wp2_with fail
            clear c1
            with_reducible refine (HIT.out _ _ HIF.out (HPB.out _ HKP.out)).mono ?_
            rintro e W9 ⟨rfl, k9⟩
            have HB9 := Lib.hid (HBG.out.kept k9)
            have HS9 : Hid (b ≤ W9.heap.size) := Lib.hid (Nat.le_trans HSZ.out k9.size)
            have HK9 := Lib.hid (HKP.out.trans (k9.mono (fun _ h => h.elim)))
            have HH9 := Lib.hid (k9.heap HH.out (fun h => h))
            clear k9
            have HSI : Hid ((lineGl q k).length + (bs (Lib.itoa (q.get f))).size ≤ 100000) := Lib.hid (by
              have h1 := HLN.out
              have h2 := HGN.out
              have h3 := Lib.itoa_length_le (q.get f) HIF.out.1 HIF.out.2
              rw [bs_size]
              omega)
            go_wp2_with fail
            with_reducible refine (HCL.out _ _ _ HB9.out HSI.out HS9.out).mono ?_
            rintro e W10 ⟨rfl, hb10, hw10⟩
            rw [bs_list] at hb10
            have HB10 : Hid (Bld b b (linePre q (k + 1)) W10) := Lib.hid (by rw [HNX.out]; exact hb10)
            have HS10 : Hid (b ≤ W10.heap.size) := Lib.hid (Nat.le_trans HS9.out hw10.below.size)
            have HK10 := Lib.hid (HK9.out.trans (Keep.of_below hw10.below))
            have HH10 := Lib.hid (hw10.others g _ HH9.out (fun e => by have h5 : g = b := Option.some.inj e; have := HGB.out; omega) (fun c fz e => by have h5 := (Obj.cells.inj e).2.1; exact absurd h5 (by decide)))
            clear hb10 hw10
            go_wp2_with fail
            go_roundg (n - (k + 1))
            case rel => exact ⟨k + 1, by omega, by go_num, HB10.out, HH10.out, HK10.out, HS10.out⟩
            case measure => omega
          | some gw =>
            have HGL : Hid (lineGl q k = linePre q k ++ 32 :: gw) := Lib.hid (by unfold lineGl; rw [eg])
            have hgw := glueK_len eg
            have egs : glS q.kd k = bs gw := by unfold glS; rw [eg]
            rw [eg, egs] at hl
            simp only [Option.isSome_some] at hl
            have HSG : Hid ((linePre q k).length + (bs gw).size ≤ 100000) := Lib.hid (by
              have h1 := HLN.out
              rw [bs_size, hgw]
              omega)
            have HLG := Lib.hid (bs_list gw)
            clear eg egs hgw
            generalize bs gw = sg at *
            go_wp2_with fail
            clear y0 y1 hl
            with_reducible refine (HCL.out _ _ _ HBL.out HSG.out HSZ.out).mono ?_
            rintro e W8 ⟨rfl, hb8, hw8⟩
            have HBGb : Hid (Bld b b (lineGl q k) W8) := Lib.hid (by rw [HGL.out, ← HLG.out]; exact hb8)
            have HSZb : Hid (b ≤ W8.heap.size) := Lib.hid (Nat.le_trans HSZ.out hw8.below.size)
            have HKPb := Lib.hid (HKP.out.trans (Keep.of_below hw8.below))
            have HHb := Lib.hid (hw8.others g _ HH.out (fun e => by have h5 : g = b := Option.some.inj e; have := HGB.out; omega) (fun c fz e => by have h5 := (Obj.cells.inj e).2.1; exact absurd h5 (by decide)))
            have HCFb := Lib.hid ((HQV.out.keep HKPb.out (fun h => by have := HZB.out; omega)).1 f hf7)
            clear hb8 hw8
            have c1 := HCFb.out
            go_wp2_with fail
            clear c1
            with_reducible refine (HIT.out _ _ HIF.out (HPB.out _ HKPb.out)).mono ?_
            rintro e W9 ⟨rfl, k9⟩
            have HB9 := Lib.hid (HBGb.out.kept k9)
            have HS9 : Hid (b ≤ W9.heap.size) := Lib.hid (Nat.le_trans HSZb.out k9.size)
            have HK9 := Lib.hid (HKPb.out.trans (k9.mono (fun _ h => h.elim)))
            have HH9 := Lib.hid (k9.heap HHb.out (fun h => h))
            clear k9
            have HSI : Hid ((lineGl q k).length + (bs (Lib.itoa (q.get f))).size ≤ 100000) := Lib.hid (by
              have h1 := HLN.out
              have h2 := HGN.out
              have h3 := Lib.itoa_length_le (q.get f) HIF.out.1 HIF.out.2
              rw [bs_size]
              omega)
            go_wp2_with fail
            with_reducible refine (HCL.out _ _ _ HB9.out HSI.out HS9.out).mono ?_
            rintro e W10 ⟨rfl, hb10, hw10⟩
            rw [bs_list] at hb10
            have HB10 : Hid (Bld b b (linePre q (k + 1)) W10) := Lib.hid (by rw [HNX.out]; exact hb10)
            have HS10 : Hid (b ≤ W10.heap.size) := Lib.hid (Nat.le_trans HS9.out hw10.below.size)
            have HK10 := Lib.hid (HK9.out.trans (Keep.of_below hw10.below))
            have HH10 := Lib.hid (hw10.others g _ HH9.out (fun e => by have h5 : g = b := Option.some.inj e; have := HGB.out; omega) (fun c fz e => by have h5 := (Obj.cells.inj e).2.1; exact absurd h5 (by decide)))
            clear hb10 hw10
            go_wp2_with fail
            go_roundg (n - (k + 1))
            case rel => exact ⟨k + 1, by omega, by go_num, HB10.out, HH10.out, HK10.out, HS10.out⟩
            case measure => omega
        · obtain rfl : k = n := by omega
          have HBE : Hid (Bld b b (lineL q) wr) := Lib.hid (by
            have h := HBL.out
            rwa [linePre_all q (by rw [HN.out]; exact Nat.le_refl _)] at h)
          have HST := Lib.hid (Tryz.Builder_String_any_k b b (lineL q) wr HBE.out HSZ.out)
          have hkz : ¬ (k : Int) < (k : Int) := by omega
          go_wp2_with fail
          with_reducible refine HST.out.mono ?_
          rintro e W9 ⟨rfl, -, hbl, -⟩
          have HKE : Hid (Keep (fun _ => False) w W9) := Lib.hid (HKW.out.trans' (HKP.out.trans (Keep.of_below hbl)) (fun j h => .inr (by have h5 : b ≤ j := h; have := HZB.out; omega)))
          clear hbl
          go_wp2_with fail
          go_ret2
          exact ⟨rfl, HKE.out⟩
  · rw [if_neg hok, if_neg hok]
    rw [decide_eq_false hok] at HVA
    go_enter Tryz.func10, Tryz.ntmps10
    go_wp2_with fail
    with_reducible refine (HVA.out _).mono ?_
    rintro e W1 ⟨rfl, k1⟩
    have HK1 := Lib.hid (K0.out.trans k1)
    clear k1
    go_wp2_with fail
    go_ret2
    exact ⟨rfl, HK1.out⟩
end Go.Proofs.YtcnpncndecjahaaGreatDoor

/-
  At of package store: records that apply one after the other.
-/
namespace Go.Proofs.YtcnpncndecjahaaGreatDoor
open Go.RowKit Go.Shelf

theorem LogOk.fit {L : List Rc} (h : LogOk L) {i : Nat} {r : Rc} (hi : L[i]? = some r) : r.pos = (i : Int) + 1 ∧ fitsB (rowsOf (L.take i)) i ((i : Int) + 1) r.chs = true := h i r hi
theorem rowsOf_take {L : List Rc} {i : Nat} {r : Rc} (hi : L[i]? = some r) : rowsOf (L.take (i + 1)) = r.chs.foldl stepR (rowsOf (L.take i)) := by
  rw [List.take_add_one, hi]
  exact rowsOf_snoc _ _
theorem Chs.own_lt {W : World} {v : Value} {l : List Chg} (h : Chs W v l) (hl : 0 < l.length) : ∀ b, v.ownBlock = some b → b < W.heap.size := by
  obtain ⟨-, -, a, c, b0, off, rfl, -, ha, h1⟩ := h
  obtain rfl := ha hl
  intro b hb
  obtain ⟨x, hx⟩ : ∃ x, l[0]? = some x := ⟨_, List.getElem?_eq_getElem hl⟩
  have h2 := World.block_lt_of_cell? _ _ (h1 0 x hx 0 _ rfl)
  have h3 : b0 = b := by
    simp [Value.ownBlock] at hb
    exact hb
  subst h3
  exact h2
/-- A store whose rows are those behind some records. -/
def AtP (L : List Rc) (w : World) (e : Ending) (w' : World) : Prop := ∃ z mb, e = .returned (.tuple #[ptr z, .int .i64 0]) ∧ StA w' z mb (rowsOf L) L.length ∧ Keep (fun _ => False) w w'
set_option maxRecDepth 100000 in
set_option maxHeartbeats 8000000 in
theorem at_any (v : Value) (L : List Rc) (p : Nat) (w : World) (h : RcsAt w v L) (hlog : LogOk L) (hp : p ≤ L.length) (hl : L.length ≤ 1000) : Calls Tryz.prog 6 #[v, .int .i64 p] w (AtP (L.take p) w) := by
  have HR := Lib.hid h
  have HLOG := Lib.hid hlog
  obtain ⟨a, c, b, off, rfl, hc, ha, hcell⟩ := h.at_
  have HA := Lib.hid ha
  have HCE := Lib.hid hcell
  have HTL : Hid ((L.take p).length = p) := Lib.hid (by rw [List.length_take]; omega)
  obtain ⟨n, hn⟩ : ∃ n, L.length = n := ⟨_, rfl⟩
  have HN := Lib.hid hn
  rw [hn] at hc hp hl ⊢
  clear h hlog ha hcell hn
  have hp1 : ¬ (p : Int) < 0 := by omega
  have hp2 : ¬ (n : Int) < (p : Int) := by omega
  have hpz : (p : Int) ≤ (c : Int) := by omega
  have hp0 : (0 : Int) ≤ (p : Int) := by omega
  obtain ⟨v2, hr2, hv2⟩ : ∃ v2, (∀ w, (Instr.sliceAt 26 (.slice a n c) none (some (.int .i64 p)) none).run Tryz.prog w = .ok v2 w) ∧ ∃ a2 c2, v2 = .slice a2 p c2 ∧ (0 < p → a2 = a) := by
    cases a with
    | none =>
      have hn0 : n = 0 := by
        rcases Nat.eq_zero_or_pos n with h | h
        · exact h
        · have := HA.out (by rw [HN.out]; exact h); cases this
      have hp00 : p = 0 := by omega
      subst hp00
      refine ⟨.slice none 0 c, fun w => ?_, none, c, rfl, fun h => rfl⟩
      simp [Instr.sliceAt, Instr.slice, run_underlying Tryz.underlying26, Instr.sliceBounds, go_sem]
    | some ad =>
      refine ⟨.slice (some ad) p c, fun w => ?_, some ad, c, rfl, fun _ => rfl⟩
      by_cases h0 : c = 0
      · subst h0
        obtain rfl : p = 0 := by omega
        simp [Instr.sliceAt, Instr.slice, run_underlying Tryz.underlying26, Instr.sliceBounds, go_sem]
      · simp [Instr.sliceAt, Instr.slice, run_underlying Tryz.underlying26, Instr.sliceBounds, go_sem, hpz, hp0]
  obtain ⟨a2, c2, rfl, ha2⟩ := hv2
  have HA2 := Lib.hid ha2
  clear ha2
  go_enter Tryz.func6, Tryz.ntmps6
  go_wp2_with fail
  with_reducible refine (newSt_any w).mono ?_
  rintro e W1 ⟨z, mb, rfl, hs, hk, hz, hm⟩
  have HS := Lib.hid hs
  have HK := Lib.hid hk
  have HZ := Lib.hid (And.intro hz hm)
  clear hs hk hz hm
  go_wp2_with (refine wpList_slice rfl 26 (.tmp 18) none (some (.tmp 19)) rfl (hr2 _) ?_)
  clear hr2
  have HFI := Lib.hid (fun (i : Nat) (r : Rc) (hi : L[i]? = some r) => HLOG.out.fit hi)
  go_loopg [22] p (fun gh v22 wr => ∃ i : Nat, gh + i = p ∧ v22 = .int .i64 i ∧ StA wr z mb (rowsOf (L.take i)) i ∧ Keep (fun j => j = z ∨ j = mb) W1 wr)
  case atStart => exact ⟨0, by omega, rfl, HS.out, Keep.refl _ _⟩
  case round =>
    obtain ⟨i, hg, rfl, hst, hkr⟩ := hrel
    have HST := Lib.hid hst
    have HKR := Lib.hid hkr
    have HKW := Lib.hid (HK.out.trans' hkr (fun j hj => .inr (by have h1 := HZ.out; rcases hj with h | h <;> omega)))
    clear hst hkr
    by_cases hin : i < p
    · have hinz : (i : Int) < (p : Int) := by omega
      have hi0 : (0 : Int) ≤ (i : Int) := by omega
      have hnb : p ≤ 1000 := by omega
      obtain ⟨r, hr⟩ : ∃ r, L[i]? = some r := ⟨_, List.getElem?_eq_getElem (by have := HN.out; omega)⟩
      obtain ⟨c1, vi, c2', hch⟩ := HCE.out i r hr
      obtain ⟨hp9, hfit⟩ := HFI.out i r hr
      have HTK : Hid (rowsOf (L.take (i + 1)) = r.chs.foldl stepR (rowsOf (L.take i))) := Lib.hid (rowsOf_take hr)
      have HLEN : Hid ((rowsOf (L.take i)).length ≤ 1000000) := Lib.hid (by
        have h1 := rowsOf_len (L := L.take i) (fun r hr => (HLOG.out.len8 r (List.mem_of_mem_take hr)).2)
        have h2 := HN.out
        rw [List.length_take] at h1
        omega)
      have HCW := Lib.hid ((hch.kept HKW.out))
      have d0 := HKW.out.cell c1 (fun h => h)
      have d1 := HKW.out.cell c2' (fun h => h)
      have HBV : Hid (∀ b, vi.ownBlock = some b → ¬ (b = z ∨ b = mb)) := Lib.hid (fun b hb h => by
        have h1 := hch.own_lt (by have := HLOG.out.len8 r (List.mem_of_getElem? hr); omega) b hb
        have h2 := HZ.out
        omega)
      obtain ⟨-, -, a3, c3, b3, off3, rfl, hc3, ha3, -⟩ := hch
      obtain rfl := HA2.out (by omega)
      obtain rfl := HA.out (by rw [HN.out]; omega)
      rw [hp9] at d0
      have HFT := Lib.hid hfit
      clear c1 c2' hp9 hfit hr hc3 ha3
      generalize r.chs = cs at *
      generalize cs.length = m3 at *
      have HAP := Lib.hid (fun (W : World) (hs : StA W z mb (rowsOf (L.take i)) i) (hc : Chs W (.slice a3 m3 c3) cs) => apply_any z mb (rowsOf (L.take i)) i ((i : Int) + 1) (.slice a3 m3 c3) cs W hs hc (by omega) (by unfold I64; omega) HLEN.out HBV.out)
      go_upto_region 7 with (fail)
      clear d0 d1
      have kb := keep_cells wr #[.int .i64 ((i : Int) + 1), .slice a3 m3 c3] 73
      have HX := Lib.hid (BoxL.new wr [.int .i64 ((i : Int) + 1), .slice a3 m3 c3] 73)
      have HST5 := Lib.hid (HST.out.kept kb)
      have HCW5 := Lib.hid (HCW.out.kept kb)
      have HKR5 := Lib.hid (HKR.out.trans (kb.mono (fun _ h => h.elim)))
      generalize wr.alloc (.cells #[.int .i64 ((i : Int) + 1), .slice a3 m3 c3] 73) = W5 at *
      generalize wr.heap.size = zx at *
      have d0 := HX.out.cell 0 _ rfl
      have d1 := HX.out.cell 1 _ rfl
      go_wp2_with fail
      clear d0 d1
      with_reducible refine (HAP.out W5 HST5.out HCW5.out).mono ?_
      rintro e W6 ⟨rfl, hs6, k6⟩
      rw [HFT.out] at hs6 ⊢
      have HS6 := Lib.hid hs6
      have HK6 := Lib.hid (HKR5.out.trans k6)
      clear hs6 k6
      go_wp2_with fail
      go_roundg (gk - 1)
      case rel => exact ⟨i + 1, by omega, by go_num, by rw [HTK.out]; exact HS6.out, HK6.out⟩
      case measure => omega
    · have hinz : ¬ (i : Int) < (p : Int) := by omega
      have hip : i = p := by omega
      subst hip
      go_wp2_with fail
      go_ret2
      exact ⟨z, mb, rfl, by rw [HTL.out]; exact HST.out, HKW.out⟩
end Go.Proofs.YtcnpncndecjahaaGreatDoor

/-
  MemoryResults: plain laws; the law's pool with what lies beside it.
-/
namespace Go.Proofs.YtcnpncndecjahaaGreatDoor
open Go.RowKit Go.Shelf

/-! ### how many rows a result has -/
def lenQ (q : Qy) (l : List R5) : Nat :=
  if q.ok then (if q.kd = 3 then 0 else if q.kd = 4 then 0 else if q.kd = 5 then 0 else if q.kd = 6 then 0
    else if q.kd = 7 then (joinR q (l.filter (inR q.tb q.cl q.lo q.hi)) (l.filter (ofT q.ot))).length else (l.filter (inR q.tb q.cl q.lo q.hi)).length) else 0
theorem partR_isSome (ot k : Int) (A : List R5) : (partR ot A k).isSome = A.any (fun x => decide (x.tb = ot) && decide (x.ky = k)) := by
  unfold partR
  rw [Bool.eq_iff_iff, List.find?_isSome, List.any_eq_true]
theorem pair_len (q : Qy) (A : List R5) (r : R5) : (pairR q A r).length = if A.any (fun x => decide (x.tb = q.ot) && decide (x.ky = r.val q.bb)) then 2 else 0 := by
  rw [← partR_isSome]
  unfold pairR
  cases partR q.ot A (r.val q.bb) <;> rfl
theorem join_len_perm {q : Qy} {R R' A A' : List R5} (h1 : R.Perm R') (h2 : A.Perm A') : (joinR q R A).length = (joinR q R' A').length := by
  unfold joinR
  rw [List.length_flatMap, List.length_flatMap]
  have e : R.map (fun r => (pairR q A r).length) = R.map (fun r => (pairR q A' r).length) := by
    apply List.map_congr_left
    intro r _
    rw [pair_len, pair_len]
    have : A.any (fun x => decide (x.tb = q.ot) && decide (x.ky = r.val q.bb)) = A'.any (fun x => decide (x.tb = q.ot) && decide (x.ky = r.val q.bb)) := by
      rw [Bool.eq_iff_iff, List.any_eq_true, List.any_eq_true]
      constructor
      · rintro ⟨x, hx, hp⟩
        exact ⟨x, h2.mem_iff.1 hx, hp⟩
      · rintro ⟨x, hx, hp⟩
        exact ⟨x, h2.mem_iff.2 hx, hp⟩
    rw [this]
  rw [e]
  exact (h1.map _).sum_nat
theorem len_from {q : Qy} {l R A : List R5} (h1 : R.Perm (l.filter (inR q.tb q.cl q.lo q.hi))) (h2 : A.Perm (l.filter (ofT q.ot))) : (fromR q R A).rows.length = lenQ q l := by
  unfold fromR lenQ rzP
  by_cases hok : q.ok
  · rw [if_pos hok, if_pos hok]
    split
    · rfl
    · split
      · rfl
      · split
        · rfl
        · split
          · rfl
          · split
            · exact join_len_perm h1 h2
            · exact h1.length_eq
  · rw [if_neg hok, if_neg hok]
    rfl
theorem lenQ_le (q : Qy) (l : List R5) : lenQ q l ≤ 2 * l.length := by
  have h := List.length_filter_le (inR q.tb q.cl q.lo q.hi) l
  unfold lenQ
  repeat' split
  all_goals first | omega | exact Nat.le_trans (joinR_len _ _ _) (by omega)
/-- A key is the line of a query whose result has this size. -/
def KeyIs (l : List R5) (k : ByteArray) (s : Int) : Prop := ∃ q : Qy, q.ok ∧ k = bs (lineL q) ∧ s = 1 + (lenQ q l : Int)
theorem KeyIs.same {l : List R5} {k : ByteArray} {s s' : Int} (h : KeyIs l k s) (h' : KeyIs l k s') : s = s' := by
  obtain ⟨q, hq, e1, rfl⟩ := h
  obtain ⟨q', hq', e2, rfl⟩ := h'
  have e : lineL q = lineL q' := by
    have : (bs (lineL q)).data.toList = (bs (lineL q')).data.toList := by rw [← e1, ← e2]
    rwa [bs_list, bs_list] at this
  rw [line_inj hq hq' e]
set_option maxRecDepth 100000 in
set_option maxHeartbeats 400000 in
theorem size_any (a : Option Addr) (n c : Nat) (x : Int) (f : Bool) (w : World) (hn : n ≤ 1000000) : Calls Tryz.prog 13 #[.agg #[.slice a n c, .int .i64 x, .bool f]] w fun e w' => e = .returned (.int .i64 (1 + n)) ∧ Keep (fun _ => False) w w' := by
  go_enter Tryz.func13, Tryz.ntmps13
  go_wp2_with fail
  go_ret
  refine ⟨?_, (Keep.refl _ _).alloc _⟩
  rfl

namespace Mem

theorem takeFit_mem {f : E → Bool} : ∀ {L : List E} {x : E} {M : List E}, takeFit f L = some (x, M) → ∀ y ∈ M, y ∈ L
  | [], x, M, h => by simp [takeFit] at h
  | a :: r, x, M, h => by
    rw [takeFit] at h
    split at h
    · cases h
      intro y hy
      exact List.mem_cons_of_mem _ hy
    · split at h
      · cases h
      · rename_i y' r' e
        cases h
        intro y hy
        rcases List.mem_cons.1 hy with rfl | hy
        · exact List.mem_cons_self
        · exact List.mem_cons_of_mem _ (takeFit_mem e y hy)
theorem evM_mem {S : List Int} {cap : Int} {t : Nat} {z : Int} : ∀ (n : Nat) (L : List E), ∀ y ∈ (evM S cap t z n L).2.2, y ∈ L
  | 0, L => fun y hy => hy
  | n + 1, L => by
    rw [evM]
    split
    · split
      · exact fun y hy => hy
      · rename_i x M e
        exact fun y hy => takeFit_mem e y (evM_mem n M y hy)
    · exact fun y hy => hy
theorem putI_mem {cap : Int} {S : List Int} {L : List E} {t : Int} {key : ByteArray} {z : Int} : ∀ y ∈ (putI cap S L t key z).2.2, y ∈ L ∨ (y.key = key ∧ y.z = z) := by
  intro y hy
  unfold putI at hy
  split at hy
  · unfold putM at hy
    split at hy
    · rcases List.mem_append.1 hy with hy | hy
      · have h1 := evM_mem _ _ y hy
        exact .inl (List.mem_filter.1 h1).1
      · rw [List.mem_singleton] at hy
        subst hy
        exact .inr ⟨rfl, rfl⟩
    · exact .inl hy
  · exact .inl hy
/-- What the entries of a tenant add up to, one by one. -/
def partU (L : List E) (k : Int) (j : Nat) : Int := (((L.filter (fun e => (e.t : Int) == k)).take j).map E.z).sum
theorem partU_zero (L : List E) (k : Int) : partU L k 0 = 0 := rfl
theorem filter_used (L : List E) (k : Nat) : ((L.filter (fun e => (e.t : Int) == (k : Int))).map E.z).sum = usedOf L k := by
  induction L with
  | nil => rfl
  | cons x L ih =>
    rw [usedOf_cons, ← ih, List.filter_cons]
    by_cases h : x.t = k
    · have hb : ((x.t : Int) == (k : Int)) = true := by rw [beq_iff_eq]; omega
      rw [if_pos hb, if_pos h]
      simp
    · have hb : ((x.t : Int) == (k : Int)) = false := by rw [beq_eq_false_iff_ne]; omega
      rw [if_neg (by rw [hb]; simp), if_neg h]
      omega
theorem partU_all {L : List E} {k : Nat} {j : Nat} (h : (keysOf L k).length ≤ j) : partU L k j = usedOf L k := by
  unfold partU
  rw [List.take_of_length_le (by unfold keysOf at h; simpa using h), filter_used]
theorem partU_succ {L : List E} {k : Int} {j : Nat} {x : E} (h : (L.filter (fun e => (e.t : Int) == k))[j]? = some x) : partU L k (j + 1) = partU L k j + x.z := by
  unfold partU
  rw [List.take_add_one, h, List.map_append, List.sum_append]
  simp
theorem used_le {L : List E} (h : ∀ x ∈ L, 1 ≤ x.z) (t : Nat) : usedOf L t ≤ tot L := by
  induction L with
  | nil => exact Int.le_refl _
  | cons x L ih =>
    rw [usedOf_cons, tot_cons]
    have h1 := ih (fun y hy => h y (List.mem_cons_of_mem _ hy))
    have h2 := h x List.mem_cons_self
    split <;> omega
theorem sum_take_le : ∀ (l : List E) (j : Nat), (∀ x ∈ l, 1 ≤ x.z) → 0 ≤ ((l.take j).map E.z).sum ∧ ((l.take j).map E.z).sum ≤ (l.map E.z).sum
  | [], j, _ => by simp
  | x :: l, 0, h => by
    have h1 := (sum_take_le l l.length (fun y hy => h y (List.mem_cons_of_mem _ hy)))
    rw [List.take_length] at h1
    have h2 := h x List.mem_cons_self
    simp only [List.take_zero, List.map_nil, List.sum_nil, List.map_cons, List.sum_cons]
    omega
  | x :: l, j + 1, h => by
    have h1 := sum_take_le l j (fun y hy => h y (List.mem_cons_of_mem _ hy))
    have h2 := h x List.mem_cons_self
    simp only [List.take_succ_cons, List.map_cons, List.sum_cons]
    omega
theorem partU_bd {L : List E} (h : ∀ x ∈ L, 1 ≤ x.z) (k : Nat) (j : Nat) : 0 ≤ partU L k j ∧ partU L k j ≤ tot L := by
  have h1 := sum_take_le (L.filter (fun e => (e.t : Int) == (k : Int))) j (fun x hx => h x (List.mem_filter.1 hx).1)
  rw [filter_used] at h1
  have h2 := used_le h k
  unfold partU
  omega
theorem used_two {L : List E} (h : ∀ x ∈ L, x.t < 2) : usedOf L 0 + usedOf L 1 = tot L := by
  induction L with
  | nil => rfl
  | cons x L ih =>
    rw [usedOf_cons, usedOf_cons, tot_cons]
    have h1 := ih (fun y hy => h y (List.mem_cons_of_mem _ hy))
    have h2 := h x List.mem_cons_self
    rcases (show x.t = 0 ∨ x.t = 1 by omega) with e | e
    · rw [if_pos e, if_neg (by omega)]; omega
    · rw [if_neg (by omega), if_pos e]; omega

theorem SS.write {w W W' : World} {P : Pl} {A : Nat → Prop} (h : SS w P W) (k : Keep A W W') (hf : ∀ j, A j → ¬ P.foot j) (hw : ∀ j, A j → w.heap.size ≤ j) : SS w P W' :=
  ⟨h.at_.keep k (fun i hi ha => hf i ha hi), h.k.trans' k (fun j hj => .inr (hw j hj)), h.new⟩
theorem LW.write {w : World} {p : Nat} {cap : Int} {sh : List Int} {L : List E} {S T : Side} {W W' : World} {A : Nat → Prop} (h : LW w p cap sh L S W) (k : Keep A W W') (hA : ∀ j, A j → S.D j ∧ w.heap.size ≤ j) (hq : T.Q W') (hd : ∀ b, T.D b → S.D b ∨ (W.heap.size ≤ b ∧ b < W'.heap.size)) : LW w p cap sh L T W' := by
  obtain ⟨P, hs, e1, e2, e3, e4, _, hd0⟩ := h
  refine ⟨P, hs.write k (fun j hj => (hd0 j (hA j hj).1).1) (fun j hj => (hA j hj).2), e1, e2, e3, e4, hq, fun b hb => ?_⟩
  rcases hd b hb with hb | hb
  · exact ⟨(hd0 b hb).1, Nat.lt_of_lt_of_le (hd0 b hb).2 k.size⟩
  · exact ⟨fun hf => by have := hs.at_.lt hf; omega, hb.2⟩
end Mem
end Go.Proofs.YtcnpncndecjahaaGreatDoor
