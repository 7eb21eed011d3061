/-
  Put: the walk, where there is no entry with its key.
-/
import Derived.Test.YtigkhglgoabjaaaF5
namespace Go.Proofs.Ytigkhglgoabjaaa
open Go.RowKit Go.Shelf
attribute [local go_sem] Oper.semAt_some

set_option maxRecDepth 100000 in
set_option maxHeartbeats 4000000 in
theorem put_pool_new (g : Gh) (t : Nat) (key : ByteArray) (z : Int) (w : World) (h : PoolIs w g) (ht : t < g.sh.length) (hks : key.size ≤ maxLen) (hz : 1 ≤ z) (hz2 : z ≤ 9223372036854775807)
    (hn : key ∉ (Gh.es g).map E.key) (hl : (Instr.lookup 63 (.map (some g.bm)) (.string key) true).run Try.prog (w.alloc (.cells #[ptr g.bp] 32)) = .ok (.tuple #[.pointer none, .bool false]) (w.alloc (.cells #[ptr g.bp] 32))) :
    Calls Try.prog 17 #[ptr g.bp, .int .i64 t, .string key, .int .i64 z] w (PutPost g t key z w) := by
  have hd : decide ((t : Int) < 0) = false := by simp
  have hd2 : decide ((g.sh.length : Int) ≤ (t : Int)) = false := by simpa using ht
  have hd2' : decide (g.sh.length ≤ t) = false := by simpa using ht
  have hd3 : decide (z < 1) = false := by simpa using hz
  have h6 := h.c6
  have h8 := h.c8
  have hlt := blk_lt h6
  have m0 := mid0 w g h
  obtain ⟨T0, hT0⟩ : ∃ T0 : List Ent, T0 = [] := ⟨_, rfl⟩
  obtain ⟨L0, hL0⟩ : ∃ L0 : List Ent, L0 = wo g.L key := ⟨_, rfl⟩
  have hpi : PI w g t z T0 L0 L0.length (.slice none 0 0) (.slice none 0 0) (w.alloc (.cells #[ptr g.bp] 32)) := by
    rw [hL0, wo_none hn, hT0]
    exact ⟨[], g.L, rfl, rfl, m0⟩
  have H := Lib.hid h; clear h hT0
  have HL0 := Lib.hid hL0; clear hL0
  have HPI := Lib.hid hpi; clear hpi m0
  have HN := Lib.hid hn; clear hn
  refine (callsIn_wide (n := 0)).1 ?_
  refine callsIn_of_wp_marks Try.func17 rfl trivial ?_ rfl
  simp only [Try.ntmps17, List.size_toArray, List.length_cons, List.length_nil, Nat.reduceAdd, Nat.reduceSub, Array.replicate_succ, Array.replicate_zero, List.push_toArray, List.append_toArray, List.nil_append, List.cons_append]
  refine wpIn_wide.2 ?_
  go_wp2_with fail
  go_step3
  go_wp2_with fail
  go_step3
  go_wp2_with fail
  generalize w.alloc (.cells #[ptr g.bp] 32) = w1 at hl HPI ⊢
  clear hl
  go_loopg [10, 13] (L0.length) (fun k vt vo W => PI w g t z T0 L0 k vt vo W)
  case atStart => exact HPI.out
  case round =>
    obtain ⟨T, L, hk, hev, m⟩ := hrel
    have c0 := m.bx.cell
    have c9 : wr.cell? ⟨g.bp, 9, none⟩ = some (.int .i64 (g.cap - tot (esOf L))) := m.p.c9
    have HK := Lib.hid hk; clear hk
    have HE := Lib.hid hev; clear hev
    have HM := Lib.hid m; clear m
    by_cases hfr : g.cap - tot (esOf L) < z
    · go_wp2_with fail
      refine (victim_pool { g with L := L } t z wr HM.out.p ht hz hz2).mono ?_
      rintro e W1 ⟨(⟨X1, y, Y1, hL1, hX1, hy1, rfl⟩ | ⟨hnone, rfl⟩), hk1⟩
      · have m1 := HM.out.keep hk1
        have c01 := m1.bx.cell
        have HM1 := Lib.hid m1; clear m1 hk1
        have HL1 := Lib.hid hL1; clear hL1
        have HX1 := Lib.hid (And.intro hX1 hy1); clear hX1 hy1
        go_wp2_with fail
        refine (take_pool _ { g with L := L } X1 Y1 y HM1.out.p HL1.out).mono ?_
        rintro e W2 ⟨rfl, hp2, hk2⟩
        have m2 := HM1.out.take H.out HL1.out hp2 hk2
        have hln := HM1.out.lens H.out
        rw [List.length_reverse] at hln
        have hln2 : (T.map (fun x => x.e.key)).length ≤ 1000000 := by rw [List.length_append] at hln; rw [List.length_map]; omega
        have ck : W2.cell? ⟨y.b, 0, none⟩ = some (.string y.e.key) := by
          obtain ⟨X2, Y2, _, hk, _⟩ := m2.h
          exact hk.e.c0
        have hyb : y.b < w.heap.size := m2.hookb (by simp)
        have hvb : ∀ i, u10.ownBlock = some i → w.heap.size + 1 ≤ i ∧ i < W2.heap.size := fun i hi => m2.o1.lt i hi
        obtain ⟨c1, hc1⟩ : ∃ c1 : Obj, c1 = .cells #[ptr y.b] 55 := ⟨_, rfl⟩
        obtain ⟨c2, hc2⟩ : ∃ c2 : Obj, c2 = .cells #[.string y.e.key] 9 := ⟨_, rfl⟩
        have nC1 : (W2.alloc c1).cell? ⟨W2.heap.size, 0, none⟩ = some (ptr y.b) := by rw [hc1]; exact cell_new0 _ _ _
        have nC2 : (W2.alloc c2).cell? ⟨W2.heap.size, 0, none⟩ = some (.string y.e.key) := by rw [hc2]; exact cell_new0 _ _ _
        have nC12 : ((W2.alloc c1).alloc c2).cell? ⟨W2.heap.size + 1, 0, none⟩ = some (.string y.e.key) := by rw [hc2]; have := cell_new0 (W2.alloc c1) (.string y.e.key) 9; rwa [World.size_alloc] at this
        have nC21 : ((W2.alloc c2).alloc c1).cell? ⟨W2.heap.size + 1, 0, none⟩ = some (ptr y.b) := by rw [hc1]; have := cell_new0 (W2.alloc c2) (ptr y.b) 55; rwa [World.size_alloc] at this
        have oC12 : ((W2.alloc c1).alloc c2).cell? ⟨W2.heap.size, 0, none⟩ = some (ptr y.b) := ((Keep.refl (fun _ => False) _).alloc c2).cell nC1 (fun h => h)
        have oC21 : ((W2.alloc c2).alloc c1).cell? ⟨W2.heap.size, 0, none⟩ = some (.string y.e.key) := ((Keep.refl (fun _ => False) _).alloc c1).cell nC2 (fun h => h)
        obtain ⟨vA, wA, haA, mA, kA, gA, cA, hvA⟩ := (m2.alloc c1).drew.app1 y W2.heap.size nC1 hln 66
        obtain ⟨vA2, wA2, haA2, mA2, gA2, cA2, hvA2⟩ := (mA.alloc c2).app2 y.e.key wA.heap.size (by rw [hc2]; exact cell_new0 _ _ _) hln2 38
        obtain ⟨vB, wB, haB, mB, kB, gB, cB, hvB⟩ := ((m2.alloc c1).alloc c2).drew.app1 y W2.heap.size oC12 hln 66
        obtain ⟨vB2, wB2, haB2, mB2, gB2, cB2, hvB2⟩ := mB.app2 y.e.key (W2.heap.size + 1) (kB.cell nC12 (fun e => by have := hvb _ e; omega)) hln2 38
        obtain ⟨vC, wC, haC, mC, kC, gC, cC, hvC⟩ := ((m2.alloc c2).alloc c1).drew.app1 y (W2.heap.size + 1) nC21 hln 66
        obtain ⟨vC2, wC2, haC2, mC2, gC2, cC2, hvC2⟩ := mC.app2 y.e.key W2.heap.size (kC.cell oC21 (fun e => by have := hvb _ e; omega)) hln2 38
        have cka : (W2.alloc c1).cell? ⟨y.b, 0, none⟩ = some (.string y.e.key) := ((Keep.refl (fun _ => False) _).alloc c1).cell ck (fun h => h)
        have ckA : wA.cell? ⟨y.b, 0, none⟩ = some (.string y.e.key) := kA.cell cka (fun e => by have := hvb _ e; omega)
        have fA : PI w g t z T0 L0 (X1 ++ Y1).length vA vA2 wA2 := PI_step HE.out hfr HL1.out HX1.out mA2
        have fB : PI w g t z T0 L0 (X1 ++ Y1).length vB vB2 wB2 := PI_step HE.out hfr HL1.out HX1.out mB2
        have fC : PI w g t z T0 L0 (X1 ++ Y1).length vC vC2 wC2 := PI_step HE.out hfr HL1.out HX1.out mC2
        have hme : (X1 ++ Y1).length < gk := by rw [HK.out, HL1.out]; simp
        have HFA := Lib.hid fA; clear fA
        have HFB := Lib.hid fB; clear fB
        have HFC := Lib.hid fC; clear fC
        have HME := Lib.hid hme; clear hme
        clear mA mA2 mB mB2 mC mC2 kA kB kC m2 hp2 hk2 hvb nC1 nC2 nC12 nC21 oC12 oC21 hvA hvA2 hvB hvB2 hvC hvC2 hln hln2
        subst hc1
        subst hc2
        go_wp2_with fail
        have HAA := Lib.hid haA; have HAA2 := Lib.hid haA2; have HAB := Lib.hid haB; have HAB2 := Lib.hid haB2; have HAC := Lib.hid haC; have HAC2 := Lib.hid haC2
        clear haA haA2 haB haB2 haC haC2
        refine wp_onlyN ?_
        refine wp_region_any (by kernel_rfl) ?_
        change wpAny _ _ _ _ _ _ _ (World.drew _)
        refine wpAny_take (i := 0) (v := ?_) rfl (by kernel_rfl) (by kernel_rfl) (by kernel_rfl) (fun _ _ _ h => h) (Or.inl ⟨by rfl, ?_⟩) ?_
        rotate_left
        · intro w; go_simp; try (with_reducible rfl)
        refine wpAny_take (i := 1) (v := ?_) rfl (by kernel_rfl) (by kernel_rfl) (by kernel_rfl) (fun _ _ _ h => h) (Or.inl ⟨by rfl, ?_⟩) ?_
        rotate_left
        · intro w; go_simp; try (with_reducible rfl)
        refine wpAny_take (i := 4) (v := ?_) rfl (by kernel_rfl) (by kernel_rfl) (by kernel_rfl) (fun _ _ _ h => h) (Or.inl ⟨by rfl, ?_⟩) ?_
        rotate_left
        · intro w; go_simp; try (with_reducible rfl)
        refine wpAny_take (i := 5) (v := ?_) rfl (by kernel_rfl) (by kernel_rfl) (by kernel_rfl) (fun _ _ _ h => h) (Or.inl ⟨by rfl, ?_⟩) ?_
        rotate_left
        · intro w; go_simp; try (with_reducible rfl)
        refine wpAny_ready (rs := [2, 6]) (by kernel_rfl) (by simp) ?_
        refine AllReady.cons rfl (fun K hK => ?_) ?_
        · go_simp
          refine hK _ _ ?_; clear hK K
          refine wpAny_ready (rs := [3, 6]) (by kernel_rfl) (by simp) ?_
          refine AllReady.cons rfl (fun K hK => ?_) ?_
          · refine step_appP rfl (.tmp 69) (.tmp 71) 66 rfl (by simp [Act.eval]) (by simp [Act.eval]) HAA.out (hK _ _ ?_); clear hK K
            refine wpAny_ready (rs := [6]) (by kernel_rfl) (by simp) ?_
            refine AllReady.cons rfl (fun K hK => ?_) AllReady.nil
            go_simp
            refine hK _ _ ?_; clear hK K
            refine wpAny_take (i := 7) (v := ?_) rfl (by kernel_rfl) (by kernel_rfl) (by kernel_rfl) (fun _ _ _ h => h) (Or.inl ⟨by rfl, ?_⟩) ?_
            rotate_left
            · intro w; go_simp; try (with_reducible rfl)
            refine wpAny_ready (rs := [8]) (by kernel_rfl) (by simp) ?_
            refine AllReady.cons rfl (fun K hK => ?_) AllReady.nil
            go_simp
            refine hK _ _ ?_; clear hK K
            refine wpAny_ready (rs := [9]) (by kernel_rfl) (by simp) ?_
            refine AllReady.cons rfl (fun K hK => ?_) AllReady.nil
            go_simp
            refine hK _ _ ?_; clear hK K
            refine wpAny_ready (rs := [10]) (by kernel_rfl) (by simp) ?_
            refine AllReady.cons rfl (fun K hK => ?_) AllReady.nil
            refine step_appP rfl (.tmp 73) (.tmp 78) 38 rfl (by simp [Act.eval]) (by simp [Act.eval]) HAA2.out (hK _ _ ?_); clear hK K
            refine wpAny_ready (rs := [11]) (by kernel_rfl) (by simp) ?_
            refine AllReady.cons rfl (fun K hK => ?_) AllReady.nil
            go_simp
            refine hK _ _ ?_; clear hK K
            refine wpAny_ready (rs := [12]) (by kernel_rfl) (by simp) ?_
            refine AllReady.cons rfl (fun K hK => ?_) AllReady.nil
            go_simp
            refine hK _ _ ?_; clear hK K
            refine wpAny_done (by kernel_rfl) ?_ _
            refine onlyN_mk ?_
            go_wp2_with fail
            go_roundg ((X1 ++ Y1).length)
            case rel => exact HFA.out
            case measure => exact HME.out
          refine AllReady.cons rfl (fun K hK => ?_) AllReady.nil
          go_simp
          refine hK _ _ ?_; clear hK K
          refine wpAny_take (i := 7) (v := ?_) rfl (by kernel_rfl) (by kernel_rfl) (by kernel_rfl) (fun _ _ _ h => h) (Or.inl ⟨by rfl, ?_⟩) ?_
          rotate_left
          · intro w; go_simp; try (with_reducible rfl)
          refine wpAny_ready (rs := [3, 8]) (by kernel_rfl) (by simp) ?_
          refine AllReady.cons rfl (fun K hK => ?_) ?_
          · refine step_appP rfl (.tmp 69) (.tmp 71) 66 rfl (by simp [Act.eval, Act.put]) (by simp [Act.eval, Act.put]) HAA.out (hK _ _ ?_); clear hK K
            refine wpAny_ready (rs := [8]) (by kernel_rfl) (by simp) ?_
            refine AllReady.cons rfl (fun K hK => ?_) AllReady.nil
            go_simp
            refine hK _ _ ?_; clear hK K
            refine wpAny_ready (rs := [9]) (by kernel_rfl) (by simp) ?_
            refine AllReady.cons rfl (fun K hK => ?_) AllReady.nil
            go_simp
            refine hK _ _ ?_; clear hK K
            refine wpAny_ready (rs := [10]) (by kernel_rfl) (by simp) ?_
            refine AllReady.cons rfl (fun K hK => ?_) AllReady.nil
            refine step_appP rfl (.tmp 73) (.tmp 78) 38 rfl (by simp [Act.eval]) (by simp [Act.eval]) HAA2.out (hK _ _ ?_); clear hK K
            refine wpAny_ready (rs := [11]) (by kernel_rfl) (by simp) ?_
            refine AllReady.cons rfl (fun K hK => ?_) AllReady.nil
            go_simp
            refine hK _ _ ?_; clear hK K
            refine wpAny_ready (rs := [12]) (by kernel_rfl) (by simp) ?_
            refine AllReady.cons rfl (fun K hK => ?_) AllReady.nil
            go_simp
            refine hK _ _ ?_; clear hK K
            refine wpAny_done (by kernel_rfl) ?_ _
            refine onlyN_mk ?_
            go_wp2_with fail
            go_roundg ((X1 ++ Y1).length)
            case rel => exact HFA.out
            case measure => exact HME.out
          refine AllReady.cons rfl (fun K hK => ?_) AllReady.nil
          go_simp
          refine hK _ _ ?_; clear hK K
          refine wpAny_ready (rs := [3, 9]) (by kernel_rfl) (by simp) ?_
          refine AllReady.cons rfl (fun K hK => ?_) ?_
          · refine step_appP rfl (.tmp 69) (.tmp 71) 66 rfl (by simp [Act.eval]) (by simp [Act.eval]) HAA.out (hK _ _ ?_); clear hK K
            refine wpAny_ready (rs := [9]) (by kernel_rfl) (by simp) ?_
            refine AllReady.cons rfl (fun K hK => ?_) AllReady.nil
            go_simp
            refine hK _ _ ?_; clear hK K
            refine wpAny_ready (rs := [10]) (by kernel_rfl) (by simp) ?_
            refine AllReady.cons rfl (fun K hK => ?_) AllReady.nil
            refine step_appP rfl (.tmp 73) (.tmp 78) 38 rfl (by simp [Act.eval]) (by simp [Act.eval]) HAA2.out (hK _ _ ?_); clear hK K
            refine wpAny_ready (rs := [11]) (by kernel_rfl) (by simp) ?_
            refine AllReady.cons rfl (fun K hK => ?_) AllReady.nil
            go_simp
            refine hK _ _ ?_; clear hK K
            refine wpAny_ready (rs := [12]) (by kernel_rfl) (by simp) ?_
            refine AllReady.cons rfl (fun K hK => ?_) AllReady.nil
            go_simp
            refine hK _ _ ?_; clear hK K
            refine wpAny_done (by kernel_rfl) ?_ _
            refine onlyN_mk ?_
            go_wp2_with fail
            go_roundg ((X1 ++ Y1).length)
            case rel => exact HFA.out
            case measure => exact HME.out
          refine AllReady.cons rfl (fun K hK => ?_) AllReady.nil
          go_simp
          refine hK _ _ ?_; clear hK K
          refine wpAny_ready (rs := [3]) (by kernel_rfl) (by simp) ?_
          refine AllReady.cons rfl (fun K hK => ?_) AllReady.nil
          refine step_appP rfl (.tmp 69) (.tmp 71) 66 rfl (by simp [Act.eval]) (by simp [Act.eval]) HAB.out (hK _ _ ?_); clear hK K
          refine wpAny_ready (rs := [10]) (by kernel_rfl) (by simp) ?_
          refine AllReady.cons rfl (fun K hK => ?_) AllReady.nil
          refine step_appP rfl (.tmp 73) (.tmp 78) 38 rfl (by simp [Act.eval, Act.put]) (by simp [Act.eval, Act.put]) HAB2.out (hK _ _ ?_); clear hK K
          refine wpAny_ready (rs := [11]) (by kernel_rfl) (by simp) ?_
          refine AllReady.cons rfl (fun K hK => ?_) AllReady.nil
          go_simp
          refine hK _ _ ?_; clear hK K
          refine wpAny_ready (rs := [12]) (by kernel_rfl) (by simp) ?_
          refine AllReady.cons rfl (fun K hK => ?_) AllReady.nil
          go_simp
          refine hK _ _ ?_; clear hK K
          refine wpAny_done (by kernel_rfl) ?_ _
          refine onlyN_mk ?_
          go_wp2_with fail
          go_roundg ((X1 ++ Y1).length)
          case rel => exact HFB.out
          case measure => exact HME.out
        refine AllReady.cons rfl (fun K hK => ?_) AllReady.nil
        go_simp
        refine hK _ _ ?_; clear hK K
        refine wpAny_take (i := 7) (v := ?_) rfl (by kernel_rfl) (by kernel_rfl) (by kernel_rfl) (fun _ _ _ h => h) (Or.inl ⟨by rfl, ?_⟩) ?_
        rotate_left
        · intro w; go_simp; try (with_reducible rfl)
        refine wpAny_ready (rs := [2, 8]) (by kernel_rfl) (by simp) ?_
        refine AllReady.cons rfl (fun K hK => ?_) ?_
        · go_simp
          refine hK _ _ ?_; clear hK K
          refine wpAny_ready (rs := [3, 8]) (by kernel_rfl) (by simp) ?_
          refine AllReady.cons rfl (fun K hK => ?_) ?_
          · refine step_appP rfl (.tmp 69) (.tmp 71) 66 rfl (by simp [Act.eval]) (by simp [Act.eval]) HAA.out (hK _ _ ?_); clear hK K
            refine wpAny_ready (rs := [8]) (by kernel_rfl) (by simp) ?_
            refine AllReady.cons rfl (fun K hK => ?_) AllReady.nil
            go_simp
            refine hK _ _ ?_; clear hK K
            refine wpAny_ready (rs := [9]) (by kernel_rfl) (by simp) ?_
            refine AllReady.cons rfl (fun K hK => ?_) AllReady.nil
            go_simp
            refine hK _ _ ?_; clear hK K
            refine wpAny_ready (rs := [10]) (by kernel_rfl) (by simp) ?_
            refine AllReady.cons rfl (fun K hK => ?_) AllReady.nil
            refine step_appP rfl (.tmp 73) (.tmp 78) 38 rfl (by simp [Act.eval]) (by simp [Act.eval]) HAA2.out (hK _ _ ?_); clear hK K
            refine wpAny_ready (rs := [11]) (by kernel_rfl) (by simp) ?_
            refine AllReady.cons rfl (fun K hK => ?_) AllReady.nil
            go_simp
            refine hK _ _ ?_; clear hK K
            refine wpAny_ready (rs := [12]) (by kernel_rfl) (by simp) ?_
            refine AllReady.cons rfl (fun K hK => ?_) AllReady.nil
            go_simp
            refine hK _ _ ?_; clear hK K
            refine wpAny_done (by kernel_rfl) ?_ _
            refine onlyN_mk ?_
            go_wp2_with fail
            go_roundg ((X1 ++ Y1).length)
            case rel => exact HFA.out
            case measure => exact HME.out
          refine AllReady.cons rfl (fun K hK => ?_) AllReady.nil
          go_simp
          refine hK _ _ ?_; clear hK K
          refine wpAny_ready (rs := [3, 9]) (by kernel_rfl) (by simp) ?_
          refine AllReady.cons rfl (fun K hK => ?_) ?_
          · refine step_appP rfl (.tmp 69) (.tmp 71) 66 rfl (by simp [Act.eval]) (by simp [Act.eval]) HAA.out (hK _ _ ?_); clear hK K
            refine wpAny_ready (rs := [9]) (by kernel_rfl) (by simp) ?_
            refine AllReady.cons rfl (fun K hK => ?_) AllReady.nil
            go_simp
            refine hK _ _ ?_; clear hK K
            refine wpAny_ready (rs := [10]) (by kernel_rfl) (by simp) ?_
            refine AllReady.cons rfl (fun K hK => ?_) AllReady.nil
            refine step_appP rfl (.tmp 73) (.tmp 78) 38 rfl (by simp [Act.eval]) (by simp [Act.eval]) HAA2.out (hK _ _ ?_); clear hK K
            refine wpAny_ready (rs := [11]) (by kernel_rfl) (by simp) ?_
            refine AllReady.cons rfl (fun K hK => ?_) AllReady.nil
            go_simp
            refine hK _ _ ?_; clear hK K
            refine wpAny_ready (rs := [12]) (by kernel_rfl) (by simp) ?_
            refine AllReady.cons rfl (fun K hK => ?_) AllReady.nil
            go_simp
            refine hK _ _ ?_; clear hK K
            refine wpAny_done (by kernel_rfl) ?_ _
            refine onlyN_mk ?_
            go_wp2_with fail
            go_roundg ((X1 ++ Y1).length)
            case rel => exact HFA.out
            case measure => exact HME.out
          refine AllReady.cons rfl (fun K hK => ?_) AllReady.nil
          go_simp
          refine hK _ _ ?_; clear hK K
          refine wpAny_ready (rs := [3]) (by kernel_rfl) (by simp) ?_
          refine AllReady.cons rfl (fun K hK => ?_) AllReady.nil
          refine step_appP rfl (.tmp 69) (.tmp 71) 66 rfl (by simp [Act.eval]) (by simp [Act.eval]) HAB.out (hK _ _ ?_); clear hK K
          refine wpAny_ready (rs := [10]) (by kernel_rfl) (by simp) ?_
          refine AllReady.cons rfl (fun K hK => ?_) AllReady.nil
          refine step_appP rfl (.tmp 73) (.tmp 78) 38 rfl (by simp [Act.eval, Act.put]) (by simp [Act.eval, Act.put]) HAB2.out (hK _ _ ?_); clear hK K
          refine wpAny_ready (rs := [11]) (by kernel_rfl) (by simp) ?_
          refine AllReady.cons rfl (fun K hK => ?_) AllReady.nil
          go_simp
          refine hK _ _ ?_; clear hK K
          refine wpAny_ready (rs := [12]) (by kernel_rfl) (by simp) ?_
          refine AllReady.cons rfl (fun K hK => ?_) AllReady.nil
          go_simp
          refine hK _ _ ?_; clear hK K
          refine wpAny_done (by kernel_rfl) ?_ _
          refine onlyN_mk ?_
          go_wp2_with fail
          go_roundg ((X1 ++ Y1).length)
          case rel => exact HFB.out
          case measure => exact HME.out
        refine AllReady.cons rfl (fun K hK => ?_) AllReady.nil
        go_simp
        refine hK _ _ ?_; clear hK K
        refine wpAny_ready (rs := [2, 9]) (by kernel_rfl) (by simp) ?_
        refine AllReady.cons rfl (fun K hK => ?_) ?_
        · go_simp
          refine hK _ _ ?_; clear hK K
          refine wpAny_ready (rs := [3, 9]) (by kernel_rfl) (by simp) ?_
          refine AllReady.cons rfl (fun K hK => ?_) ?_
          · refine step_appP rfl (.tmp 69) (.tmp 71) 66 rfl (by simp [Act.eval]) (by simp [Act.eval]) HAA.out (hK _ _ ?_); clear hK K
            refine wpAny_ready (rs := [9]) (by kernel_rfl) (by simp) ?_
            refine AllReady.cons rfl (fun K hK => ?_) AllReady.nil
            go_simp
            refine hK _ _ ?_; clear hK K
            refine wpAny_ready (rs := [10]) (by kernel_rfl) (by simp) ?_
            refine AllReady.cons rfl (fun K hK => ?_) AllReady.nil
            refine step_appP rfl (.tmp 73) (.tmp 78) 38 rfl (by simp [Act.eval]) (by simp [Act.eval]) HAA2.out (hK _ _ ?_); clear hK K
            refine wpAny_ready (rs := [11]) (by kernel_rfl) (by simp) ?_
            refine AllReady.cons rfl (fun K hK => ?_) AllReady.nil
            go_simp
            refine hK _ _ ?_; clear hK K
            refine wpAny_ready (rs := [12]) (by kernel_rfl) (by simp) ?_
            refine AllReady.cons rfl (fun K hK => ?_) AllReady.nil
            go_simp
            refine hK _ _ ?_; clear hK K
            refine wpAny_done (by kernel_rfl) ?_ _
            refine onlyN_mk ?_
            go_wp2_with fail
            go_roundg ((X1 ++ Y1).length)
            case rel => exact HFA.out
            case measure => exact HME.out
          refine AllReady.cons rfl (fun K hK => ?_) AllReady.nil
          go_simp
          refine hK _ _ ?_; clear hK K
          refine wpAny_ready (rs := [3]) (by kernel_rfl) (by simp) ?_
          refine AllReady.cons rfl (fun K hK => ?_) AllReady.nil
          refine step_appP rfl (.tmp 69) (.tmp 71) 66 rfl (by simp [Act.eval]) (by simp [Act.eval]) HAB.out (hK _ _ ?_); clear hK K
          refine wpAny_ready (rs := [10]) (by kernel_rfl) (by simp) ?_
          refine AllReady.cons rfl (fun K hK => ?_) AllReady.nil
          refine step_appP rfl (.tmp 73) (.tmp 78) 38 rfl (by simp [Act.eval, Act.put]) (by simp [Act.eval, Act.put]) HAB2.out (hK _ _ ?_); clear hK K
          refine wpAny_ready (rs := [11]) (by kernel_rfl) (by simp) ?_
          refine AllReady.cons rfl (fun K hK => ?_) AllReady.nil
          go_simp
          refine hK _ _ ?_; clear hK K
          refine wpAny_ready (rs := [12]) (by kernel_rfl) (by simp) ?_
          refine AllReady.cons rfl (fun K hK => ?_) AllReady.nil
          go_simp
          refine hK _ _ ?_; clear hK K
          refine wpAny_done (by kernel_rfl) ?_ _
          refine onlyN_mk ?_
          go_wp2_with fail
          go_roundg ((X1 ++ Y1).length)
          case rel => exact HFB.out
          case measure => exact HME.out
        refine AllReady.cons rfl (fun K hK => ?_) AllReady.nil
        go_simp
        refine hK _ _ ?_; clear hK K
        refine wpAny_ready (rs := [2]) (by kernel_rfl) (by simp) ?_
        refine AllReady.cons rfl (fun K hK => ?_) AllReady.nil
        go_simp
        refine hK _ _ ?_; clear hK K
        refine wpAny_ready (rs := [3]) (by kernel_rfl) (by simp) ?_
        refine AllReady.cons rfl (fun K hK => ?_) AllReady.nil
        refine step_appP rfl (.tmp 69) (.tmp 71) 66 rfl (by simp [Act.eval]) (by simp [Act.eval]) HAC.out (hK _ _ ?_); clear hK K
        refine wpAny_ready (rs := [10]) (by kernel_rfl) (by simp) ?_
        refine AllReady.cons rfl (fun K hK => ?_) AllReady.nil
        refine step_appP rfl (.tmp 73) (.tmp 78) 38 rfl (by simp [Act.eval, Act.put]) (by simp [Act.eval, Act.put]) HAC2.out (hK _ _ ?_); clear hK K
        refine wpAny_ready (rs := [11]) (by kernel_rfl) (by simp) ?_
        refine AllReady.cons rfl (fun K hK => ?_) AllReady.nil
        go_simp
        refine hK _ _ ?_; clear hK K
        refine wpAny_ready (rs := [12]) (by kernel_rfl) (by simp) ?_
        refine AllReady.cons rfl (fun K hK => ?_) AllReady.nil
        go_simp
        refine hK _ _ ?_; clear hK K
        refine wpAny_done (by kernel_rfl) ?_ _
        refine onlyN_mk ?_
        go_wp2_with fail
        go_roundg ((X1 ++ Y1).length)
        case rel => exact HFC.out
        case measure => exact HME.out

      · have m1 := HM.out.keep hk1
        have c01 := m1.bx.cell
        have c91 : W1.cell? ⟨g.bp, 9, none⟩ = some (.int .i64 (g.cap - tot (esOf L))) := m1.p.c9
        have HM1 := Lib.hid m1; clear m1 hk1
        have HNO := Lib.hid hnone; clear hnone
        have hvs : u10 = .slice none 0 0 ∨ ∃ b n c, u10 = .slice (some ⟨b, 0, none⟩) n c := by
          rcases HM1.out.o1.2 with ⟨rfl, _⟩ | ⟨g', cap, cur, rfl, _⟩
          · exact .inl rfl
          · exact .inr ⟨_, _, _, rfl⟩
        rcases hvs with rfl | ⟨bt, n, cc, rfl⟩
        · have hTT : T0 ++ T = [] := by
            rcases HM1.out.o1.2 with ⟨_, hx⟩ | ⟨g', cap, cur, hx, _⟩
            · simpa using hx
            · cases hx
          go_wp2_with fail
          refine (backward_any _ W1 _ _ _ rfl).mono ?_
          rintro e w' ⟨rfl, rfl⟩
          have hm2 := HM1.out.alloc (.cells #[.slice none 0 0] 66)
          have hbx := Box.new W1 66 (.slice none 0 0)
          have hW1 := HM1.out.sz
          have hsz : (W1.alloc (.cells #[.slice none 0 0] 66)).heap.size = W1.heap.size + 1 := by simp
          generalize W1.alloc (.cells #[.slice none 0 0] 66) = W3 at hm2 hbx hsz ⊢
          have HSZ := Lib.hid hsz; clear hsz
          have HTT := Lib.hid hTT; clear hTT
          have HM2 := Lib.hid hm2; clear hm2
          have HBX := Lib.hid hbx; clear hbx
          go_wp2_with fail
          refine (wpIn_wide (n := 0)).1 ?_
          refine range_list (gf := 39) (lb := #[.pointer (some ⟨W1.heap.size, 0, none⟩)]) rfl (enters_of Try.func39 (by kernel_rfl) rfl) (back1_nil W1.heap.size 0 none) (fun _ h => absurd h (Nat.not_lt_zero _))
            (UI w g (T0 ++ T).reverse (T0 ++ T) (T.map (fun x => x.e.key)) (.slice none 0 0) u13 W1.heap.size) (fun _ _ _ => False)
            (UI_own _ _ _ _ _ _ _ _ _ (by rw [HSZ.out]; omega) (by rw [HSZ.out]; omega)) (fun _ _ _ _ _ h _ _ => h)
            (fun i V h => by obtain ⟨L, m, hb⟩ := h; exact hb.cell) ⟨L, by rw [List.drop_zero]; exact HM2.out, HBX.out⟩ (fun _ => ⟨#[], []⟩)
            (fun _ _ _ _ h _ => absurd h (Nat.not_lt_zero _)) (fun _ _ _ h _ _ => absurd h (Nat.not_lt_zero _)) ?done (fun _ _ _ _ _ h _ _ => absurd h (Nat.not_lt_zero _))
          case done =>
            rintro D V hD ⟨L', m, hb⟩ hK
            rw [List.drop_zero, HTT.out] at m
            have hL' : L' = g.L := m.h
            subst hL'
            have hfin : PutNo g t key z w (.returned (.tuple #[.slice none 0 0, .bool false])) (V.putObj D (.deferred none)) := by
              have kk : Keep (fun k => k = D) V (V.putObj D (.deferred none)) := (Keep.refl (fun k => k = D) V).putObj _ (.inl rfl)
              refine ⟨T, L, by rw [← HL0.out]; exact HE.out, hfr, HNO.out, rfl, ?_, ?_⟩
              · exact m.p.keep kk (fun i hi e => by have := m.foot hi; rw [HSZ.out] at hD; omega)
              · exact m.k.trans' kk (fun i e => .inr (by rw [HSZ.out] at hD; omega))
            have HFIN := Lib.hid hfin; clear hfin m hb
            have HKK := Lib.hid hK; clear hK
            have HDD := Lib.hid hD; clear hD
            go_wp2_with fail
            rw [Exit.noGoto_ret]
            refine ⟨by simp, .inl ⟨_, _, rfl, run_takeDeferred HKK.out, ?_⟩⟩
            exact ⟨.tuple #[.slice none 0 0, .bool false], by simp [results, Try.f17, go_sem], .inr HFIN.out⟩
        · go_wp2_with fail
          refine (backward_any _ W1 _ _ _ rfl).mono ?_
          rintro e w' ⟨rfl, rfl⟩
          have hm2 := HM1.out.alloc (.cells #[.slice (some ⟨bt, 0, none⟩) n cc] 66)
          have hbx := Box.new W1 66 (.slice (some ⟨bt, 0, none⟩) n cc)
          have hln := HM1.out.lens H.out
          rw [List.length_reverse] at hln
          obtain ⟨hnn, hrd⟩ := owns_reads hm2.o1 hbx
          have hW1 := HM1.out.sz
          have hsz : (W1.alloc (.cells #[.slice (some ⟨bt, 0, none⟩) n cc] 66)).heap.size = W1.heap.size + 1 := by simp
          generalize W1.alloc (.cells #[.slice (some ⟨bt, 0, none⟩) n cc] 66) = W3 at hm2 hbx hrd hsz ⊢
          have HSZ := Lib.hid hsz; clear hsz
          have HRD := Lib.hid hrd; clear hrd
          have HNN := Lib.hid hnn; clear hnn
          have HM2 := Lib.hid hm2; clear hm2
          have HBX := Lib.hid hbx; clear hbx
          obtain ⟨xs, hxs⟩ : ∃ xs, xs = (T0 ++ T).map Ent.b := ⟨_, rfl⟩
          have hxl : xs.length = (T0 ++ T).length := by rw [hxs, List.length_map]
          have HXS := Lib.hid hxs; clear hxs
          have HXL := Lib.hid hxl; clear hxl
          go_wp2_with fail
          refine (wpIn_wide (n := 0)).1 ?_
          refine range_list (gf := 39) (lb := #[.pointer (some ⟨W1.heap.size, 0, none⟩)]) rfl (enters_of Try.func39 (by kernel_rfl) rfl) (back1_iter' W1.heap.size bt cc xs (by rw [HXL.out]; omega)) (fun _ _ => rfl)
            (UI w g (T0 ++ T).reverse (T0 ++ T) (T.map (fun x => x.e.key)) (.slice (some ⟨bt, 0, none⟩) n cc) u13 W1.heap.size) (fun _ _ _ => False)
            (UI_own _ _ _ _ _ _ _ _ _ (by rw [HSZ.out]; omega) (by rw [HSZ.out]; omega)) (fun _ _ _ _ _ h _ _ => h)
            (fun i V h => by obtain ⟨L, m, hb⟩ := h; rw [HXS.out]; exact (owns_reads m.o1 hb).2) ⟨L, by rw [List.drop_zero]; exact HM2.out, HBX.out⟩ ?a1 ?assign ?body ?done ?stop
          case assign =>
            intro l i V K hi hK
            gi_wp2
            exact hK
          case body =>
            rintro l i V hi ⟨L', m, hb⟩ hs
            have hil : i < (T0 ++ T).length := by rw [← HXL.out]; exact hi
            obtain ⟨x', hdr, hgd⟩ := rev_getD (T0 ++ T) i hil
            rw [hdr] at m
            obtain ⟨Xb, Yb, rfl, hkb, hhb⟩ := m.h
            obtain ⟨q1, q2, q3, q4, q5, q6, q7, q8, q9⟩ := m.can H.out
            have hcall := back_pool V { g with L := Xb ++ Yb } Xb Yb x' m.p rfl hkb q1 q2 q3 q4 q5 q6 q7 q8 q9
            have hgd' : revAt xs i = x'.b := by rw [HXS.out]; exact hgd
            rw [hgd']
            clear hgd'
            have c4 := m.bx.cell
            have HC := Lib.hid hcall; clear hcall
            have HMb := Lib.hid m; clear m
            have HH := Lib.hid hhb; clear hhb
            have HB := Lib.hid hb; clear hb
            have HDR := Lib.hid hdr; clear hdr hgd hkb q1 q2 q3 q4 q5 q6 q7 q8 q9
            have HSS := Lib.hid hs; clear hs
            gi_wp2_with fail
            refine ⟨trivial, rfl, ((callsIn_wide.2 HC.out).inRound l).mono ?_⟩
            rintro e V' ⟨rfl, hp', hk'⟩
            have m' := HMb.out.back H.out HH.out hp' hk'
            have hlow : ∀ i, Gh.foot { g with L := Xb ++ Yb } i → i < w.heap.size := fun i hi => HMb.out.foot hi
            have hb' := HB.out.keep hk' (fun h => by have := hlow _ h; omega)
            have hkf : KeepsFrom W3.heap.size V V' := ⟨hk'.size, fun k o hB hk _ => hk'.heap hk (fun h => by have := hlow _ h; rw [HSZ.out] at hB; omega)⟩
            have FIN : Hid (roundL W3.heap.size (UI w g (T0 ++ T).reverse (T0 ++ T) (T.map (fun x => x.e.key)) (.slice (some ⟨bt, 0, none⟩) n cc) u13 W1.heap.size) (fun _ _ _ => False) i V .normal ⟨#[], []⟩ V') := ⟨hkf, _, m', hb'⟩
            clear m' hb' hkf hp' hk' hlow
            gi_wp2_with fail
            exact FIN.out
          case done =>
            rintro D V hD ⟨L', m, hb⟩ hK
            have hdr : (T0 ++ T).reverse.drop xs.length = [] := List.drop_eq_nil_of_le (by rw [HXL.out, List.length_reverse]; exact Nat.le_refl _)
            rw [hdr] at m
            have hL' : L' = g.L := m.h
            subst hL'
            have hfin : PutNo g t key z w (.returned (.tuple #[.slice none 0 0, .bool false])) (V.putObj D (.deferred none)) := by
              have kk : Keep (fun k => k = D) V (V.putObj D (.deferred none)) := (Keep.refl (fun k => k = D) V).putObj _ (.inl rfl)
              refine ⟨T, L, by rw [← HL0.out]; exact HE.out, hfr, HNO.out, rfl, ?_, ?_⟩
              · exact m.p.keep kk (fun i hi e => by have := m.foot hi; rw [HSZ.out] at hD; omega)
              · exact m.k.trans' kk (fun i e => .inr (by rw [HSZ.out] at hD; omega))
            have HFIN := Lib.hid hfin; clear hfin m hb
            have HKK := Lib.hid hK; clear hK hdr
            have HDD := Lib.hid hD; clear hD
            go_wp2_with fail
            rw [Exit.noGoto_ret]
            refine ⟨by simp, .inl ⟨_, _, rfl, run_takeDeferred HKK.out, ?_⟩⟩
            exact ⟨.tuple #[.slice none 0 0, .bool false], by simp [results, Try.f17, go_sem], .inr HFIN.out⟩
          case stop =>
            rintro D c i V hD hi h hK
            exact h.elim
    · have hfit : z ≤ g.cap - tot (esOf L) := by omega
      have hkn : key ∉ (esOf L).map E.key := by
        intro hm
        obtain ⟨e, he, hek⟩ := List.mem_map.1 hm
        obtain ⟨u, hu, rfl⟩ := List.mem_map.1 he
        have := Ev.sub HE.out u hu
        rw [HL0.out, wo, List.mem_filter] at this
        exact absurd hek (by simpa using this.2)
      obtain ⟨⟨f1, f2, f3, ⟨vl, f4⟩, f5, f6, f7, f8, f9, f10⟩, ⟨fm, fr⟩, hend⟩ := PoolIs.fresh (g := { g with L := L }) HM.out.p key t z ht hks hz hkn hfit
      have c0a : ∀ o, (wr.alloc o).cell? ⟨w.heap.size, 0, none⟩ = some (ptr g.bp) := fun o => (HM.out.bx.alloc o).cell
      have HFM := Lib.hid (And.intro fm fr); clear fm fr
      have HEND := Lib.hid hend; clear hend
      have HKN := Lib.hid hkn; clear hkn
      have HFIT := Lib.hid hfit; clear hfit
      have hwl : w.heap.size < wr.heap.size := HM.out.bx.lt
      go_wp2_with fail
      refine (insert_any wr.heap.size g.bp _ _ _ vl _ f9 f10 f1 f2 f3 f4 f5 f6 f7 f8).mono ?_
      rintro e w2 ⟨rfl, hw2⟩
      have fm : w2.cell? ⟨g.bp, 8, none⟩ = some (.map (some g.bm)) := by rw [hw2]; exact HFM.out.1
      have fr : MapRel Try.prog 9 w2 g.bm (fun k v => ∃ x ∈ L, k = .string x.e.key ∧ v = ptr x.b) := by rw [hw2]; exact HFM.out.2
      have hlb : lastB g.bp L < w.heap.size := (lastB_mem g.bp L).elim (fun e => by rw [e]; exact hlt) (fun e => HM.out.foot (.inr (.inr (.inr (.inr e)))))
      have hbm : g.bm < w.heap.size := HM.out.foot (i := g.bm) (.inr (.inr (.inr (.inl rfl))))
      have kx : Keep (fun i => i = wr.heap.size ∨ i = lastB g.bp L ∨ i = g.bp) (wr.alloc (newO key t z)) w2 := by
        rw [hw2]
        exact ((((Keep.refl (fun i => i = wr.heap.size ∨ i = lastB g.bp L ∨ i = g.bp) _).setCell (p := ⟨wr.heap.size, 3, none⟩) _ (.inl (.inl rfl))).setCell (p := ⟨wr.heap.size, 4, none⟩) _ (.inl (.inl rfl))).setCell (p := ⟨lastB g.bp L, 4, none⟩) _ (.inl (.inr (.inl rfl)))).setCell (p := ⟨g.bp, 3, none⟩) _ (.inl (.inr (.inr rfl)))
      have hbx2 : Box w2 w.heap.size (ptr g.bp) := (HM.out.bx.alloc (newO key t z)).keep kx (by omega)
      have c02 := hbx2.cell
      obtain ⟨es', ck', hupd, hm3⟩ := fr.update (t := 63) (et := 55) strKeyed Try.underlying63 (keyStr hks) (.pointer (some ⟨wr.heap.size, 0, none⟩))
      have c03 : (w2.putObj g.bm (.map es' ck')).cell? ⟨w.heap.size, 0, none⟩ = some (ptr g.bp) := (cell_put (by omega)).trans c02
      have hend := HEND.out (.map es' ck') (by rw [hw2] at hm3; exact hm3)
      rw [← hw2] at hend
      obtain ⟨r7, r9, rf9, r1, r2, ru, rfu, rpu, rxu, hfin⟩ := hend
      have HFIN := Lib.hid hfin; clear hfin hw2
      have hub : 0 ≤ usedOf (esOf L) t ∧ usedOf (esOf L) t ≤ 1000000 := HM.out.p.used_bd t
      have hbd : tot (esOf L) ≤ g.cap := HM.out.p.le
      have hcp : g.cap ≤ 1000000 := HM.out.p.cap
      have htn : 0 ≤ tot (esOf L) := tot_nonneg _ (fun y hy => (HM.out.p.rng y hy).2)
      have HUB := Lib.hid (And.intro hub (And.intro hbd (And.intro hcp htn))); clear hub hbd hcp htn
      clear f1 f2 f3 f4 f5 f6 f7 f8 f9 f10 c0a kx hbx2 fr hm3
      go_wp2_with fail
      obtain ⟨w3, hw3⟩ : ∃ w3, w3 = w2.putObj g.bm (.map es' ck') := ⟨_, rfl⟩
      rw [← hw3] at r7 r9 rf9 r1 r2 ru rfu c03 ⊢
      have HW3 := Lib.hid hw3; clear hw3 hupd
      refine (count_any g.bp wr.heap.size g.bu g.sh.length g.uc t (usedOf (esOf L) t) (g.cap - tot (esOf L)) z 1 z (usedOf (esOf L) t + z) (g.cap - tot (esOf L) - z) w3 ht r7 r9 rf9 r1 r2 ru rfu rpu rxu
        (by have h1 := HUB.out; have h2 := HFIT.out; rw [wrap_in (by omega) (by omega)]; omega) (by have h1 := HUB.out; have h2 := HFIT.out; rw [wrap_in (by omega) (by omega)]) (by have h1 := HUB.out; have h2 := HFIT.out; rw [wrap_in (by omega) (by omega)])).mono ?_
      rintro e w4 ⟨rfl, k4, hw4⟩
      obtain ⟨hp4, hk4⟩ := HFIN.out k4
      rw [← HW3.out, ← hw4] at hp4 hk4
      have hok := put_done HM.out (by rw [← HL0.out]; exact HE.out) HFIT.out hp4 hk4
      have HOK := Lib.hid hok; clear hok hp4 hk4 hw4
      go_wp2_with fail
      rw [Exit.noGoto_ret]
      exact ⟨.tuple #[u13, .bool true], by simp [results, Try.f17, go_sem], .inl HOK.out⟩

end Go.Proofs.Ytigkhglgoabjaaa
