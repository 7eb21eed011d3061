/-
  A map of numbers; limits, Limit.
-/
import Derived.Test.YtplkmbfeeegaiaaDoorA2
namespace Go.Proofs.YtplkmbfeeegaiaaDoor
open Go.RowKit Go.Shelf

theorem intKeyed : Maps.Keyed Tryd.prog 3 := Maps.int_keyed Tryd.underlying3
theorem wf_i64 {n : Int} (h : I64 n) : (Lit.int .i64 n).wf = true := by
  have e : wrap64 n = n := by unfold wrap64; unfold I64 at h; omega
  have := wrap64_wf n
  rwa [e] at this
theorem wrapI {n : Int} (h : I64 n) : IntKind.i64.wrap n = n := by
  unfold I64 at h
  simp only [IntKind.wrap, IntKind.bits, IntKind.signed]
  simp
  omega
theorem keyInt {n : Int} (h : I64 n) : keyOf Tryd.prog 3 (.int .i64 n) = some (.int .i64 n) := Maps.keyOf_int_mk Tryd.underlying3 (wf_i64 h)
theorem zeroInt (w : World) : (zeroValue 3).run Tryd.prog w = .ok (.int .i64 0) w := by kernel_rfl
/-- Block bm is a map of numbers; who is not in it has 0. -/
def MapF (w : World) (bm : Nat) (g : Int → Int) : Prop := ∃ R, MapRel Tryd.prog 3 w bm R ∧ (∀ k v, R k v → ∃ n, k = .int .i64 n ∧ v = .int .i64 (g n)) ∧ ∀ n, g n ≠ 0 → R (.int .i64 n) (.int .i64 (g n))
theorem MapF.of_heap {w w' : World} {bm : Nat} {g : Int → Int} (h : MapF w bm g) (hh : w'.heap[bm]? = w.heap[bm]?) : MapF w' bm g := by
  obtain ⟨R, h1, h2, h3⟩ := h
  exact ⟨R, h1.of_heap hh, h2, h3⟩
theorem MapF.lt {w : World} {bm : Nat} {g : Int → Int} (h : MapF w bm g) : bm < w.heap.size := by obtain ⟨R, h1, _⟩ := h; exact h1.lt
theorem MapF.keep {w w' : World} {bm : Nat} {g : Int → Int} {A : Nat → Prop} (h : MapF w bm g) (k : Keep A w w') (hA : ¬ A bm) : MapF w' bm g := h.of_heap (k.block _ h.lt hA)
theorem MapF.kept {w w' : World} {bm : Nat} {g : Int → Int} (h : MapF w bm g) (k : Keep (fun _ => False) w w') : MapF w' bm g := h.keep k (fun h => h)
theorem MapF.congr {w : World} {bm : Nat} {g f : Int → Int} (h : MapF w bm g) (e : ∀ n, f n = g n) : MapF w bm f := by
  have : f = g := funext e
  rw [this]; exact h
theorem MapF.made (w : World) : MapF (w.alloc (.map #[] 0)) w.heap.size (fun _ => 0) := ⟨_, MapRel.made _ _ w, fun _ _ h => h.elim, fun n h => absurd rfl h⟩
theorem MapF.not_cell {w : World} {bm : Nat} {g : Int → Int} (h : MapF w bm g) {o : Nat} {v : Value} {b' : Nat} (hc : w.cell? ⟨b', o, none⟩ = some v) : b' ≠ bm := by
  obtain ⟨R, h1, _⟩ := h; exact h1.not_cell hc
theorem MapF.look {w : World} {bm : Nat} {g : Int → Int} (h : MapF w bm g) {n : Int} (hn : I64 n) : (Instr.lookup 68 (.map (some bm)) (.int .i64 n) false).run Tryd.prog w = .ok (.int .i64 (g n)) w := by
  obtain ⟨R, h1, h2, h3⟩ := h
  rcases h1.look intKeyed Tryd.underlying68 (zeroInt w) false (keyInt hn) with ⟨a, b⟩ | ⟨v, a, b⟩
  · have : g n = 0 := by
      by_cases e : g n = 0
      · exact e
      · exact absurd (h3 n e) (a _)
    rw [this]; exact b
  · obtain ⟨n', e1, rfl⟩ := h2 _ _ a
    cases e1
    exact b
theorem MapF.update {w : World} {bm : Nat} {g : Int → Int} (h : MapF w bm g) {n : Int} (hn : I64 n) (x : Int) : ∃ es' clock', (Instr.mapUpdate 68 (.map (some bm)) (.int .i64 n) (.int .i64 x)).run Tryd.prog w = .ok () (w.putObj bm (.map es' clock')) ∧ MapF (w.putObj bm (.map es' clock')) bm (upd g n x) := by
  obtain ⟨R, h1, h2, h3⟩ := h
  obtain ⟨es', ck', hup, hm⟩ := h1.update intKeyed Tryd.underlying68 (keyInt hn) (.int .i64 x)
  refine ⟨es', ck', hup, _, hm, fun k v hkv => ?_, fun k hk => ?_⟩
  · rcases hkv with ⟨rfl, rfl⟩ | ⟨hne, hR⟩
    · exact ⟨n, rfl, by unfold upd; rw [if_pos rfl]⟩
    · obtain ⟨k', rfl, rfl⟩ := h2 _ _ hR
      refine ⟨k', rfl, ?_⟩
      unfold upd
      rw [if_neg (fun e => hne (by rw [e]))]
  · unfold upd at hk ⊢
    by_cases e : k = n
    · subst e; rw [if_pos rfl]; exact .inl ⟨rfl, rfl⟩
    · rw [if_neg e] at hk ⊢
      exact .inr ⟨fun e' => e (by cases e'; rfl), h3 k hk⟩

theorem three_cell (W : World) (x y z : Value) (t : TypeId) : (W.alloc (.cells #[x, y, z] t)).cell? ⟨W.heap.size, 0, none⟩ = some x ∧ (W.alloc (.cells #[x, y, z] t)).cell? ⟨W.heap.size, 1, none⟩ = some y ∧ (W.alloc (.cells #[x, y, z] t)).cell? ⟨W.heap.size, 2, none⟩ = some z ∧ ∀ o, (W.alloc (.cells #[x, y, z] t)).frozen? ⟨W.heap.size, o, none⟩ = false := by
  have hh : (W.alloc (.cells #[x, y, z] t)).heap[W.heap.size]? = some (.cells #[x, y, z] t) := World.alloc_heap_new _ _
  refine ⟨?_, ?_, ?_, fun o => ?_⟩
  · unfold World.cell?; simp only [hh]; rfl
  · unfold World.cell?; simp only [hh]; rfl
  · unfold World.cell?; simp only [hh]; rfl
  · unfold World.frozen?; simp only [hh]; simp
/-- The limits of the first k members. -/
def gLim (l : List Mb) (k : Nat) (n : Int) : Int := if (findN (l.take k) n).isSome then limitL l n else 0
theorem gLim_zero (l : List Mb) (n : Int) : gLim l 0 n = 0 := by unfold gLim findN; simp
theorem gLim_all {l : List Mb} {k : Nat} (hk : l.length ≤ k) (n : Int) : gLim l k n = limitL l n := by
  unfold gLim
  rw [List.take_of_length_le hk]
  cases e : findN l n with
  | none =>
    unfold limitL
    rw [e]
    simp
  | some m => simp
theorem gLim_succ {l : List Mb} {k : Nat} {m : Mb} (hm : l[k]? = some m) (n : Int) : gLim l (k + 1) n = upd (gLim l k) m.node (limitL l m.node) n := by
  unfold upd gLim findN
  rw [List.take_add_one, hm, Option.toList_some, List.find?_append]
  by_cases e : n = m.node
  · subst e
    rw [if_pos rfl]
    cases e2 : (l.take k).find? (fun x => decide (x.node = m.node)) <;> simp
  · rw [if_neg e]
    have : ([m].find? fun x => decide (x.node = n)) = none := by simp; exact fun h => e h.symm
    rw [this, Option.or_none]

theorem wsum_take {l : List Mb} (h : ∀ m ∈ l, okMb m) (k : Nat) : 0 ≤ wsum (l.take k) ∧ wsum (l.take k) ≤ wsum l := by
  have e : wsum l = wsum (l.take k) + wsum (l.drop k) := by rw [← wsum_append, List.take_append_drop]
  have h1 := wsum_bd (l.take k) (fun m hm => h m (List.mem_of_mem_take hm))
  have h2 := wsum_bd (l.drop k) (fun m hm => h m (List.mem_of_mem_drop hm))
  omega
theorem wsum_succ {l : List Mb} {k : Nat} {m : Mb} (hm : l[k]? = some m) : wsum (l.take (k + 1)) = wsum (l.take k) + m.weight := by
  rw [List.take_add_one, hm, Option.toList_some, wsum_append]
  simp [wsum]

def LimPost (l : List Mb) (w : World) (e : Ending) (w' : World) : Prop := ∃ bm, e = .returned (.map (some bm)) ∧ w.heap.size ≤ bm ∧ MapF w' bm (limitL l) ∧ Keep (fun _ => False) w w'

set_option maxRecDepth 100000 in
set_option maxHeartbeats 1000000 in
theorem limits_ok (v : Value) (l : List Mb) (w : World) (h : Mbs w v l) (hv : VL l) : Calls Tryd.prog 49 #[v] w (LimPost l w) := by
  have HM := Lib.hid h
  obtain ⟨hn, hbd, a, c, b, off, rfl, hc, ha, hcell⟩ := h
  have HC := Lib.hid hcell
  have HA := Lib.hid ha
  have HBD := Lib.hid hbd
  have hws := hv.wsum
  have HV := Lib.hid hv
  have HVAL : Hid (∀ W, Keep (fun _ => False) w W → Calls Tryd.prog 19 #[.slice a l.length c] W fun e w' => e = .returned (.bool true) ∧ Keep (fun _ => False) W w') := Lib.hid (fun W k => by
    have := valid_any _ l W (HM.out.kept k)
    rwa [(validL_iff l).2 hv] at this)
  clear hcell ha hbd hv HM
  obtain ⟨n, hn'⟩ : ∃ n, l.length = n := ⟨_, rfl⟩
  have HL := Lib.hid hn'
  rw [hn'] at hn hc HVAL ⊢
  clear hn'
  have HK0 : Hid (Keep (fun _ => False) w (w.alloc (.map #[] 0))) := Lib.hid ((Keep.refl _ w).alloc _)
  have HM0 := Lib.hid (MapF.made w)
  have hmm := @run_makeMap Tryd.prog
  go_enter Tryd.func49, Tryd.ntmps49
  go_wp2_with fail
  generalize w.alloc (.map #[] 0) = W0 at *
  generalize hbm : w.heap.size = bm at HM0

  have HBM' := Lib.hid hbm
  clear hbm hmm
  go_loopg [4, 12] n (fun gh v4 v wr => ∃ (k : Nat), gh + k = n ∧ v = .int .i64 k ∧ v4 = .int .i64 (wsum (l.take k)) ∧ MapF wr bm (fun _ => 0) ∧ Keep (fun _ => False) w wr)
  case atStart => exact ⟨0, by omega, rfl, by simp [wsum], HM0.out, HK0.out⟩
  case round =>
    clear HM0 HK0
    obtain ⟨k, hk, rfl, rfl, hmf, hkeep⟩ := hrel
    have HMF := Lib.hid hmf
    have HK := Lib.hid hkeep
    clear hmf hkeep
    have hwt := wsum_take HV.out.ok k
    by_cases hlt : k < n
    · obtain ⟨m, hm⟩ : ∃ m, l[k]? = some m := ⟨_, List.getElem?_eq_getElem (by have := HL.out; omega)⟩
      obtain rfl := HA.out (by have := HL.out; omega)
      have c0 := HK.out.cell (HC.out k m hm).1 (fun h => h)
      have c1 := HK.out.cell (HC.out k m hm).2.1 (fun h => h)
      have c2 := HK.out.cell (HC.out k m hm).2.2 (fun h => h)
      have HWS := Lib.hid (wsum_succ hm)
      have hok := HV.out.ok m (List.mem_of_getElem? hm)
      unfold okMb at hok
      have hkz : (k : Int) < (n : Int) := by omega
      have hk0 : (0 : Int) ≤ (k : Int) := by omega
      clear hm
      obtain ⟨mn, mr, mw⟩ := m
      simp only [] at c0 c1 c2 hok
      generalize wsum (l.take k) = s0 at *
      have HK2 : Hid (Keep (fun _ => False) w (wr.alloc (.cells #[.int .i64 mn, .int .i64 mr, .int .i64 mw] 25))) := Lib.hid (HK.out.alloc _)
      have HMF2 : Hid (MapF (wr.alloc (.cells #[.int .i64 mn, .int .i64 mr, .int .i64 mw] 25)) bm (fun _ => 0)) := Lib.hid (HMF.out.kept ((Keep.refl _ wr).alloc _))
      go_wp2_with fail
      clear c0 c1 c2
      generalize wr.alloc (.cells #[.int .i64 mn, .int .i64 mr, .int .i64 mw] 25) = W2 at *
      go_roundg (gk - 1)
      case rel => exact ⟨k + 1, by omega, by go_num, by rw [HWS.out], HMF2.out, HK2.out⟩
      case measure => omega
    · have HWE : Hid (wsum (l.take k) = wsum l) := Lib.hid (by rw [List.take_of_length_le (by have := HL.out; omega)])
      rw [HWE.out]
      go_wp2_with fail
      with_reducible refine (HVAL.out _ HK.out).mono ?_
      rintro e W1 ⟨rfl, k1⟩
      have HK1 := Lib.hid (HK.out.trans k1)
      have HM1 : Hid (MapF W1 bm (gLim l 0)) := Lib.hid ((HMF.out.kept k1).congr (gLim_zero l))
      clear k1 HK HMF hwt
      go_wp2_with fail
      go_loopg [25] n (fun gh v wr => ∃ (k : Nat), gh + k = n ∧ v = .int .i64 k ∧ MapF wr bm (gLim l k) ∧ Keep (fun _ => False) w wr)
      case atStart => exact ⟨0, by omega, rfl, HM1.out, HK1.out⟩
      case round =>
        clear HM1 HK1
        obtain ⟨k, hk, rfl, hmf, hkeep⟩ := hrel
        have HMF := Lib.hid hmf
        have HK := Lib.hid hkeep
        clear hmf hkeep
        by_cases hlt : k < n
        · obtain ⟨m, hm⟩ : ∃ m, l[k]? = some m := ⟨_, List.getElem?_eq_getElem (by have := HL.out; omega)⟩
          obtain rfl := HA.out (by have := HL.out; omega)
          have c0 := HK.out.cell (HC.out k m hm).1 (fun h => h)
          have c1 := HK.out.cell (HC.out k m hm).2.1 (fun h => h)
          have c2 := HK.out.cell (HC.out k m hm).2.2 (fun h => h)
          have hok := HV.out.ok m (List.mem_of_getElem? hm)
          have HLI : Hid (limitL l m.node = (80 * m.weight + wsum l - 1) / wsum l) := Lib.hid (limitL_mem HV.out (List.mem_of_getElem? hm))
          have HGS := Lib.hid (gLim_succ hm)
          unfold okMb at hok
          have hkz : (k : Int) < (n : Int) := by omega
          have hk0 : (0 : Int) ≤ (k : Int) := by omega
          clear hm
          obtain ⟨mn, mr, mw⟩ := m
          simp only [] at c0 c1 c2 hok HLI HGS
          generalize wsum l = s0 at *
          have HK2 : Hid (Keep (fun _ => False) w (wr.alloc (.cells #[.int .i64 mn, .int .i64 mr, .int .i64 mw] 25))) := Lib.hid (HK.out.alloc _)
          have HMF2 : Hid (MapF (wr.alloc (.cells #[.int .i64 mn, .int .i64 mr, .int .i64 mw] 25)) bm (gLim l k)) := Lib.hid (HMF.out.kept ((Keep.refl _ wr).alloc _))
          have HT3 := Lib.hid (three_cell wr (.int .i64 mn) (.int .i64 mr) (.int .i64 mw) 25)
          go_wp2_with fail
          clear c0 c1 c2
          generalize wr.alloc (.cells #[.int .i64 mn, .int .i64 mr, .int .i64 mw] 25) = W2 at *
          generalize wr.heap.size = z at *
          have d0 : W2.drew.cell? ⟨z, 0, none⟩ = some (.int .i64 mn) := HT3.out.1
          have d2 : W2.drew.cell? ⟨z, 2, none⟩ = some (.int .i64 mw) := HT3.out.2.2.1
          obtain ⟨es', ck', hup, hmr⟩ := (HMF2.out.of_heap (w' := W2.drew) rfl).update (n := mn) ⟨by omega, by omega⟩ ((80 * mw + s0 - 1) / s0)
          have HMR := Lib.hid (hmr.congr (f := gLim l (k + 1)) (fun q => by rw [HGS.out q, HLI.out]))
          have e1 : IntKind.i64.wrap (80 * mw) = 80 * mw := wrapI ⟨by omega, by omega⟩
          have e2 : IntKind.i64.wrap (80 * mw + s0) = 80 * mw + s0 := wrapI ⟨by omega, by omega⟩
          have e3 : IntKind.i64.wrap (80 * mw + s0 - 1) = 80 * mw + s0 - 1 := wrapI ⟨by omega, by omega⟩
          have e4 : (80 * mw + s0 - 1).tdiv s0 = (80 * mw + s0 - 1) / s0 := Int.tdiv_eq_ediv_of_nonneg (by omega)
          have hq1 : 0 ≤ (80 * mw + s0 - 1) / s0 := Int.ediv_nonneg (by omega) (by omega)
          have hq2 : (80 * mw + s0 - 1) / s0 ≤ 80 * mw + s0 - 1 := Int.ediv_le_self _ (by omega)
          have e5 : IntKind.i64.wrap ((80 * mw + s0 - 1) / s0) = (80 * mw + s0 - 1) / s0 := wrapI ⟨by omega, by omega⟩
          have hs0 : (s0 = 0) = False := eq_false (by omega)
          refine wp_region_still_tail 11 (by kernel_rfl) (by kernel_rfl) ?_
          simp only [List.take_succ_cons, List.take_zero, List.drop_succ_cons, List.drop_zero]
          change wpStill _ _ W2.drew _ _ _
          iterate 11 still_step
          refine wpStill_nil ?_
          go_wp2_with fail
          have HK3 : Hid (Keep (fun _ => False) w (W2.drew.putObj bm (.map es' ck'))) := Lib.hid (HK2.out.drew.putObj _ (.inr (by have := HBM'.out; omega)))
          clear hup hmr d0 d2
          generalize W2.drew.putObj bm (.map es' ck') = W3 at *
          go_roundg (gk - 1)
          case rel => exact ⟨k + 1, by omega, by go_num, HMR.out, HK3.out⟩
          case measure => omega
        · have HMA : Hid (MapF wr bm (limitL l)) := Lib.hid (HMF.out.congr (fun q => (gLim_all (by have := HL.out; omega) q).symm))
          go_wp2_with fail
          go_ret
          exact ⟨bm, rfl, by have := HBM'.out; omega, HMA.out, HK.out⟩

set_option maxRecDepth 100000 in
set_option maxHeartbeats 1000000 in
theorem limits_bad (v : Value) (l : List Mb) (w : World) (h : Mbs w v l) (hv : ¬ VL l) : Calls Tryd.prog 49 #[v] w (LimPost l w) := by
  have HM := Lib.hid h
  obtain ⟨hn, hbd, a, c, b, off, rfl, hc, ha, hcell⟩ := h
  have HC := Lib.hid hcell
  have HA := Lib.hid ha
  have HV := Lib.hid hv
  have HVAL : Hid (∀ W, Keep (fun _ => False) w W → Calls Tryd.prog 19 #[.slice a l.length c] W fun e w' => e = .returned (.bool false) ∧ Keep (fun _ => False) W w') := Lib.hid (fun W k => by
    have := valid_any _ l W (HM.out.kept k)
    rwa [show validL l = false from by
      cases e : validL l with
      | false => rfl
      | true => exact absurd ((validL_iff l).1 e) hv] at this)
  clear hcell ha hbd hv HM
  obtain ⟨n, hn'⟩ : ∃ n, l.length = n := ⟨_, rfl⟩
  have HL := Lib.hid hn'
  rw [hn'] at hn hc HVAL ⊢
  clear hn'
  have HK0 : Hid (Keep (fun _ => False) w (w.alloc (.map #[] 0))) := Lib.hid ((Keep.refl _ w).alloc _)
  have HM0 := Lib.hid (MapF.made w)
  have hmm := @run_makeMap Tryd.prog
  go_enter Tryd.func49, Tryd.ntmps49
  go_wp2_with fail
  generalize w.alloc (.map #[] 0) = W0 at *
  generalize hbm : w.heap.size = bm at HM0
  have HBM' := Lib.hid hbm
  clear hbm hmm
  go_loopg [4, 12] n (fun gh v4 v wr => ∃ (k : Nat) (x : Int), gh + k = n ∧ v = .int .i64 k ∧ v4 = .int .i64 x ∧ MapF wr bm (fun _ => 0) ∧ Keep (fun _ => False) w wr)
  case atStart => exact ⟨0, 0, by omega, rfl, rfl, HM0.out, HK0.out⟩
  case round =>
    clear HM0 HK0
    obtain ⟨k, x, hk, rfl, rfl, hmf, hkeep⟩ := hrel
    have HMF := Lib.hid hmf
    have HK := Lib.hid hkeep
    clear hmf hkeep
    by_cases hlt : k < n
    · obtain ⟨m, hm⟩ : ∃ m, l[k]? = some m := ⟨_, List.getElem?_eq_getElem (by have := HL.out; omega)⟩
      obtain rfl := HA.out (by have := HL.out; omega)
      have c0 := HK.out.cell (HC.out k m hm).1 (fun h => h)
      have c1 := HK.out.cell (HC.out k m hm).2.1 (fun h => h)
      have c2 := HK.out.cell (HC.out k m hm).2.2 (fun h => h)
      have hkz : (k : Int) < (n : Int) := by omega
      have hk0 : (0 : Int) ≤ (k : Int) := by omega
      clear hm
      obtain ⟨mn, mr, mw⟩ := m
      simp only [] at c0 c1 c2
      have HK2 : Hid (Keep (fun _ => False) w (wr.alloc (.cells #[.int .i64 mn, .int .i64 mr, .int .i64 mw] 25))) := Lib.hid (HK.out.alloc _)
      have HMF2 : Hid (MapF (wr.alloc (.cells #[.int .i64 mn, .int .i64 mr, .int .i64 mw] 25)) bm (fun _ => 0)) := Lib.hid (HMF.out.kept ((Keep.refl _ wr).alloc _))
      go_wp2_with fail
      clear c0 c1 c2
      generalize wr.alloc (.cells #[.int .i64 mn, .int .i64 mr, .int .i64 mw] 25) = W2 at *
      go_roundg (gk - 1)
      case rel => exact ⟨k + 1, _, by omega, by go_num, rfl, HMF2.out, HK2.out⟩
      case measure => omega
    · go_wp2_with fail
      with_reducible refine (HVAL.out _ HK.out).mono ?_
      rintro e W1 ⟨rfl, k1⟩
      have HK1 := Lib.hid (HK.out.trans k1)
      have HM1 : Hid (MapF W1 bm (limitL l)) := Lib.hid ((HMF.out.kept k1).congr (fun q => limitL_bad HV.out))
      clear k1 HK HMF
      go_wp2_with fail
      go_ret
      exact ⟨bm, rfl, by have := HBM'.out; omega, HM1.out, HK1.out⟩
theorem limits_any (v : Value) (l : List Mb) (w : World) (h : Mbs w v l) : Calls Tryd.prog 49 #[v] w (LimPost l w) := by
  by_cases hv : VL l
  · exact limits_ok v l w h hv
  · exact limits_bad v l w h hv

set_option maxRecDepth 100000 in
set_option maxHeartbeats 400000 in
theorem limit_any (v : Value) (l : List Mb) (w : World) (h : Mbs w v l) (n : Int) (hn : I64 n) : Calls Tryd.prog 21 #[v, .int .i64 n] w fun e w' => e = .returned (.int .i64 (limitL l n)) ∧ Keep (fun _ => False) w w' := by
  have HL := Lib.hid (limits_any v l w h)
  have HN := Lib.hid hn
  clear h hn
  go_enter Tryd.func21, Tryd.ntmps21
  go_wp2_with fail
  with_reducible refine HL.out.mono ?_
  rintro e W1 ⟨bm, rfl, hb, hm, k1⟩
  have hl := hm.look HN.out
  go_wp2_with fail
  go_ret
  exact ⟨rfl, k1⟩
end Go.Proofs.YtplkmbfeeegaiaaDoor
