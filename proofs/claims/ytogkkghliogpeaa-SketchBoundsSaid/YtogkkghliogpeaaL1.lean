/-
  SketchExact: the walk.
-/
import Derived.Test.YtogkkghliogpeaaP3
namespace Go.Proofs.Ytogkkghliogpeaa
open Go.RowKit Go.Shelf

/-- At the head of a round. -/
structure EG (w W : World) (s1 b1 s2 b2 cap xb : Nat) (f : Nat → Nat → Int) (N i : Nat) (La Lb : List C) : Prop where
  fam : Fam w W [⟨s1, b1, cap, La⟩, ⟨s2, b2, cap, Lb⟩]
  x0 : w.heap.size ≤ xb
  x1 : xb ≠ s1 ∧ xb ≠ b1 ∧ xb ≠ s2 ∧ xb ≠ b2
  arr : ArrIs W xb (cnts (usesOf f i))
  a : Ex La (cnts (usesOf f i)) (1000 * i)
  b : Ex Lb (cnts (backOf f N i)) (1000 * i)

theorem EG.keep {w W W' : World} {s1 b1 s2 b2 cap xb : Nat} {f : Nat → Nat → Int} {N i : Nat} {La Lb : List C} (h : EG w W s1 b1 s2 b2 cap xb f N i La Lb) (k : Keep (fun _ => False) W W') : EG w W' s1 b1 s2 b2 cap xb f N i La Lb :=
  ⟨h.fam.keep k, h.x0, h.x1, h.arr.keep k (fun h => h), h.a, h.b⟩
theorem zero_arr (W : World) : ArrIs (W.alloc (.cells #[.int .i64 0, .int .i64 0, .int .i64 0, .int .i64 0, .int .i64 0, .int .i64 0, .int .i64 0, .int .i64 0, .int .i64 0, .int .i64 0] 52)) W.heap.size (fun _ => 0) := fun m key hm => by
  have hl : m < 10 := (List.getElem?_eq_some_iff.1 hm).1
  have hh : (W.alloc (.cells (Array.replicate 10 (.int .i64 0)) 52)).heap[W.heap.size]? = some (.cells (Array.replicate 10 (.int .i64 0)) 52) := World.alloc_heap_new _ _
  change (W.alloc (.cells (Array.replicate 10 (.int .i64 0)) 52)).cell? _ = _ ∧ (W.alloc (.cells (Array.replicate 10 (.int .i64 0)) 52)).frozen? _ = _
  constructor
  · unfold World.cell?
    simp only [hh]
    simp [hl]
  · unfold World.frozen?; simp only [hh]; simp

theorem pick_int' (c m : Int) (t : Nat) (w : World) (h1 : -9223372036854775808 ≤ c) (h2 : c ≤ 9223372036854775807) (hn : 1 ≤ m) (hn2 : m ≤ 100000) (ht : pk c m = t) :
    Calls Try.prog 11 #[.int .i64 c, .int .i64 m] w fun e w' => e = .returned (.int .i64 (t : Int)) ∧ w' = w := (pick_int c m t w h1 h2 hn hn2 ht).mono fun _ _ ⟨a, b⟩ => ⟨a, b.symm⟩

set_option maxRecDepth 100000 in
set_option maxHeartbeats 8000000 in
theorem exact_go (k : Int) (a : Option Addr) (b off n c : Nat) (f : Nat → Nat → Int) (w : World) (hk : -9223372036854775808 ≤ k ∧ k ≤ 9223372036854775807) (hn : n ≤ 9223372036854775807) (ha : 0 < n → a = some ⟨b, off, none⟩) (hst : Steps w b off n f) :
    Calls Try.prog 8 #[.int .i64 k, .slice a n c] w fun e w' => e = .returned (.bool true) ∧ Keep (fun _ => False) w w' := by
  obtain ⟨kq, hkq, hkl⟩ := pk_int k 55 (by decide)
  have hnew : ∀ w, Calls Try.prog 12 #[.int .i64 (10 + (kq : Int))] w (NewPost (10 + kq) w) := fun w => by
    have := new_ok (10 + kq) (by omega) (by omega) w
    simpa using this
  have HNEW := Lib.hid hnew
  have HPK := Lib.hid hkq
  have HST := Lib.hid hst
  have HAD := Lib.hid ha
  obtain ⟨N, hN⟩ : ∃ N, N = min n 60 := ⟨_, rfl⟩
  have hmin : min (n : Int) 60 = (N : Int) := by omega
  have hNn : N ≤ n := by omega
  have hN60 : N ≤ 60 := by omega
  have hc10 : 10 ≤ 10 + kq := by omega
  clear hnew hkq hst ha hN
  go_enter Try.func8, Try.ntmps8
  go_wp2_with fail
  with_reducible refine (sane_any _).mono ?_
  rintro e W0 ⟨rfl, k0⟩
  have HF0 := Lib.hid (Fam.nil k0)
  clear k0
  go_wp2_with fail
  with_reducible refine (pick_int k 55 kq _ hk.1 hk.2 (by decide) (by decide) HPK.out).mono ?_
  rintro e W0' ⟨rfl, rfl⟩
  go_wp2_with fail
  with_reducible refine (HNEW.out _).mono ?_
  rintro e W1 ⟨s1, b1, rfl, hs, kk, hl1, hl2⟩
  have HF1 := Lib.hid (HF0.out.new hs kk hl1 hl2)
  clear hs kk hl1 hl2 HF0
  go_wp2_with fail
  with_reducible refine (HNEW.out _).mono ?_
  rintro e W2 ⟨s2, b2, rfl, hs, kk, hl1, hl2⟩
  have HF2 : Hid (Fam w W2 [⟨s1, b1, 10 + kq, []⟩, ⟨s2, b2, 10 + kq, []⟩]) := Lib.hid (HF1.out.new hs kk hl1 hl2)
  clear hs kk hl1 hl2 HF1 HNEW
  go_wp2_with fail
  have HEG : Hid (EG w (W2.alloc (.cells #[.int .i64 0, .int .i64 0, .int .i64 0, .int .i64 0, .int .i64 0, .int .i64 0, .int .i64 0, .int .i64 0, .int .i64 0, .int .i64 0] 52)) s1 b1 s2 b2 (10 + kq) W2.heap.size f N 0 [] []) := Lib.hid (by
    have h1 := (HF2.out.at_ (A := []) (B := [_])).at_.lt
    have h2 := (HF2.out.at_ (A := [_]) (B := [])).at_.lt
    simp only [] at h1 h2
    exact ⟨HF2.out.keep ((Keep.refl _ W2).alloc _), HF2.out.k.size, ⟨by omega, by omega, by omega, by omega⟩, zero_arr W2, Ex.nil, Ex.nil⟩)
  generalize W2.alloc (.cells #[.int .i64 0, .int .i64 0, .int .i64 0, .int .i64 0, .int .i64 0, .int .i64 0, .int .i64 0, .int .i64 0, .int .i64 0, .int .i64 0] 52) = W3 at *
  generalize W2.heap.size = xb at *
  clear HF2
  go_loopg [12] N (fun gh vi wr => ∃ (i : Nat) (La Lb : List C), vi = .int .i64 i ∧ i ≤ N ∧ N ≤ gh + i ∧ EG w wr s1 b1 s2 b2 (10 + kq) xb f N i La Lb)
  case atStart => exact ⟨0, [], [], rfl, by omega, by omega, HEG.out⟩
  case round =>
    clear HEG
    obtain ⟨i, La, Lb, rfl, hiN, hgh, heg⟩ := hrel
    have HG := Lib.hid heg
    clear heg
    by_cases hi : i < N
    · obtain rfl := HAD.out (by omega)
      have hiz : (i : Int) < (N : Int) := by omega
      have hi0 : (0 : Int) ≤ (i : Int) := by omega
      have hin : i < n := by omega
      have hinz : (i : Int) < (n : Int) := by omega
      have hf1 : -9223372036854775808 ≤ f i 1 ∧ f i 1 ≤ 9223372036854775807 := ⟨HST.out.lo i 1, HST.out.hi i 1⟩
      have hf2 : -9223372036854775808 ≤ f i 2 ∧ f i 2 ≤ 9223372036854775807 := ⟨HST.out.lo i 2, HST.out.hi i 2⟩
      obtain ⟨n2, hn2, hn2l⟩ := pk_int (f i 2) 1000 (by decide)
      obtain ⟨t, ht, htl⟩ := pk_int (f i 1) 10 (by decide)
      obtain ⟨key, hkey, hks, hkn⟩ := nms_key t (by omega)
      have HUSE : Hid (useOf f i = (key, 1 + (n2 : Int))) := Lib.hid (by
        unfold useOf
        rw [hn2, ht, Int.toNat_natCast, List.getD_eq_getElem?_getD, hkey]
        rfl)
      have HP2 := Lib.hid hn2
      have HPT := Lib.hid ht
      have HKEY := Lib.hid (And.intro hkey (And.intro hks hkn))
      clear hn2 ht hkey hks hkn
      have ht0 : (0 : Int) ≤ (t : Int) := by omega
      have q1 := HG.out.fam.k.cell (HST.out.cell i 1 hin (by decide)) (fun h => h)
      have hcx := HG.out.a.nn key
      have hcs : cnts (usesOf f i) key ≤ 1000 * i := by
        have h1 := (HG.out.a.ex.lo HG.out.a.nn key).2
        have h2 := ((HG.out.fam.at_ (A := []) (B := [_])).ok.hi0 key).2.1
        have h3 := HG.out.a.sm
        rw [h1] at h2
        simp only [] at h2
        omega
      go_wp2_with fail
      with_reducible refine (pick_int (f i 1) 10 t _ hf1.1 hf1.2 (by decide) (by decide) HPT.out).mono ?_
      rintro e wr' ⟨rfl, rfl⟩
      clear q1
      go_wp2_with fail
      have q2 : wr.drew.cell? ⟨b, off + i * 3 + 2, none⟩ = some (.int .i64 (f i 2)) := HG.out.fam.k.cell (HST.out.cell i 2 hin (by decide)) (fun h => h)
      have x0 : wr.drew.cell? ⟨xb, t, none⟩ = some (.int .i64 (cnts (usesOf f i) key)) := (HG.out.arr t key HKEY.out.1).1
      have x0' : wr.cell? ⟨xb, t, none⟩ = some (.int .i64 (cnts (usesOf f i) key)) := (HG.out.arr t key HKEY.out.1).1
      have x1 := (HG.out.arr t key HKEY.out.1).2
      refine wp_region_still_tail 13 (by kernel_rfl) (by kernel_rfl) ?_
      simp only [List.take_succ_cons, List.take_zero, List.drop_succ_cons, List.drop_zero]
      change wpStill _ _ wr.drew _ _ _
      iterate 10 still_step
      still_call (pick_int' (f i 2) 1000 n2 _ hf2.1 hf2.2 (by decide) (by decide) HP2.out)
      iterate 2 still_step
      refine wpStill_nil ?_
      have HARR : Hid (ArrIs (wr.setCell ⟨xb, t, none⟩ (.int .i64 (cnts (usesOf f i) key + 1 + (n2 : Int)))).drew xb (cnts (usesOf f (i + 1)))) := Lib.hid (by
        have h1 := HG.out.arr.set HKEY.out.1 (1 + (n2 : Int))
        rw [show cnts (usesOf f i) key + (1 + (n2 : Int)) = cnts (usesOf f i) key + 1 + (n2 : Int) by omega] at h1
        refine ArrIs.congr (fun m k hm => h1 m k hm) (fun k => ?_)
        rw [usesOf_succ, HUSE.out]; exact cnts_snoc _ _ _ k)
      have HKX : Hid (Keep (fun k => k = xb) wr (wr.setCell ⟨xb, t, none⟩ (.int .i64 (cnts (usesOf f i) key + 1 + (n2 : Int)))).drew) := Lib.hid ((Keep.refl (fun k => k = xb) wr).setCell (p := ⟨xb, t, none⟩) _ (.inl rfl)).drew
      have HFX := Lib.hid (HG.out.fam.keepA HKX.out (fun e he => by
        have := HG.out.x1
        simp only [List.mem_cons, List.not_mem_nil, or_false] at he
        rcases he with rfl | rfl
        · exact ⟨fun e => this.1 e.symm, fun e => this.2.1 e.symm⟩
        · exact ⟨fun e => this.2.2.1 e.symm, fun e => this.2.2.2 e.symm⟩) (fun i e => by have := HG.out.x0; omega))
      go_wp2_with fail
      generalize (wr.setCell ⟨xb, t, none⟩ (.int .i64 (cnts (usesOf f i) key + 1 + (n2 : Int)))).drew = W4 at *
      clear x0 x0' x1 q2
      have c2 : ∀ p : KA (fun k => k = s1 ∨ k = b1) W4, p.val.cell? ⟨b, off + i * 3 + 2, none⟩ = some (.int .i64 (f i 2)) := fun p => p.k.cell (HFX.out.k.cell (HST.out.cell i 2 hin (by decide)) (fun h => h)) (fun e => by
        have h1 := (HFX.out.sk _ List.mem_cons_self).2
        have h2 : b < w.heap.size := World.block_lt_of_cell? _ _ (HST.out.cell i 2 hin (by decide))
        simp only [] at h1
        omega)
      refine wp_region_walk [(true, 0), (true, 2), (true, 5), (true, 6), (true, 7), (true, 8), (true, 9), (false, 1), (true, 3), (true, 4), (false, 10), (false, 11), (false, 12)] (inKA (fun k => k = s1 ∨ k = b1) W4) (by kernel_rfl) (by kernel_rfl) ?_
      iterate 7 (refine walkW_read rfl (fun K hK => ?_); go_simp; refine hK _ ?_; clear hK K)
      clear c2
      refine walkW_turn rfl (inKA.of (Keep.refl _ W4).drew) rfl (fun K hK => ?_)
      go_simp
      refine (names_any _).mono ?_
      rintro e W5 ⟨nb, rfl, hnb, k5, hc5⟩
      have HK5 : Hid (Keep (fun _ => False) W4 W5) := Lib.hid ((Keep.refl _ W4).drew.trans k5)
      have HCN := Lib.hid (And.intro hnb (hc5 t key HKEY.out.1))
      have HF5 := Lib.hid (HFX.out.keep HK5.out)
      clear hnb k5 hc5
      refine hK (inKA (fun k => k = s1 ∨ k = b1) W5) _ _ (inKA.mono (HK5.out.mono (fun _ h => h.elim))) ?_; clear hK K
      have hcn : ∀ p : KA (fun k => k = s1 ∨ k = b1) W5, p.val.cell? ⟨nb, t, none⟩ = some (.string key) := fun p => p.k.cell HCN.out.2 (fun e => by
        have h1 := (HFX.out.at_ (A := []) (B := [_])).at_.lt
        have h2 := HCN.out.1
        have h3 : W4.drew.heap.size = W4.heap.size := rfl
        simp only [] at h1
        omega)
      iterate 2 (refine walkW_read rfl (fun K hK => ?_); go_simp; refine hK _ ?_; clear hK K)
      clear hcn
      refine walkW_do rfl (inKA.of (Keep.refl _ W5)) (fun K hK => ?_)
      go_simp
      refine (pick_int (f i 2) 1000 n2 _ hf2.1 hf2.2 (by decide) (by decide) HP2.out).mono ?_
      rintro e W5' ⟨rfl, rfl⟩
      refine hK _ _ ?_; clear hK K
      have hwr2 : IntKind.i64.wrap (1 + (n2 : Int)) = 1 + (n2 : Int) := by rw [IntKind.wrap_i64]; omega
      refine walkW_do rfl (inKA.of (Keep.refl _ W5)) (fun K hK => ?_)
      go_simp
      refine hK _ _ ?_; clear hK K
      have hsA := HG.out.a.sm
      have hsB := HG.out.b.sm
      refine walkW_do rfl (inKA.of (Keep.refl _ W5)) (fun K hK => ?_)
      go_simp
      try rw [hwr2]
      refine (add_ok (HF5.out.at_ (A := []) (B := [_])) key HKEY.out.2.1 (1 + (n2 : Int)) (by omega) (by omega) (by simp only []; omega)).mono ?_
      rintro e W6 ⟨rfl, hsk, k6⟩
      have HF6 := Lib.hid (HF5.out.upd (A := []) (B := [_]) k6 hsk)
      have HK6 := Lib.hid k6
      have HAR6 := Lib.hid ((HARR.out.keep HK5.out (fun h => h)).keep k6 (fun e => by have := HG.out.x1; simp only [] at e; omega))
      clear hsk k6
      refine hK _ _ ?_; clear hK K
      refine ⟨inKA.of HK6.out, ?_⟩
      have HEA := Lib.hid (HG.out.a.add' (HF5.out.at_ (A := []) (B := [_])).ok hc10 HKEY.out.2.2 (n := 1 + (n2 : Int)) (by omega) (by omega))
      clear HK5 HK6 HCN HF5 HARR HKX HFX hwr2
      -- o := l[n-1-i]
      obtain ⟨j, hj⟩ : ∃ j, j = N - 1 - i := ⟨_, rfl⟩
      have hjz : (N : Int) - 1 - (i : Int) = (j : Int) := by omega
      have hjw : IntKind.i64.wrap ((N : Int) - 1 - (i : Int)) = (j : Int) := by rw [IntKind.wrap_i64]; omega
      have hjn : j < n := by omega
      have hjnz : (j : Int) < (n : Int) := by omega
      have hj0 : (0 : Int) ≤ (j : Int) := by omega
      have HJ := Lib.hid hj
      clear hj
      have o0 := HF6.out.k.cell (HST.out.cell j 0 hjn (by decide)) (fun h => h)
      rw [Nat.add_zero] at o0
      have o1 := HF6.out.k.cell (HST.out.cell j 1 hjn (by decide)) (fun h => h)
      have o2 := HF6.out.k.cell (HST.out.cell j 2 hjn (by decide)) (fun h => h)
      go_wp2_with fail
      obtain ⟨_, d1, d2, _⟩ := three_cell W6 (.int .i64 (f j 0)) (.int .i64 (f j 1)) (.int .i64 (f j 2)) 30
      have k7 := (Keep.refl (fun _ => False) W6).alloc (.cells #[.int .i64 (f j 0), .int .i64 (f j 1), .int .i64 (f j 2)] 30)
      have HF7 := Lib.hid (HF6.out.keep k7)
      have HAR7 := Lib.hid (HAR6.out.keep k7 (fun h => h))
      have HLT := Lib.hid (HF6.out.at_ (A := [_]) (B := [])).at_.lt
      generalize W6.alloc (.cells #[.int .i64 (f j 0), .int .i64 (f j 1), .int .i64 (f j 2)] 30) = W7 at *
      generalize hob : W6.heap.size = ob at *
      clear hob o0 o1 o2 k7 HF6 HAR6 hjw hjz hjnz hj0
      have hg1 : -9223372036854775808 ≤ f j 1 ∧ f j 1 ≤ 9223372036854775807 := ⟨HST.out.lo j 1, HST.out.hi j 1⟩
      have hg2 : -9223372036854775808 ≤ f j 2 ∧ f j 2 ≤ 9223372036854775807 := ⟨HST.out.lo j 2, HST.out.hi j 2⟩
      obtain ⟨m2, hm2, hm2l⟩ := pk_int (f j 2) 1000 (by decide)
      obtain ⟨u, hu, hul⟩ := pk_int (f j 1) 10 (by decide)
      obtain ⟨key2, hkey2, hks2, hkn2⟩ := nms_key u (by omega)
      have HUSE2 : Hid (useOf f j = (key2, 1 + (m2 : Int))) := Lib.hid (by
        unfold useOf
        rw [hm2, hu, Int.toNat_natCast, List.getD_eq_getElem?_getD, hkey2]
        rfl)
      have HQ2 := Lib.hid hm2
      have HQU := Lib.hid hu
      have HKEY2 := Lib.hid (And.intro hkey2 (And.intro hks2 hkn2))
      clear hm2 hu hkey2 hks2 hkn2
      have hu0 : (0 : Int) ≤ (u : Int) := by omega
      have c1 : ∀ p : KA (fun k => k = s2 ∨ k = b2) W7, p.val.cell? ⟨ob, 1, none⟩ = some (.int .i64 (f j 1)) := fun p => p.k.cell d1 (fun e => by have := HLT.out; simp only [] at this; omega)
      have c2 : ∀ p : KA (fun k => k = s2 ∨ k = b2) W7, p.val.cell? ⟨ob, 2, none⟩ = some (.int .i64 (f j 2)) := fun p => p.k.cell d2 (fun e => by have := HLT.out; simp only [] at this; omega)
      clear d1 d2
      refine wp_region_walk [(true, 0), (true, 2), (true, 3), (true, 7), (true, 8), (false, 1), (false, 4), (true, 5), (true, 6), (false, 9), (false, 10), (false, 11)] (inKA (fun k => k = s2 ∨ k = b2) W7) (by kernel_rfl) (by kernel_rfl) ?_
      iterate 5 (refine walkW_read rfl (fun K hK => ?_); go_simp; refine hK _ ?_; clear hK K)
      clear c1 c2
      refine walkW_turn rfl (inKA.of (Keep.refl _ W7).drew) rfl (fun K hK => ?_)
      go_simp
      refine (names_any _).mono ?_
      rintro e W8 ⟨nb2, rfl, hnb, k8, hc8⟩
      have HK8 : Hid (Keep (fun _ => False) W7 W8) := Lib.hid ((Keep.refl _ W7).drew.trans k8)
      have HCN := Lib.hid (And.intro hnb (hc8 u key2 HKEY2.out.1))
      have HF8 := Lib.hid (HF7.out.keep HK8.out)
      clear hnb k8 hc8
      refine hK (inKA (fun k => k = s2 ∨ k = b2) W8) _ _ (inKA.mono (HK8.out.mono (fun _ h => h.elim))) ?_; clear hK K
      refine walkW_do rfl (inKA.of (Keep.refl _ W8)) (fun K hK => ?_)
      go_simp
      refine (pick_int (f j 1) 10 u _ hg1.1 hg1.2 (by decide) (by decide) HQU.out).mono ?_
      rintro e W8' ⟨rfl, rfl⟩
      refine hK _ _ ?_; clear hK K
      have hcn : ∀ p : KA (fun k => k = s2 ∨ k = b2) W8, p.val.cell? ⟨nb2, u, none⟩ = some (.string key2) := fun p => p.k.cell HCN.out.2 (fun e => by
        have h1 := (HF7.out.at_ (A := [_]) (B := [])).at_.lt
        have h2 := HCN.out.1
        have h3 : W7.drew.heap.size = W7.heap.size := rfl
        simp only [] at h1
        omega)
      iterate 2 (refine walkW_read rfl (fun K hK => ?_); go_simp; refine hK _ ?_; clear hK K)
      clear hcn
      refine walkW_do rfl (inKA.of (Keep.refl _ W8)) (fun K hK => ?_)
      go_simp
      refine (pick_int (f j 2) 1000 m2 _ hg2.1 hg2.2 (by decide) (by decide) HQ2.out).mono ?_
      rintro e W8' ⟨rfl, rfl⟩
      refine hK _ _ ?_; clear hK K
      have hwr2 : IntKind.i64.wrap (1 + (m2 : Int)) = 1 + (m2 : Int) := by rw [IntKind.wrap_i64]; omega
      refine walkW_do rfl (inKA.of (Keep.refl _ W8)) (fun K hK => ?_)
      go_simp
      refine hK _ _ ?_; clear hK K
      refine walkW_do rfl (inKA.of (Keep.refl _ W8)) (fun K hK => ?_)
      go_simp
      try rw [hwr2]
      refine (add_ok (HF8.out.at_ (A := [_]) (B := [])) key2 HKEY2.out.2.1 (1 + (m2 : Int)) (by omega) (by omega) (by simp only []; omega)).mono ?_
      rintro e W9 ⟨rfl, hsk, k9⟩
      have HNX : Hid (EG w W9 s1 b1 s2 b2 (10 + kq) xb f N (i + 1) (addC (10 + kq) La key (1 + (n2 : Int))) (addC (10 + kq) Lb key2 (1 + (m2 : Int)))) := Lib.hid (by
        refine ⟨HF8.out.upd (A := [_]) (B := []) k9 hsk, HG.out.x0, HG.out.x1, (HAR7.out.keep HK8.out (fun h => h)).keep k9 (fun e => by have := HG.out.x1; simp only [] at e; omega), ?_, ?_⟩
        · refine (HEA.out.up (by simp only [Int.natCast_add]; omega)).congr (fun k => ?_)
          rw [usesOf_succ, HUSE.out]; exact cnts_snoc _ _ _ k
        · refine ((HG.out.b.add' (HF8.out.at_ (A := [_]) (B := [])).ok hc10 HKEY2.out.2.2 (n := 1 + (m2 : Int)) (by omega) (by omega)).up (by simp only [Int.natCast_add]; omega)).congr (fun k => ?_)
          rw [backOf_succ, ← HJ.out, HUSE2.out]; exact cnts_snoc _ _ _ k)
      have HK9 := Lib.hid k9
      clear hsk k9
      refine hK _ _ ?_; clear hK K
      refine ⟨inKA.of HK9.out, ?_⟩
      go_wp2_with fail
      go_roundg (N - (i + 1))
      case rel => exact ⟨i + 1, _, _, by go_num, by omega, by omega, HNX.out⟩
      case measure => omega
    · have hiz : ¬ (i : Int) < (N : Int) := by omega
      obtain rfl : i = N := by omega
      go_wp2_with fail
      go_loopg [15] 10 (fun g2 vm wr2 => ∃ m : Nat, vm = .int .i64 m ∧ m ≤ 10 ∧ 10 ≤ g2 + m ∧ EG w wr2 s1 b1 s2 b2 (10 + kq) xb f i i La Lb)
      case atStart => exact ⟨0, rfl, by omega, by omega, HG.out⟩
      case round =>
        clear HG
        obtain ⟨m, rfl, hm10, hg2, heg⟩ := hrel
        have HG := Lib.hid heg
        clear heg
        by_cases hm : m < 10
        · have hmz : (m : Int) < 10 := by omega
          have hm0 : (0 : Int) ≤ (m : Int) := by omega
          obtain ⟨key, hkey, hks, hkn⟩ := nms_key m hm
          have HKEY := Lib.hid (And.intro hkey (And.intro hks hkn))
          clear hkey hks hkn
          go_wp2_with fail
          with_reducible refine (names_any _).mono ?_
          rintro e W10 ⟨nb, rfl, hnb, k10, hc10'⟩
          have HG10 := Lib.hid (HG.out.keep k10)
          have hcn := hc10' m key HKEY.out.1
          clear hnb k10 hc10'
          go_wp2_with fail
          with_reducible refine (get_sk (HG10.out.fam.at_ (A := []) (B := [_])) key HKEY.out.2.1).mono ?_
          rintro e W11 ⟨rfl, k11⟩
          have HG11 := Lib.hid (HG10.out.keep k11)
          clear k11 hcn HG10
          have harr := HG.out.a.nn key
          rcases getV_exact HG.out.a.ex HG.out.a.nn key with ⟨hc, hv⟩ | ⟨hc, hv⟩
          · simp only [] at hv ⊢
            rw [hv]
            clear hv
            have HXA : Hid (∀ W, EG w W s1 b1 s2 b2 (10 + kq) xb f i i La Lb → W.cell? ⟨xb, m, none⟩ = some (.int .i64 (cnts (usesOf f i) key))) := Lib.hid (fun W h => (h.arr m key HKEY.out.1).1)
            generalize cnts (usesOf f i) key = cc at *
            have hbn : (cc != cc) = false := by simp
            have hbn2 : decide (0 < cc) = true := by simpa using hc
            go_wp2_with fail
            obtain ⟨e0, e1, e2, _⟩ := three_cell W11 (.string key) (.int .i64 cc) (.int .i64 0) 37
            have k12 := (Keep.refl (fun _ => False) W11).alloc (.cells #[.string key, .int .i64 cc, .int .i64 0] 37)
            have HG12 := Lib.hid (HG11.out.keep k12)
            generalize W11.alloc (.cells #[.string key, .int .i64 cc, .int .i64 0] 37) = W12 at *
            generalize W11.heap.size = cb at *
            have x0 : W12.cell? ⟨xb, m, none⟩ = some (.int .i64 cc) := HXA.out _ HG12.out
            clear e0 k12
            go_quiet (fail)
            have HG13 := Lib.hid (HG12.out.keep ((Keep.refl (fun _ => False) W12).drewN nq))
            clear x0 e1 e2
            generalize W12.drewN nq = W13 at *
            go_wp2_with fail
            go_roundg (10 - (m + 1))
            case rel => exact ⟨m + 1, by go_num, by omega, by omega, HG13.out⟩
            case measure => omega
          · simp only [] at hv ⊢
            rw [hv]
            clear hv
            have HXA : Hid (∀ W, EG w W s1 b1 s2 b2 (10 + kq) xb f i i La Lb → W.cell? ⟨xb, m, none⟩ = some (.int .i64 0)) := Lib.hid (fun W h => by have := (h.arr m key HKEY.out.1).1; rwa [hc] at this)
            clear hc harr
            go_wp2_with fail
            obtain ⟨e0, e1, e2, _⟩ := three_cell W11 (.string ⟨#[]⟩) (.int .i64 0) (.int .i64 0) 37
            have k12 := (Keep.refl (fun _ => False) W11).alloc (.cells #[.string ⟨#[]⟩, .int .i64 0, .int .i64 0] 37)
            have HG12 := Lib.hid (HG11.out.keep k12)
            generalize W11.alloc (.cells #[.string ⟨#[]⟩, .int .i64 0, .int .i64 0] 37) = W12 at *
            generalize W11.heap.size = cb at *
            have x0 : W12.cell? ⟨xb, m, none⟩ = some (.int .i64 0) := HXA.out _ HG12.out
            clear e0 k12
            go_quiet (fail)
            have HG13 := Lib.hid (HG12.out.keep ((Keep.refl (fun _ => False) W12).drewN nq))
            clear x0 e1 e2
            generalize W12.drewN nq = W13 at *
            go_wp2_with fail
            go_roundg (10 - (m + 1))
            case rel => exact ⟨m + 1, by go_num, by omega, by omega, HG13.out⟩
            case measure => omega
        · have hmz : ¬ (m : Int) < 10 := by omega
          have hE : La = Lb := HG.out.a.eq HG.out.b (HG.out.fam.at_ (A := []) (B := [_])).ok (HG.out.fam.at_ (A := [_]) (B := [])).ok (fun k => backOf_all f i k)
          subst hE
          have lA := HG.out.a.nm.len (HG.out.fam.at_ (A := []) (B := [_])).ok.keys
          have HFM := Lib.hid HG.out.fam
          clear HG
          go_wp2_with fail
          with_reducible refine (top_all (HFM.out.at_ (A := []) (B := [_])) (by simp only []; omega)).mono ?_
          rintro e W21 ⟨v1, rfl, ho1, k21⟩
          have HF2 := Lib.hid (HFM.out.keep k21)
          have HV1 := Lib.hid (CtrsAt.of_owns ho1)
          clear ho1 k21 HFM
          go_wp2_with fail
          with_reducible refine (top_all (HF2.out.at_ (A := [_]) (B := [])) (by simp only []; omega)).mono ?_
          rintro e W22 ⟨v2, rfl, ho2, k22⟩
          have HF3 := Lib.hid (HF2.out.keep k22)
          have HSA := Lib.hid (same_eq (HV1.out.keep k22 (fun _ _ h => h)) (CtrsAt.of_owns ho2) (by rw [List.length_map]; omega))
          clear ho2 k22 HF2 HV1
          go_wp2_with fail
          with_reducible refine HSA.out.mono ?_
          rintro e W23 ⟨rfl, kq', rfl⟩
          have HF4 := Lib.hid (HF3.out.drewN kq')
          clear HSA HF3
          generalize W22.drewN kq' = W23 at *
          go_wp2_with fail
          go_ret
          exact ⟨rfl, HF4.out.k⟩

theorem sketchExact_walk (k : Int) (a : Option Addr) (len cap : Nat) (w : World) (hk : -9223372036854775808 ≤ k ∧ k ≤ 9223372036854775807) (hs : IsSteps w a len) :
    Calls Try.prog 8 #[.int .i64 k, .slice a len cap] w fun e w' => e = .returned (.bool true) ∧ Below w.heap.size w w' := by
  have h : Calls Try.prog 8 #[.int .i64 k, .slice a len cap] w fun e w' => e = .returned (.bool true) ∧ Keep (fun _ => False) w w' := by
    by_cases h0 : 0 < len
    · obtain ⟨b, off, f, rfl, hst⟩ := hs.2 h0
      exact exact_go k _ b off len cap f w hk hs.1 (fun _ => rfl) hst
    · obtain rfl : len = 0 := by omega
      exact exact_go k a 0 0 0 cap (fun _ _ => 0) w hk (by omega) (fun h => by omega) ⟨fun i j h => by omega, fun _ _ => by omega, fun _ _ => by omega⟩
  exact h.mono fun _ _ ⟨h1, h2⟩ => ⟨h1, ⟨h2.os, h2.tape, h2.output, h2.size, fun i hi => h2.block i hi (fun h => h)⟩⟩
end Go.Proofs.Ytogkkghliogpeaa
