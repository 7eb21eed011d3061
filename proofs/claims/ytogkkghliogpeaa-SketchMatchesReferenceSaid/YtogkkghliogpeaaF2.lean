/-
  pick, names, sane.
-/
import Derived.Test.YtogkkghliogpeaaF1
namespace Go.Proofs.Ytogkkghliogpeaa
open Go.RowKit Go.Shelf

set_option maxHeartbeats 400000 in
theorem pick_any (c n : Int) (w : World) (h1 : -9223372036854775808 ≤ c) (h2 : c ≤ 9223372036854775807) (hn : 1 ≤ n) (hn2 : n ≤ 9223372036854775807) :
    Calls Try.prog 11 #[.int .i64 c, .int .i64 n] w fun e w' => e = .returned (.int .i64 (pk c n)) ∧ w = w' := by
  by_cases hc : c < 0
  · go_enter Try.func11, Try.ntmps11
    go_wp2
    go_ret
    refine ⟨?_, rfl⟩
    show Ending.returned (.int .i64 (-(c + 1).tmod n)) = _
    rw [pk, if_pos hc, ← Int.neg_tmod, Int.tmod_eq_emod_of_nonneg (by omega)]
  · have hc' : 0 ≤ c := by omega
    go_enter Try.func11, Try.ntmps11
    go_wp2
    go_ret
    refine ⟨?_, rfl⟩
    rw [pk, if_neg (by omega)]
    rfl
theorem pk_bd (c n : Int) (hn : 1 ≤ n) : 0 ≤ pk c n ∧ pk c n < n := by
  unfold pk
  exact ⟨Int.emod_nonneg _ (by omega), Int.emod_lt_of_pos _ (by omega)⟩
theorem pick_nat (c : Int) (n t : Nat) (w : World) (h1 : -9223372036854775808 ≤ c) (h2 : c ≤ 9223372036854775807) (hn : 1 ≤ n) (hn2 : n ≤ 100000) (ht : pk c n = t) :
    Calls Try.prog 11 #[.int .i64 c, .int .i64 n] w fun e w' => e = .returned (.int .i64 (t : Int)) ∧ w = w' := by
  rw [← ht]
  exact pick_any c n w h1 h2 (by omega) (by omega)
theorem pk_nat (c : Int) (n : Nat) (hn : 1 ≤ n) : ∃ t : Nat, pk c n = t ∧ t < n := by
  have := pk_bd c n (by omega)
  exact ⟨(pk c n).toNat, by omega, by omega⟩

/-- The ten keys. -/
def nms : List ByteArray := [⟨#[]⟩, ⟨#[97]⟩, ⟨#[98]⟩, ⟨#[99]⟩, ⟨#[100]⟩, ⟨#[101]⟩, ⟨#[102]⟩, ⟨#[103]⟩, ⟨#[104]⟩, ⟨#[105]⟩]

def NamesPost (w : World) (e : Ending) (w' : World) : Prop := ∃ b, e = .returned (.slice (some ⟨b, 0, none⟩) 10 10) ∧ w.heap.size ≤ b ∧ Keep (fun _ => False) w w' ∧ ∀ i k, nms[i]? = some k → w'.cell? ⟨b, i, none⟩ = some (.string k)

set_option maxRecDepth 100000 in
set_option maxHeartbeats 400000 in
theorem names_any (w : World) : Calls Try.prog 14 #[] w (NamesPost w) := by
  go_enter Try.func14, Try.ntmps14
  go_wp2_with fail
  go_ret
  refine ⟨w.heap.size, rfl, Nat.le_refl _, (Keep.refl _ w).alloc _, fun i k hi => ?_⟩
  have hh : (w.alloc (.cells (nms.map Value.string).toArray 9)).heap[w.heap.size]? = some (.cells (nms.map Value.string).toArray 9) := World.alloc_heap_new _ _
  change (w.alloc (.cells (nms.map Value.string).toArray 9)).cell? _ = _
  unfold World.cell?
  simp only [hh]
  simp [hi]

set_option maxRecDepth 100000 in
theorem ev1 : addC 2 [] ⟨#[97]⟩ 5 = [⟨⟨#[97]⟩, 5, 5⟩] := by kernel_rfl
set_option maxRecDepth 100000 in
theorem ev2 : addC 2 [⟨⟨#[97]⟩, 5, 5⟩] ⟨#[98]⟩ 2 = [⟨⟨#[97]⟩, 5, 5⟩, ⟨⟨#[98]⟩, 2, 2⟩] := by kernel_rfl
theorem ev3 : addC 2 [⟨⟨#[97]⟩, 5, 5⟩, ⟨⟨#[98]⟩, 2, 2⟩] ⟨#[98]⟩ 1 = [⟨⟨#[97]⟩, 5, 5⟩, ⟨⟨#[98]⟩, 3, 3⟩] := by kernel_rfl
theorem ev4 : addC 2 [⟨⟨#[97]⟩, 5, 5⟩, ⟨⟨#[98]⟩, 3, 3⟩] ⟨#[99]⟩ 1 = [⟨⟨#[97]⟩, 5, 5⟩, ⟨⟨#[99]⟩, 1, 4⟩] := by kernel_rfl
theorem ev5 : halveC [⟨⟨#[97]⟩, 5, 5⟩, ⟨⟨#[99]⟩, 1, 4⟩] = [⟨⟨#[97]⟩, 2, 3⟩, ⟨⟨#[99]⟩, 0, 2⟩] := by kernel_rfl
theorem ev6 : addC 2 [] ⟨#[100]⟩ 4 = [⟨⟨#[100]⟩, 4, 4⟩] := by kernel_rfl
theorem ev7 : mergeC 2 [⟨⟨#[97]⟩, 2, 3⟩, ⟨⟨#[99]⟩, 0, 2⟩] 2 [⟨⟨#[100]⟩, 4, 4⟩] = [⟨⟨#[100]⟩, 4, 6⟩, ⟨⟨#[97]⟩, 2, 3⟩] := by kernel_rfl

theorem sz1 (b : UInt8) : (⟨#[b]⟩ : ByteArray).size ≤ maxLen := by
  show 1 ≤ maxLen
  unfold maxLen
  omega

/-- Two sketches beside each other. -/
structure Two (w : World) (s bm cap : Nat) (L : List C) (t bm' cap' : Nat) (L' : List C) : Prop where
  a : Sk w s bm cap L
  b : Sk w t bm' cap' L'
  st : s ≠ t
  bb : bm ≠ bm'
theorem Two.sb {w : World} {s bm cap : Nat} {L : List C} {t bm' cap' : Nat} {L' : List C} (h : Two w s bm cap L t bm' cap' L') : s ≠ bm' ∧ t ≠ bm := ⟨h.b.at_.map.not_cell h.a.at_.c0, h.a.at_.map.not_cell h.b.at_.c0⟩
theorem Two.keep {w w' : World} {s bm cap : Nat} {L : List C} {t bm' cap' : Nat} {L' : List C} (h : Two w s bm cap L t bm' cap' L') (k : Keep (fun _ => False) w w') : Two w' s bm cap L t bm' cap' L' :=
  ⟨h.a.keep k (fun h => h) (fun h => h), h.b.keep k (fun h => h) (fun h => h), h.st, h.bb⟩
theorem Two.left {w w' : World} {s bm cap : Nat} {L M : List C} {t bm' cap' : Nat} {L' : List C} (h : Two w s bm cap L t bm' cap' L') (k : Keep (fun k => k = s ∨ k = bm) w w') (n : Sk w' s bm cap M) : Two w' s bm cap M t bm' cap' L' :=
  ⟨n, h.b.keep k (fun e => e.elim (fun e => h.st e.symm) h.sb.2) (fun e => e.elim (fun e => h.sb.1 e.symm) (fun e => h.bb e.symm)), h.st, h.bb⟩
theorem Two.right {w w' : World} {s bm cap : Nat} {L M : List C} {t bm' cap' : Nat} {L' : List C} (h : Two w s bm cap L t bm' cap' L') (k : Keep (fun k => k = t ∨ k = bm') w w') (n : Sk w' t bm' cap' M) : Two w' s bm cap L t bm' cap' M :=
  ⟨h.a.keep k (fun e => e.elim (fun e => h.st e) h.sb.1) (fun e => e.elim (fun e => h.sb.2 e.symm) (fun e => h.bb e)), n, h.st, h.bb⟩
theorem Two.merged {w w' : World} {s bm bn cap : Nat} {L M : List C} {t bm' cap' : Nat} {L' : List C} (h : Two w s bm cap L t bm' cap' L') (k : Keep (fun k => k = s) w w') (n : Sk w' s bn cap M) (hb : w.heap.size ≤ bn) : Two w' s bn cap M t bm' cap' L' :=
  ⟨n, h.b.keep k (fun e => h.st e.symm) (fun e => h.sb.1 e.symm), h.st, fun e => by have := h.b.at_.lt.2; omega⟩
theorem Two.swap {w : World} {s bm cap : Nat} {L : List C} {t bm' cap' : Nat} {L' : List C} (h : Two w s bm cap L t bm' cap' L') : Two w t bm' cap' L' s bm cap L := ⟨h.b, h.a, fun e => h.st e.symm, fun e => h.bb e.symm⟩

/-- Two sketches that are newer than w. -/
structure New2 (w W : World) (s bm cap : Nat) (L : List C) (t bm' cap' : Nat) (L' : List C) : Prop where
  two : Two W s bm cap L t bm' cap' L'
  k : Keep (fun _ => False) w W
  s0 : w.heap.size ≤ s
  b0 : w.heap.size ≤ bm
  t0 : w.heap.size ≤ t
  c0 : w.heap.size ≤ bm'
section
variable {w W W' : World} {s bm bn cap : Nat} {L M : List C} {t bm' cap' : Nat} {L' : List C}
theorem New2.keep (h : New2 w W s bm cap L t bm' cap' L') (k : Keep (fun _ => False) W W') : New2 w W' s bm cap L t bm' cap' L' := ⟨h.two.keep k, h.k.trans k, h.s0, h.b0, h.t0, h.c0⟩
theorem New2.drewN (h : New2 w W s bm cap L t bm' cap' L') (k : Nat) : New2 w (W.drewN k) s bm cap L t bm' cap' L' := h.keep ((Keep.refl _ W).drewN k)
theorem New2.left (h : New2 w W s bm cap L t bm' cap' L') (k : Keep (fun k => k = s ∨ k = bm) W W') (n : Sk W' s bm cap M) : New2 w W' s bm cap M t bm' cap' L' :=
  ⟨h.two.left k n, h.k.trans' k (fun i e => .inr (by have := h.s0; have := h.b0; omega)), h.s0, h.b0, h.t0, h.c0⟩
theorem New2.right (h : New2 w W s bm cap L t bm' cap' L') (k : Keep (fun k => k = t ∨ k = bm') W W') (n : Sk W' t bm' cap' M) : New2 w W' s bm cap L t bm' cap' M :=
  ⟨h.two.right k n, h.k.trans' k (fun i e => .inr (by have := h.t0; have := h.c0; omega)), h.s0, h.b0, h.t0, h.c0⟩
theorem New2.merged (h : New2 w W s bm cap L t bm' cap' L') (k : Keep (fun k => k = s) W W') (n : Sk W' s bn cap M) (hb : W.heap.size ≤ bn) : New2 w W' s bn cap M t bm' cap' L' :=
  ⟨h.two.merged k n hb, h.k.trans' k (fun i e => .inr (by have := h.s0; omega)), h.s0, Nat.le_trans h.k.size hb, h.t0, h.c0⟩
theorem New2.swap (h : New2 w W s bm cap L t bm' cap' L') : New2 w W t bm' cap' L' s bm cap L := ⟨h.two.swap, h.k, h.t0, h.c0, h.s0, h.b0⟩
end

theorem two_ctrs (W : World) (x y : K3) : CtrsAt (W.alloc (.cells #[.string x.key, .int .i64 x.n, .int .i64 x.e, .string y.key, .int .i64 y.n, .int .i64 y.e] 37)) (.slice (some ⟨W.heap.size, 0, none⟩) 2 2) [x, y] := by
  have hh : (W.alloc (.cells #[.string x.key, .int .i64 x.n, .int .i64 x.e, .string y.key, .int .i64 y.n, .int .i64 y.e] 37)).heap[W.heap.size]? = some (.cells #[.string x.key, .int .i64 x.n, .int .i64 x.e, .string y.key, .int .i64 y.n, .int .i64 y.e] 37) := World.alloc_heap_new _ _
  refine ⟨_, _, rfl, fun j z hj => ⟨_, _, rfl, ?_⟩⟩
  match j, hj with
  | 0, hj =>
    cases hj
    refine ⟨?_, ?_, ?_⟩ <;> (unfold World.cell?; simp only [hh]; rfl)
  | 1, hj =>
    cases hj
    refine ⟨?_, ?_, ?_⟩ <;> (unfold World.cell?; simp only [hh]; rfl)

set_option maxRecDepth 100000 in
set_option maxHeartbeats 2000000 in
theorem sane_any (w : World) : Calls Try.prog 10 #[] w fun e w' => e = .returned (.bool true) ∧ Keep (fun _ => False) w w' := by
  have hn2 : ∀ w, Calls Try.prog 12 #[.int .i64 2] w (NewPost 2 w) := fun w => new_ok 2 (by decide) (by decide) w
  have HN2 := Lib.hid hn2
  clear hn2
  go_enter Try.func10, Try.ntmps10
  go_wp2_with fail
  with_reducible refine (HN2.out _).mono ?_
  rintro e W1 ⟨s, bm, rfl, hs, k1, hl1, hl2⟩
  have HS := Lib.hid hs
  have HK := Lib.hid k1
  have HLE := Lib.hid (And.intro hl1 hl2)
  clear hs k1 hl1 hl2
  go_wp2_with fail
  with_reducible refine (HN2.out _).mono ?_
  rintro e W2 ⟨t, bm', rfl, ht, k2, hl3, hl4⟩
  have HT : Hid (New2 w W2 s bm 2 [] t bm' 2 []) := Lib.hid ⟨⟨HS.out.keep k2 (fun h => h) (fun h => h), ht, by have := HS.out.at_.lt.1; omega, by have := HS.out.at_.lt.2; omega⟩, HK.out.trans k2, HLE.out.1, HLE.out.2, Nat.le_trans HK.out.size hl3, Nat.le_trans HK.out.size hl4⟩
  clear ht k2 hl3 hl4 HS HK HN2 HLE
  go_wp2_with fail
  with_reducible refine (new_bad 65 (by omega) _).mono ?_
  rintro e W2' ⟨rfl, rfl⟩
  go_wp2_with fail
  with_reducible refine (add_ok HT.out.two.a ⟨#[97]⟩ (sz1 _) 5 (by omega) (by omega) (by simp [sumH])).mono ?_
  rintro e HAw ⟨rfl, hn, k⟩
  rw [ev1] at hn
  have HA := Lib.hid (HT.out.left k hn)
  clear hn k HT
  go_wp2_with fail
  with_reducible refine (add_ok HA.out.two.a ⟨#[98]⟩ (sz1 _) 2 (by omega) (by omega) (by simp [sumH])).mono ?_
  rintro e HBw ⟨rfl, hn, k⟩
  rw [ev2] at hn
  have HB := Lib.hid (HA.out.left k hn)
  clear hn k HA
  go_wp2_with fail
  with_reducible refine (add_ok HB.out.two.a ⟨#[98]⟩ (sz1 _) 1 (by omega) (by omega) (by simp [sumH])).mono ?_
  rintro e HCw ⟨rfl, hn, k⟩
  rw [ev3] at hn
  have HC := Lib.hid (HB.out.left k hn)
  clear hn k HB
  go_wp2_with fail
  with_reducible refine (top_sk HC.out.two.a (by simp) 9).mono ?_
  rintro e HDw ⟨v, rfl, hown, k⟩
  have HD := Lib.hid (HC.out.keep k)
  have HV := Lib.hid (And.intro hown k)
  clear hown k HC
  have HSA : Hid (Calls Try.prog 19 #[v, .slice (some ⟨HDw.heap.size, 0, none⟩) 2 2] (HDw.alloc (.cells #[.string ⟨#[97]⟩, .int .i64 5, .int .i64 0, .string ⟨#[98]⟩, .int .i64 3, .int .i64 0] 37)) fun e w' => e = .returned (.bool true) ∧ ∃ k, w' = (HDw.alloc (.cells #[.string ⟨#[97]⟩, .int .i64 5, .int .i64 0, .string ⟨#[98]⟩, .int .i64 3, .int .i64 0] 37)).drewN k) := Lib.hid (by
    have kal := (Keep.refl (fun _ => False) HDw).alloc (.cells #[.string ⟨#[97]⟩, .int .i64 5, .int .i64 0, .string ⟨#[98]⟩, .int .i64 3, .int .i64 0] 37)
    exact same_any v _ [⟨⟨#[97]⟩, 5, 0⟩, ⟨⟨#[98]⟩, 3, 0⟩] [⟨⟨#[97]⟩, 5, 0⟩, ⟨⟨#[98]⟩, 3, 0⟩] _ ((CtrsAt.of_owns HV.out.1).keep kal (fun _ _ h => h)) (two_ctrs HDw _ _) (by simp) (by simp))
  have HKA : Hid (Keep (fun _ => False) HDw (HDw.alloc (.cells #[.string ⟨#[97]⟩, .int .i64 5, .int .i64 0, .string ⟨#[98]⟩, .int .i64 3, .int .i64 0] 37))) := Lib.hid ((Keep.refl _ _).alloc _)
  clear HV
  go_wp2_with fail
  generalize HDw.alloc (.cells #[.string ⟨#[97]⟩, .int .i64 5, .int .i64 0, .string ⟨#[98]⟩, .int .i64 3, .int .i64 0] 37) = HDv at *
  with_reducible refine HSA.out.mono ?_
  rintro e HDu ⟨rfl, kq, rfl⟩
  have HD2 := Lib.hid ((HD.out.keep HKA.out).drewN kq)
  clear HSA HKA HD
  generalize HDv.drewN kq = HDu at *
  go_wp2_with fail
  with_reducible refine (add_ok HD2.out.two.a ⟨#[99]⟩ (sz1 _) 1 (by omega) (by omega) (by simp [sumH])).mono ?_
  rintro e HEw ⟨rfl, hn, k⟩
  rw [ev4] at hn
  have HE := Lib.hid (HD2.out.left k hn)
  clear hn k HD2
  go_wp2_with fail
  with_reducible refine (top_sk HE.out.two.a (by simp) 2).mono ?_
  rintro e HFw ⟨v, rfl, hown, k⟩
  have HF := Lib.hid (HE.out.keep k)
  have HV := Lib.hid (And.intro hown k)
  clear hown k HE
  have HSA : Hid (Calls Try.prog 19 #[v, .slice (some ⟨HFw.heap.size, 0, none⟩) 2 2] (HFw.alloc (.cells #[.string ⟨#[97]⟩, .int .i64 5, .int .i64 0, .string ⟨#[99]⟩, .int .i64 4, .int .i64 3] 37)) fun e w' => e = .returned (.bool true) ∧ ∃ k, w' = (HFw.alloc (.cells #[.string ⟨#[97]⟩, .int .i64 5, .int .i64 0, .string ⟨#[99]⟩, .int .i64 4, .int .i64 3] 37)).drewN k) := Lib.hid (by
    have kal := (Keep.refl (fun _ => False) HFw).alloc (.cells #[.string ⟨#[97]⟩, .int .i64 5, .int .i64 0, .string ⟨#[99]⟩, .int .i64 4, .int .i64 3] 37)
    exact same_any v _ [⟨⟨#[97]⟩, 5, 0⟩, ⟨⟨#[99]⟩, 4, 3⟩] [⟨⟨#[97]⟩, 5, 0⟩, ⟨⟨#[99]⟩, 4, 3⟩] _ ((CtrsAt.of_owns HV.out.1).keep kal (fun _ _ h => h)) (two_ctrs HFw _ _) (by simp) (by simp))
  have HKA : Hid (Keep (fun _ => False) HFw (HFw.alloc (.cells #[.string ⟨#[97]⟩, .int .i64 5, .int .i64 0, .string ⟨#[99]⟩, .int .i64 4, .int .i64 3] 37))) := Lib.hid ((Keep.refl _ _).alloc _)
  clear HV
  go_wp2_with fail
  generalize HFw.alloc (.cells #[.string ⟨#[97]⟩, .int .i64 5, .int .i64 0, .string ⟨#[99]⟩, .int .i64 4, .int .i64 3] 37) = HFv at *
  with_reducible refine HSA.out.mono ?_
  rintro e HFu ⟨rfl, kq, rfl⟩
  have HF2 := Lib.hid ((HF.out.keep HKA.out).drewN kq)
  clear HSA HKA HF
  generalize HFv.drewN kq = HFu at *
  go_wp2_with fail
  with_reducible refine (halve_sk HF2.out.two.a).mono ?_
  rintro e HGw ⟨rfl, hn, k⟩
  rw [ev5] at hn
  have HG := Lib.hid (HF2.out.left k hn)
  clear hn k HF2
  go_wp2_with fail
  with_reducible refine (top_sk HG.out.two.a (by simp) 2).mono ?_
  rintro e HHw ⟨v, rfl, hown, k⟩
  have HH := Lib.hid (HG.out.keep k)
  have HV := Lib.hid (And.intro hown k)
  clear hown k HG
  have HSA : Hid (Calls Try.prog 19 #[v, .slice (some ⟨HHw.heap.size, 0, none⟩) 2 2] (HHw.alloc (.cells #[.string ⟨#[97]⟩, .int .i64 3, .int .i64 1, .string ⟨#[99]⟩, .int .i64 2, .int .i64 2] 37)) fun e w' => e = .returned (.bool true) ∧ ∃ k, w' = (HHw.alloc (.cells #[.string ⟨#[97]⟩, .int .i64 3, .int .i64 1, .string ⟨#[99]⟩, .int .i64 2, .int .i64 2] 37)).drewN k) := Lib.hid (by
    have kal := (Keep.refl (fun _ => False) HHw).alloc (.cells #[.string ⟨#[97]⟩, .int .i64 3, .int .i64 1, .string ⟨#[99]⟩, .int .i64 2, .int .i64 2] 37)
    exact same_any v _ [⟨⟨#[97]⟩, 3, 1⟩, ⟨⟨#[99]⟩, 2, 2⟩] [⟨⟨#[97]⟩, 3, 1⟩, ⟨⟨#[99]⟩, 2, 2⟩] _ ((CtrsAt.of_owns HV.out.1).keep kal (fun _ _ h => h)) (two_ctrs HHw _ _) (by simp) (by simp))
  have HKA : Hid (Keep (fun _ => False) HHw (HHw.alloc (.cells #[.string ⟨#[97]⟩, .int .i64 3, .int .i64 1, .string ⟨#[99]⟩, .int .i64 2, .int .i64 2] 37))) := Lib.hid ((Keep.refl _ _).alloc _)
  clear HV
  go_wp2_with fail
  generalize HHw.alloc (.cells #[.string ⟨#[97]⟩, .int .i64 3, .int .i64 1, .string ⟨#[99]⟩, .int .i64 2, .int .i64 2] 37) = HHv at *
  with_reducible refine HSA.out.mono ?_
  rintro e HHu ⟨rfl, kq, rfl⟩
  have HH2 := Lib.hid ((HH.out.keep HKA.out).drewN kq)
  clear HSA HKA HH
  generalize HHv.drewN kq = HHu at *
  go_wp2_with fail
  with_reducible refine (add_ok HH2.out.two.b ⟨#[100]⟩ (sz1 _) 4 (by omega) (by omega) (by simp [sumH])).mono ?_
  rintro e HIw ⟨rfl, hn, k⟩
  rw [ev6] at hn
  have HI := Lib.hid (HH2.out.right k hn)
  clear hn k HH2
  go_wp2_with fail
  with_reducible refine (merge_sk HI.out.two.a HI.out.two.b HI.out.two.st HI.out.two.bb ⟨HI.out.two.a.ok, HI.out.two.b.ok, by simp [sumH], by simp [sumH], by omega, by decide⟩).mono ?_
  rintro e HJw ⟨bn, rfl, hn, k, hle⟩
  rw [ev7] at hn
  have HJ := Lib.hid (HI.out.merged k hn hle)
  clear hn k hle HI
  go_wp2_with fail
  with_reducible refine (top_sk HJ.out.two.a (by simp) 2).mono ?_
  rintro e HLw ⟨v, rfl, hown, k⟩
  have HL := Lib.hid (HJ.out.keep k)
  have HV := Lib.hid (And.intro hown k)
  clear hown k HJ
  have HSA : Hid (Calls Try.prog 19 #[v, .slice (some ⟨HLw.heap.size, 0, none⟩) 2 2] (HLw.alloc (.cells #[.string ⟨#[100]⟩, .int .i64 6, .int .i64 2, .string ⟨#[97]⟩, .int .i64 3, .int .i64 1] 37)) fun e w' => e = .returned (.bool true) ∧ ∃ k, w' = (HLw.alloc (.cells #[.string ⟨#[100]⟩, .int .i64 6, .int .i64 2, .string ⟨#[97]⟩, .int .i64 3, .int .i64 1] 37)).drewN k) := Lib.hid (by
    have kal := (Keep.refl (fun _ => False) HLw).alloc (.cells #[.string ⟨#[100]⟩, .int .i64 6, .int .i64 2, .string ⟨#[97]⟩, .int .i64 3, .int .i64 1] 37)
    exact same_any v _ [⟨⟨#[100]⟩, 6, 2⟩, ⟨⟨#[97]⟩, 3, 1⟩] [⟨⟨#[100]⟩, 6, 2⟩, ⟨⟨#[97]⟩, 3, 1⟩] _ ((CtrsAt.of_owns HV.out.1).keep kal (fun _ _ h => h)) (two_ctrs HLw _ _) (by simp) (by simp))
  have HKA : Hid (Keep (fun _ => False) HLw (HLw.alloc (.cells #[.string ⟨#[100]⟩, .int .i64 6, .int .i64 2, .string ⟨#[97]⟩, .int .i64 3, .int .i64 1] 37))) := Lib.hid ((Keep.refl _ _).alloc _)
  clear HV
  go_wp2_with fail
  generalize HLw.alloc (.cells #[.string ⟨#[100]⟩, .int .i64 6, .int .i64 2, .string ⟨#[97]⟩, .int .i64 3, .int .i64 1] 37) = HLv at *
  with_reducible refine HSA.out.mono ?_
  rintro e HLu ⟨rfl, kq, rfl⟩
  have HL2 := Lib.hid ((HL.out.keep HKA.out).drewN kq)
  clear HSA HKA HL
  generalize HLv.drewN kq = HLu at *
  go_wp2_with fail
  have HTOT : Hid (Calls Try.prog 16 #[ptr s] HLu fun e w' => e = .returned (.int .i64 9) ∧ HLu = w') := Lib.hid (total_sk HL2.out.two.a)
  with_reducible refine HTOT.out.mono ?_
  rintro e HMw ⟨rfl, rfl⟩
  clear HTOT
  go_wp2_with fail
  with_reducible refine (add_bad HL2.out.two.a ⟨#[120]⟩ 0 (by omega)).mono ?_
  rintro e HMw ⟨rfl, rfl⟩
  go_wp2_with fail
  go_ret
  exact ⟨rfl, HL2.out.k⟩
end Go.Proofs.Ytogkkghliogpeaa
