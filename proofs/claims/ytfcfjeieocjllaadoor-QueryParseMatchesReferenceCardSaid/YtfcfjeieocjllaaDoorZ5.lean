/-
  The reference's Parse.
-/
import Derived.Test.YtfcfjeieocjllaaDoorW14
import Derived.Test.YtfcfjeieocjllaaDoorZ3
namespace Go.Proofs.YtfcfjeieocjllaaDoor
open Go.RowKit Go.Shelf Go.Extern Go.Stop

/-! ## The kind that is found -/
def kAt (w : List UInt8) : Nat → Int
  | 0 => 0
  | n + 1 => if w = wordK ((n : Int) + 1) then (n : Int) + 1 else kAt w n
theorem kAt_range (w : List UInt8) : ∀ n : Nat, 0 ≤ kAt w n ∧ kAt w n ≤ n
  | 0 => ⟨Int.le_refl _, Int.le_refl _⟩
  | n + 1 => by
    have := kAt_range w n
    unfold kAt
    split <;> omega
theorem kAt_end (w : List UInt8) : kAt w 7 = (kindOf w).getD 0 := by
  have e1 : wordK (((0 : Nat) : Int) + 1) = wRow := rfl
  have e2 : wordK (((1 : Nat) : Int) + 1) = wRows := rfl
  have e3 : wordK (((2 : Nat) : Int) + 1) = wCount := rfl
  have e4 : wordK (((3 : Nat) : Int) + 1) = wSum := rfl
  have e5 : wordK (((4 : Nat) : Int) + 1) = wMin := rfl
  have e6 : wordK (((5 : Nat) : Int) + 1) = wMax := rfl
  have e7 : wordK (((6 : Nat) : Int) + 1) = wJoin := rfl
  have hu : kAt w 7 = if w = wJoin then 7 else if w = wMax then 6 else if w = wMin then 5 else if w = wSum then 4 else if w = wCount then 3 else if w = wRows then 2 else if w = wRow then 1 else 0 := by
    simp only [kAt, e1, e2, e3, e4, e5, e6, e7]
    rfl
  rw [hu]
  by_cases h1 : w = wRow
  · subst h1; rfl
  by_cases h2 : w = wRows
  · subst h2; rfl
  by_cases h3 : w = wCount
  · subst h3; rfl
  by_cases h4 : w = wSum
  · subst h4; rfl
  by_cases h5 : w = wMin
  · subst h5; rfl
  by_cases h6 : w = wMax
  · subst h6; rfl
  by_cases h7 : w = wJoin
  · subst h7; rfl
  unfold kindOf
  rw [if_neg h1, if_neg h2, if_neg h3, if_neg h4, if_neg h5, if_neg h6, if_neg h7, if_neg h1, if_neg h2, if_neg h3, if_neg h4, if_neg h5, if_neg h6, if_neg h7]
  rfl
theorem wordsR_cons (s : List UInt8) : ∃ x r, wordsR s = x :: r := by
  unfold wordsR
  cases (wFold s).1 with
  | nil => exact ⟨_, _, rfl⟩
  | cons a l => exact ⟨_, _, rfl⟩
theorem wFold_len (s : List UInt8) : ∀ a, (s.foldl wStep a).1.length ≤ a.1.length + s.length := by
  induction s with
  | nil => intro a; simp
  | cons c s ih =>
    intro a
    have h := ih (wStep a c)
    have h2 : (wStep a c).1.length ≤ a.1.length + 1 := by
      unfold wStep
      split <;> simp
    simp only [List.foldl_cons, List.length_cons]
    omega
theorem wordsR_len (s : List UInt8) : (wordsR s).length ≤ s.length + 1 := by
  have h := wFold_len s ([], [])
  unfold wordsR wFold
  simp at h ⊢
  omega
theorem list_2 {α : Type} {l : List α} (h : l.length = 2) : ∃ a0 a1, l = [a0, a1] := by
  rcases l with _ | ⟨a0, _ | ⟨a1, _ | ⟨b, r⟩⟩⟩
  all_goals first
    | exact ⟨_, _, rfl⟩
    | (simp only [List.length_cons, List.length_nil] at h; omega)
theorem list_4 {α : Type} {l : List α} (h : l.length = 4) : ∃ a0 a1 a2 a3, l = [a0, a1, a2, a3] := by
  rcases l with _ | ⟨a0, _ | ⟨a1, _ | ⟨a2, _ | ⟨a3, _ | ⟨b, r⟩⟩⟩⟩⟩
  all_goals first
    | exact ⟨_, _, _, _, rfl⟩
    | (simp only [List.length_cons, List.length_nil] at h; omega)
theorem list_6 {α : Type} {l : List α} (h : l.length = 6) : ∃ a0 a1 a2 a3 a4 a5, l = [a0, a1, a2, a3, a4, a5] := by
  rcases l with _ | ⟨a0, _ | ⟨a1, _ | ⟨a2, _ | ⟨a3, _ | ⟨a4, _ | ⟨a5, _ | ⟨b, r⟩⟩⟩⟩⟩⟩⟩
  all_goals first
    | exact ⟨_, _, _, _, _, _, rfl⟩
    | (simp only [List.length_cons, List.length_nil] at h; omega)
theorem list_8 {α : Type} {l : List α} (h : l.length = 8) : ∃ a0 a1 a2 a3 a4 a5 a6 a7, l = [a0, a1, a2, a3, a4, a5, a6, a7] := by
  rcases l with _ | ⟨a0, _ | ⟨a1, _ | ⟨a2, _ | ⟨a3, _ | ⟨a4, _ | ⟨a5, _ | ⟨a6, _ | ⟨a7, _ | ⟨b, r⟩⟩⟩⟩⟩⟩⟩⟩⟩
  all_goals first
    | exact ⟨_, _, _, _, _, _, _, _, rfl⟩
    | (simp only [List.length_cons, List.length_nil] at h; omega)
theorem refQ_1 {x0 x1 x2 : List UInt8} (h : (kindOf x0).getD 0 = 1) : refQ [x0, x1, x2] = some ⟨1, rdL x1, 0, rdL x2, rdL x2, 0, 0⟩ := by
  unfold refQ
  simp [h]
theorem refQ_1_no {x0 : List UInt8} {r : List (List UInt8)} (h : (kindOf x0).getD 0 = 1) (hn : ¬ (x0 :: r).length = 3) : refQ (x0 :: r) = none := by
  unfold refQ
  simp only [List.getD_cons_zero, h]
  rw [if_neg hn]
theorem refQ_2 {x0 x1 x2 x3 x4 : List UInt8} (h : (kindOf x0).getD 0 = 2) : refQ [x0, x1, x2, x3, x4] = some ⟨2, rdL x1, rdL x2, rdL x3, rdL x4, 0, 0⟩ := by
  unfold refQ
  simp [h]
theorem refQ_2_no {x0 : List UInt8} {r : List (List UInt8)} (h : (kindOf x0).getD 0 = 2) (hn : ¬ (x0 :: r).length = 5) : refQ (x0 :: r) = none := by
  unfold refQ
  simp only [List.getD_cons_zero, h]
  rw [if_neg hn]
theorem refQ_3 {x0 x1 x2 x3 x4 : List UInt8} (h : (kindOf x0).getD 0 = 3) : refQ [x0, x1, x2, x3, x4] = some ⟨3, rdL x1, rdL x2, rdL x3, rdL x4, 0, 0⟩ := by
  unfold refQ
  simp [h]
theorem refQ_3_no {x0 : List UInt8} {r : List (List UInt8)} (h : (kindOf x0).getD 0 = 3) (hn : ¬ (x0 :: r).length = 5) : refQ (x0 :: r) = none := by
  unfold refQ
  simp only [List.getD_cons_zero, h]
  rw [if_neg hn]
theorem refQ_4 {x0 x1 x2 x3 x4 x5 x6 : List UInt8} (h : (kindOf x0).getD 0 = 4) : refQ [x0, x1, x2, x3, x4, x5, x6] = some ⟨4, rdL x3, rdL x4, rdL x5, rdL x6, rdL x1, 0⟩ := by
  unfold refQ
  simp [h]
theorem refQ_4_no {x0 : List UInt8} {r : List (List UInt8)} (h : (kindOf x0).getD 0 = 4) (hn : ¬ (x0 :: r).length = 7) : refQ (x0 :: r) = none := by
  unfold refQ
  simp only [List.getD_cons_zero, h]
  rw [if_neg hn]
theorem refQ_5 {x0 x1 x2 x3 x4 x5 x6 : List UInt8} (h : (kindOf x0).getD 0 = 5) : refQ [x0, x1, x2, x3, x4, x5, x6] = some ⟨5, rdL x3, rdL x4, rdL x5, rdL x6, rdL x1, 0⟩ := by
  unfold refQ
  simp [h]
theorem refQ_5_no {x0 : List UInt8} {r : List (List UInt8)} (h : (kindOf x0).getD 0 = 5) (hn : ¬ (x0 :: r).length = 7) : refQ (x0 :: r) = none := by
  unfold refQ
  simp only [List.getD_cons_zero, h]
  rw [if_neg hn]
theorem refQ_6 {x0 x1 x2 x3 x4 x5 x6 : List UInt8} (h : (kindOf x0).getD 0 = 6) : refQ [x0, x1, x2, x3, x4, x5, x6] = some ⟨6, rdL x3, rdL x4, rdL x5, rdL x6, rdL x1, 0⟩ := by
  unfold refQ
  simp [h]
theorem refQ_6_no {x0 : List UInt8} {r : List (List UInt8)} (h : (kindOf x0).getD 0 = 6) (hn : ¬ (x0 :: r).length = 7) : refQ (x0 :: r) = none := by
  unfold refQ
  simp only [List.getD_cons_zero, h]
  rw [if_neg hn]
theorem refQ_7 {x0 x1 x2 x3 x4 x5 x6 x7 x8 : List UInt8} (h : (kindOf x0).getD 0 = 7) : refQ [x0, x1, x2, x3, x4, x5, x6, x7, x8] = some ⟨7, rdL x5, rdL x6, rdL x7, rdL x8, rdL x1, rdL x3⟩ := by
  unfold refQ
  simp [h]
theorem refQ_7_no {x0 : List UInt8} {r : List (List UInt8)} (h : (kindOf x0).getD 0 = 7) (hn : ¬ (x0 :: r).length = 9) : refQ (x0 :: r) = none := by
  unfold refQ
  simp only [List.getD_cons_zero, h]
  rw [if_neg hn]
theorem refQ_0_no {x0 : List UInt8} {r : List (List UInt8)} (h : (kindOf x0).getD 0 = 0) : refQ (x0 :: r) = none := by
  unfold refQ
  simp [h]
theorem refS_of {s : List UInt8} (h : s.length ≤ 100) : refS s = match refQ (wordsR s) with | some q => if q.ok ∧ lineL q = s then some q else none | none => none := by
  unfold refS
  rw [if_neg (by omega)]
  cases refQ (wordsR s) <;> rfl

/-! ## Words in a slice -/
def WC (g off : Nat) (l : List (List UInt8)) (W : World) : Prop := ∀ j x, l[j]? = some x → W.cell? ⟨g, off + j, none⟩ = some (.string (bs x))
theorem WC.keep {A : Nat → Prop} {g off : Nat} {l : List (List UInt8)} {W W' : World} (h : WC g off l W) (k : Keep A W W') (hA : ¬ A g) : WC g off l W' := fun j x hj => k.cell (h j x hj) hA
theorem wds_wc {W : World} {v : Value} {x : List UInt8} {r : List (List UInt8)} (h : Wds W v ((x :: r).map bs)) : ∃ c g off, v = .slice (some ⟨g, off, none⟩) (x :: r).length c ∧ (x :: r).length ≤ c ∧ WC g off (x :: r) W ∧ g < W.heap.size := by
  obtain ⟨hl, a, c, g, off, h1, h2, h3, h4⟩ := h
  rw [List.length_map] at h1 h2 h3 hl
  have h5 := h3 (by simp)
  subst h5
  have hwc : WC g off (x :: r) W := fun j y hj => h4 j (bs y) (by rw [List.getElem?_map, hj]; rfl)
  exact ⟨c, g, off, h1, h2, hwc, World.block_lt_of_cell? _ _ (hwc 0 x rfl)⟩
theorem bs_eqb (a b : List UInt8) : ((bs a).toList == (bs b).toList) = decide (a = b) := by rw [str_beq, bs_list, bs_list]
set_option maxRecDepth 100000 in
set_option maxHeartbeats 40000000 in
theorem refParse_any (s : ByteArray) (w : World) (hs : s.size ≤ 1000) : Calls Tryd.prog 17 #[.string s] w (ParsePost s w) := by
  have ka : Keep (fun _ => False) w (w.alloc (.cells #[.int .i64 0, .int .i64 0, .int .i64 0, .int .i64 0, .int .i64 0, .int .i64 0, .int .i64 0] 23)) := (Keep.refl _ w).alloc _
  have HQ0 : Hid (QBox (w.alloc (.cells #[.int .i64 0, .int .i64 0, .int .i64 0, .int .i64 0, .int .i64 0, .int .i64 0, .int .i64 0] 23)) w.heap.size q0) := Lib.hid (QBox.new w q0 23)
  have HK0 := Lib.hid ka
  unfold ParsePost
  rw [← refS_eq]
  obtain ⟨pq, hpq⟩ : ∃ q, refS s.data.toList = q := ⟨_, rfl⟩
  have HPQ := Lib.hid hpq
  rw [hpq]
  have hln : s.data.toList.length = s.size := by rw [Array.length_toList, ByteArray.size_data]
  have HLN := Lib.hid hln
  clear ka hpq hln
  go_enter Tryd.func17, Tryd.ntmps17
  go_upto_region 1 with (fail)
  generalize w.alloc (.cells #[.int .i64 0, .int .i64 0, .int .i64 0, .int .i64 0, .int .i64 0, .int .i64 0, .int .i64 0] 23) = V0 at *
  obtain ⟨z2, hz2⟩ : ∃ z, w.heap.size = z := ⟨_, rfl⟩
  have HZ2 := Lib.hid hz2
  rw [hz2] at HQ0 ⊢
  clear hz2
  by_cases h100 : 100 < s.size
  · have h100i : (100 : Int) < (s.size : Int) := by omega
    have HP1 : Hid (pq = none) := Lib.hid (by rw [← HPQ.out]; unfold refS; rw [if_pos (by have := HLN.out; omega)])
    obtain ⟨d0, d1, d2, d3, d4, d5, d6⟩ := HQ0.out.cells
    have hfz := HQ0.out.2
    go_wp2_with fail
    clear d0 d1 d2 d3 d4 d5 d6 hfz
    have hput := QBox.put HQ0.out 0 0 0 0 0 0 0
    have HKE : Hid (Keep (fun _ => False) w (((((((V0.setCell ⟨z2, 0, none⟩ (.int .i64 0)).setCell ⟨z2, 1, none⟩ (.int .i64 0)).setCell ⟨z2, 2, none⟩ (.int .i64 0)).setCell ⟨z2, 3, none⟩ (.int .i64 0)).setCell ⟨z2, 4, none⟩ (.int .i64 0)).setCell ⟨z2, 5, none⟩ (.int .i64 0)).setCell ⟨z2, 6, none⟩ (.int .i64 0))) := Lib.hid (HK0.out.trans' hput.2 (fun j e => .inr (by have h5 : j = z2 := e; have := HZ2.out; omega)))
    obtain ⟨d0, d1, d2, d3, d4, d5, d6⟩ := hput.1.cells
    simp only at d0 d1 d2 d3 d4 d5 d6
    clear hput
    generalize (((((((V0.setCell ⟨z2, 0, none⟩ (.int .i64 0)).setCell ⟨z2, 1, none⟩ (.int .i64 0)).setCell ⟨z2, 2, none⟩ (.int .i64 0)).setCell ⟨z2, 3, none⟩ (.int .i64 0)).setCell ⟨z2, 4, none⟩ (.int .i64 0)).setCell ⟨z2, 5, none⟩ (.int .i64 0)).setCell ⟨z2, 6, none⟩ (.int .i64 0)) = W9 at *
    refine bodyPost_ret (v := .tuple #[qV ⟨0, 0, 0, 0, 0, 0, 0⟩, .int .i64 50]) (by simp [results, Tryd.results17, go_sem, d0, d1, d2, d3, d4, d5, d6]) rfl ?_
    exact ⟨by rw [HP1.out]; rfl, HKE.out⟩
  · have h100i : ¬ (100 : Int) < (s.size : Int) := by omega
    have h100j : (s.size : Int) ≤ 100 := by omega
    have HRS := Lib.hid (refS_of (s := s.data.toList) (by have := HLN.out; omega))
    rw [HPQ.out] at HRS
    have HWR := Lib.hid (words_ref s hs V0)
    obtain ⟨x0, r, hx⟩ := wordsR_cons s.data.toList
    rw [hx] at HWR HRS
    have HWN : Hid ((x0 :: r).length ≤ 200) := Lib.hid (by rw [← hx]; have := wordsR_len s.data.toList; have := HLN.out; omega)
    clear hx
    go_wp2_with fail
    with_reducible refine HWR.out.mono ?_
    clear HWR
    rintro e V1 ⟨v, rfl, hw, k1⟩
    obtain ⟨c, g, off, rfl, hc, hwc, hg⟩ := wds_wc hw
    have HQ1 := Lib.hid (HQ0.out.kept k1)
    have HK1 := Lib.hid (HK0.out.trans k1)
    have HWC1 := Lib.hid hwc
    obtain ⟨n, hn⟩ : ∃ n, (x0 :: r).length = n := ⟨_, rfl⟩
    have HN := Lib.hid hn
    have hn200 : n ≤ 200 := by rw [← hn]; exact HWN.out
    rw [hn] at hc ⊢
    clear hw k1 hwc HQ0 HK0 hn
    have ka : Keep (fun _ => False) V1 (V1.alloc (.cells #[.int .i64 0, .int .i64 0, .int .i64 0, .int .i64 0, .int .i64 0, .int .i64 0, .int .i64 0] 23)) := (Keep.refl _ V1).alloc _
    have HB2 : Hid (QBox (V1.alloc (.cells #[.int .i64 0, .int .i64 0, .int .i64 0, .int .i64 0, .int .i64 0, .int .i64 0, .int .i64 0] 23)) V1.heap.size q0) := Lib.hid (QBox.new V1 q0 23)
    have HQ2 := Lib.hid (HQ1.out.kept ka)
    have HK2 := Lib.hid (HK1.out.trans ka)
    have HWC2 := Lib.hid (HWC1.out.keep ka (fun h => h))
    have HZG : Hid (g ≠ V1.heap.size ∧ z2 ≠ V1.heap.size ∧ w.heap.size ≤ V1.heap.size) := Lib.hid ⟨by omega, by have := HQ1.out.lt; omega, HK1.out.size⟩
    clear ka HQ1 HK1 HWC1 hg
    go_upto_region 5 with (fail)
    generalize V1.alloc (.cells #[.int .i64 0, .int .i64 0, .int .i64 0, .int .i64 0, .int .i64 0, .int .i64 0, .int .i64 0] 23) = V2 at *
    generalize V1.heap.size = z5 at *
    go_wp2_with fail
    go_loopg [6] 7 (fun gh v wr => ∃ k : Nat, v = .int .i64 ((k : Int) + 1) ∧ k + gh = 7 ∧ QBox wr z5 ⟨kAt x0 k, 0, 0, 0, 0, 0, 0⟩ ∧ Keep (fun j => j = z5) V2 wr)
    case atStart => exact ⟨0, rfl, by omega, HB2.out, Keep.refl _ _⟩
    case round =>
      clear HB2
      obtain ⟨k, rfl, hi, hbk, hkp⟩ := hrel
      have HB := Lib.hid hbk
      have HKP := Lib.hid hkp
      have HWR := Lib.hid (HWC2.out.keep hkp (fun e => HZG.out.1 e))
      clear hbk hkp
      by_cases hlt : k < 7
      · have hk7 : (k : Int) + 1 ≤ 7 := by omega
        have hk0 : (0 : Int) ≤ (k : Int) + 1 := by omega
        have hn0 : (0 : Int) < (n : Int) := by
          have h := HN.out
          rw [List.length_cons] at h
          omega
        have hn0n : 0 < n := by omega
        have r0 : ∀ p : KW wr, p.val.cell? ⟨g, off, none⟩ = some (.string (bs x0)) := fun p => (HWR.out.keep p.k (fun h => h)) 0 x0 rfl
        have HWD : Hid (∀ W, Calls Tryd.prog 29 #[.int .i64 ((k : Int) + 1)] W fun e w' => e = .returned (.string (bs (wordK ((k : Int) + 1)))) ∧ Keep (fun _ => False) W w') := Lib.hid (word_ref _ (by omega))
        have HKS : Hid (kAt x0 (k + 1) = if x0 = wordK ((k : Int) + 1) then (k : Int) + 1 else kAt x0 k) := Lib.hid rfl
        have hbe := bs_eqb x0 (wordK ((k : Int) + 1))
        go_upto_region 8 with (fail)
        refine wp_region_quiet_kept (by kernel_rfl) (by kernel_rfl) ?_
        by_cases hx : x0 = wordK ((k : Int) + 1)
        · rw [decide_eq_true hx] at hbe
          rw [if_pos hx] at HKS
          clear hx
          generalize bs (wordK ((k : Int) + 1)) = sk at *
          generalize bs x0 = s0 at *
          repeat (quiet_step ((go_at_call 29; exact Calls.kept_of (HWD.out _))))
          refine wpQuiet_nil ?_
          rintro _ ⟨p, rfl⟩
          have HB3 := Lib.hid (HB.out.kept p.k)
          have HK3 : Hid (Keep (fun j => j = z5) V2 p.val) := Lib.hid (HKP.out.trans (p.k.mono (fun _ h => h.elim)))
          clear r0
          generalize p.val = VF at *
          obtain ⟨c0, c1, c2, c3, c4, c5, c6⟩ := HB3.out.cells
          have hfz := HB3.out.2
          go_wp2_with fail
          go_roundg (gk - 1)
          case rel => exact ⟨k + 1, by go_num, by omega, by rw [HKS.out]; exact HB3.out.set 0 (by decide) ((k : Int) + 1), HK3.out.setCell (p := ⟨z5, 0, none⟩) _ (.inl rfl)⟩
          case measure => omega
        · rw [decide_eq_false hx] at hbe
          rw [if_neg hx] at HKS
          clear hx
          generalize bs (wordK ((k : Int) + 1)) = sk at *
          generalize bs x0 = s0 at *
          repeat (quiet_step ((go_at_call 29; exact Calls.kept_of (HWD.out _))))
          refine wpQuiet_nil ?_
          rintro _ ⟨p, rfl⟩
          have HB3 := Lib.hid (HB.out.kept p.k)
          have HK3 : Hid (Keep (fun j => j = z5) V2 p.val) := Lib.hid (HKP.out.trans (p.k.mono (fun _ h => h.elim)))
          clear r0
          generalize p.val = VF at *
          go_wp2_with fail
          go_roundg (gk - 1)
          case rel => exact ⟨k + 1, by go_num, by omega, by rw [HKS.out]; exact HB3.out, HK3.out⟩
          case measure => omega
      · obtain rfl : k = 7 := by omega
        have HQ3 := Lib.hid (HQ2.out.keep HKP.out (fun e => HZG.out.2.1 e))
        have HK3 : Hid (Keep (fun _ => False) w wr) := Lib.hid (HK2.out.trans' HKP.out (fun j e => .inr (by have h5 : j = z5 := e; have := HZG.out; omega)))
        have HKD := Lib.hid (kAt_end x0)
        clear HQ2 HK2 HWC2 HKP
        have hk8 : kAt x0 7 = 0 ∨ kAt x0 7 = 1 ∨ kAt x0 7 = 2 ∨ kAt x0 7 = 3 ∨ kAt x0 7 = 4 ∨ kAt x0 7 = 5 ∨ kAt x0 7 = 6 ∨ kAt x0 7 = 7 := by
          have := kAt_range x0 7
          omega
        rcases hk8 with hk | hk | hk | hk | hk | hk | hk | hk
        · rw [hk] at HB HKD
          have HP1 : Hid (pq = none) := Lib.hid (by rw [HRS.out, refQ_0_no HKD.out.symm])
          clear hk
          obtain ⟨c0, c1, c2, c3, c4, c5, c6⟩ := HB.out.cells
          obtain ⟨d0, d1, d2, d3, d4, d5, d6⟩ := HQ3.out.cells
          have hfz := HQ3.out.2
          go_wp2_with fail
          clear d0 d1 d2 d3 d4 d5 d6 hfz
          have hput := QBox.put HQ3.out 0 0 0 0 0 0 0
          have HKE : Hid (Keep (fun _ => False) w (((((((wr.setCell ⟨z2, 0, none⟩ (.int .i64 0)).setCell ⟨z2, 1, none⟩ (.int .i64 0)).setCell ⟨z2, 2, none⟩ (.int .i64 0)).setCell ⟨z2, 3, none⟩ (.int .i64 0)).setCell ⟨z2, 4, none⟩ (.int .i64 0)).setCell ⟨z2, 5, none⟩ (.int .i64 0)).setCell ⟨z2, 6, none⟩ (.int .i64 0))) := Lib.hid (HK3.out.trans' hput.2 (fun j e => .inr (by have h5 : j = z2 := e; have := HZ2.out; omega)))
          obtain ⟨d0, d1, d2, d3, d4, d5, d6⟩ := hput.1.cells
          simp only at d0 d1 d2 d3 d4 d5 d6
          clear hput
          generalize (((((((wr.setCell ⟨z2, 0, none⟩ (.int .i64 0)).setCell ⟨z2, 1, none⟩ (.int .i64 0)).setCell ⟨z2, 2, none⟩ (.int .i64 0)).setCell ⟨z2, 3, none⟩ (.int .i64 0)).setCell ⟨z2, 4, none⟩ (.int .i64 0)).setCell ⟨z2, 5, none⟩ (.int .i64 0)).setCell ⟨z2, 6, none⟩ (.int .i64 0)) = W9 at *
          refine bodyPost_ret (v := .tuple #[qV ⟨0, 0, 0, 0, 0, 0, 0⟩, .int .i64 50]) (by simp [results, Tryd.results17, go_sem, d0, d1, d2, d3, d4, d5, d6]) rfl ?_
          exact ⟨by rw [HP1.out]; rfl, HKE.out⟩
        · rw [hk] at HB HKD
          clear hk
          by_cases hnn : n = 3
          · subst hnn
            obtain ⟨x1, x2, rfl⟩ := list_2 (l := r) (by have h := HN.out; simpa using h)
            have HRQ : Hid (pq = if Qy.ok ⟨1, rdL x1, 0, rdL x2, rdL x2, 0, 0⟩ ∧ lineL ⟨1, rdL x1, 0, rdL x2, rdL x2, 0, 0⟩ = s.data.toList then some ⟨1, rdL x1, 0, rdL x2, rdL x2, 0, 0⟩ else none) := Lib.hid (by rw [HRS.out, refQ_1 HKD.out.symm])
            have HRD : Hid (∀ (x : List UInt8) W, Calls Tryd.prog 30 #[.string (bs x)] W fun e w' => e = .returned (.int .i64 (rdL x)) ∧ w' = W) := Lib.hid (fun x W => by
              refine (read_ref (bs x) W).mono fun e w' h => ?_
              obtain ⟨h1, h2⟩ := h
              rw [bs_list] at h1
              exact ⟨h1, h2.symm⟩)
            obtain ⟨c0, c1, c2, c3, c4, c5, c6⟩ := HB.out.cells
            go_upto_region 13 with (fail)
            clear c0 c1 c2 c3 c4 c5 c6
            have r1 : ∀ p : KA (fun j => j = z5) wr, p.val.cell? ⟨g, off + 1, none⟩ = some (.string (bs x1)) := fun p => (HWR.out.keep p.k (fun e => HZG.out.1 e)) 1 x1 rfl
            have r2 : ∀ p : KA (fun j => j = z5) wr, p.val.cell? ⟨g, off + 2, none⟩ = some (.string (bs x2)) := fun p => (HWR.out.keep p.k (fun e => HZG.out.1 e)) 2 x2 rfl
            generalize hy1 : bs x1 = b1 at r1
            have HR1 : Hid (∀ W, Calls Tryd.prog 30 #[.string b1] W fun e w' => e = .returned (.int .i64 (rdL x1)) ∧ w' = W) := Lib.hid (by rw [← hy1]; exact HRD.out x1)
            clear hy1
            generalize hy2 : bs x2 = b2 at r2
            have HR2 : Hid (∀ W, Calls Tryd.prog 30 #[.string b2] W fun e w' => e = .returned (.int .i64 (rdL x2)) ∧ w' = W) := Lib.hid (by rw [← hy2]; exact HRD.out x2)
            clear hy2
            have HKD0 : Hid (Keep (fun j => j = z5) wr wr.drew) := Lib.hid (Keep.refl _ wr).drew
            have HBD0 : Hid (QBox wr.drew z5 ⟨1, 0, 0, 0, 0, 0, 0⟩) := Lib.hid (HB.out.kept (Keep.refl _ wr).drew)
            refine wp_region_walk [(true, 0), (true, 1), (true, 2), (true, 3), (true, 4), (true, 5), (true, 6), (true, 7), (true, 8), (true, 9), (true, 10), (true, 11), (true, 12), (false, 13), (false, 14), (false, 15), (false, 16), (false, 17)] (inKA (fun j => j = z5) wr) (by kernel_rfl) (by kernel_rfl) ?_
            iterate 3 (refine walkW_read rfl (fun K hK => ?_); go_simp; refine hK _ ?_; clear hK K)
            refine walkW_read rfl (fun K hK => ?_)
            go_simp
            refine ⟨_, fun p => HR1.out p.val, hK _ ?_⟩; clear hK K
            iterate 3 (refine walkW_read rfl (fun K hK => ?_); go_simp; refine hK _ ?_; clear hK K)
            refine walkW_read rfl (fun K hK => ?_)
            go_simp
            refine ⟨_, fun p => HR2.out p.val, hK _ ?_⟩; clear hK K
            iterate 3 (refine walkW_read rfl (fun K hK => ?_); go_simp; refine hK _ ?_; clear hK K)
            refine walkW_read rfl (fun K hK => ?_)
            go_simp
            refine ⟨_, fun p => HR2.out p.val, hK _ ?_⟩; clear hK K
            refine walkW_read rfl (fun K hK => ?_); go_simp; refine hK _ ?_; clear hK K
            clear r1 r2
            generalize wr.drew = D0 at *
            obtain ⟨c0, c1, c2, c3, c4, c5, c6⟩ := HBD0.out.cells
            have hfz := HBD0.out.2
            refine walkW_do rfl (inKA.of HKD0.out) (fun K hK => ?_)
            go_simp
            refine hK _ _ ?_; clear hK K
            have HBD1 : Hid (QBox (D0.setCell ⟨z5, 1, none⟩ (.int .i64 (rdL x1))) z5 ⟨1, rdL x1, 0, 0, 0, 0, 0⟩) := Lib.hid (HBD0.out.set 1 (by decide) (rdL x1))
            have HKD1 : Hid (Keep (fun j => j = z5) wr (D0.setCell ⟨z5, 1, none⟩ (.int .i64 (rdL x1)))) := Lib.hid (HKD0.out.setCell (p := ⟨z5, 1, none⟩) _ (.inl rfl))
            clear c0 c1 c2 c3 c4 c5 c6 hfz HBD0 HKD0
            generalize D0.setCell ⟨z5, 1, none⟩ (.int .i64 (rdL x1)) = D1 at *
            refine walkW_do rfl (inKA.of HKD1.out) (fun K hK => ?_)
            go_simp
            refine hK _ _ ?_; clear hK K
            obtain ⟨c0, c1, c2, c3, c4, c5, c6⟩ := HBD1.out.cells
            have hfz := HBD1.out.2
            refine walkW_do rfl (inKA.of HKD1.out) (fun K hK => ?_)
            go_simp
            refine hK _ _ ?_; clear hK K
            have HBD2 : Hid (QBox (D1.setCell ⟨z5, 3, none⟩ (.int .i64 (rdL x2))) z5 ⟨1, rdL x1, 0, rdL x2, 0, 0, 0⟩) := Lib.hid (HBD1.out.set 3 (by decide) (rdL x2))
            have HKD2 : Hid (Keep (fun j => j = z5) wr (D1.setCell ⟨z5, 3, none⟩ (.int .i64 (rdL x2)))) := Lib.hid (HKD1.out.setCell (p := ⟨z5, 3, none⟩) _ (.inl rfl))
            clear c0 c1 c2 c3 c4 c5 c6 hfz HBD1 HKD1
            generalize D1.setCell ⟨z5, 3, none⟩ (.int .i64 (rdL x2)) = D2 at *
            refine walkW_do rfl (inKA.of HKD2.out) (fun K hK => ?_)
            go_simp
            refine hK _ _ ?_; clear hK K
            obtain ⟨c0, c1, c2, c3, c4, c5, c6⟩ := HBD2.out.cells
            have hfz := HBD2.out.2
            refine walkW_do rfl (inKA.of HKD2.out) (fun K hK => ?_)
            go_simp
            refine hK _ _ ?_; clear hK K
            have HBD3 : Hid (QBox (D2.setCell ⟨z5, 4, none⟩ (.int .i64 (rdL x2))) z5 ⟨1, rdL x1, 0, rdL x2, rdL x2, 0, 0⟩) := Lib.hid (HBD2.out.set 4 (by decide) (rdL x2))
            have HKD3 : Hid (Keep (fun j => j = z5) wr (D2.setCell ⟨z5, 4, none⟩ (.int .i64 (rdL x2)))) := Lib.hid (HKD2.out.setCell (p := ⟨z5, 4, none⟩) _ (.inl rfl))
            clear c0 c1 c2 c3 c4 c5 c6 hfz HBD2 HKD2
            generalize D2.setCell ⟨z5, 4, none⟩ (.int .i64 (rdL x2)) = D3 at *
            refine ⟨inKA.of HKD3.out, ?_⟩
            have HQ4 := Lib.hid (HQ3.out.keep HKD3.out (fun e => HZG.out.2.1 e))
            have HK4 : Hid (Keep (fun _ => False) w D3) := Lib.hid (HK3.out.trans' HKD3.out (fun j e => .inr (by have h5 : j = z5 := e; have := HZG.out; omega)))
            generalize D3 = DE at *
            have HVA : Hid (∀ W, Calls Tryd.prog 15 #[qV ⟨1, rdL x1, 0, rdL x2, rdL x2, 0, 0⟩] W fun e w' => e = .returned (.bool (decide (Qy.ok ⟨1, rdL x1, 0, rdL x2, rdL x2, 0, 0⟩))) ∧ Keep (fun _ => False) W w') := Lib.hid (refValid_any ⟨1, rdL x1, 0, rdL x2, rdL x2, 0, 0⟩)
            have HLI : Hid (Qy.ok ⟨1, rdL x1, 0, rdL x2, rdL x2, 0, 0⟩ → ∀ W, Calls Tryd.prog 24 #[qV ⟨1, rdL x1, 0, rdL x2, rdL x2, 0, 0⟩] W fun e w' => e = .returned (.string (bs (lineL ⟨1, rdL x1, 0, rdL x2, rdL x2, 0, 0⟩))) ∧ Keep (fun _ => False) W w') := Lib.hid (line_ref ⟨1, rdL x1, 0, rdL x2, rdL x2, 0, 0⟩)
            clear HKD3 HK3 HQ3 HB HWR HRD
            clear HR1 HR2
            generalize rdL x1 = y1 at *
            generalize rdL x2 = y2 at *
            obtain ⟨c0, c1, c2, c3, c4, c5, c6⟩ := HBD3.out.cells
            simp only at c0 c1 c2 c3 c4 c5 c6
            go_wp2_with fail
            clear c0 c1 c2 c3 c4 c5 c6
            with_reducible refine (HVA.out _).mono ?_
            rintro e V7 ⟨rfl, k⟩
            have HB7 := Lib.hid (HBD3.out.kept k)
            have HQ7 := Lib.hid (HQ4.out.kept k)
            have HK7 := Lib.hid (HK4.out.trans k)
            clear k HVA HBD3 HQ4 HK4
            by_cases hok : Qy.ok ⟨1, y1, 0, y2, y2, 0, 0⟩
            · rw [decide_eq_true hok]
              have HL2 := Lib.hid (HLI.out hok)
              have HL3 := Lib.hid (bs_list (lineL ⟨1, y1, 0, y2, y2, 0, 0⟩))
              clear HLI
              obtain ⟨c0, c1, c2, c3, c4, c5, c6⟩ := HB7.out.cells
              simp only at c0 c1 c2 c3 c4 c5 c6
              by_cases hl : lineL ⟨1, y1, 0, y2, y2, 0, 0⟩ = s.data.toList
              · have HP1 : Hid (pq = some ⟨1, y1, 0, y2, y2, 0, 0⟩) := Lib.hid (by rw [HRQ.out, if_pos ⟨hok, hl⟩])
                have hb : ((bs (lineL ⟨1, y1, 0, y2, y2, 0, 0⟩)).toList == s.toList) = true := by rw [str_beq, HL3.out]; simpa using hl
                have hbn : ((bs (lineL ⟨1, y1, 0, y2, y2, 0, 0⟩)).toList != s.toList) = false := by rw [bne, hb]; rfl
                clear hok hl HRQ HL3
                generalize bs (lineL ⟨1, y1, 0, y2, y2, 0, 0⟩) = sl at *
                go_wp2_with fail
                clear c0 c1 c2 c3 c4 c5 c6
                with_reducible refine (HL2.out _).mono ?_
                rintro e V8 ⟨rfl, k⟩
                have HB8 := Lib.hid (HB7.out.kept k)
                have HQ8 := Lib.hid (HQ7.out.kept k)
                have HK8 := Lib.hid (HK7.out.trans k)
                clear k HL2 HB7 HQ7 HK7
                obtain ⟨c0, c1, c2, c3, c4, c5, c6⟩ := HB8.out.cells
                obtain ⟨d0, d1, d2, d3, d4, d5, d6⟩ := HQ8.out.cells
                have hfz := HQ8.out.2
                go_wp2_with fail
                clear d0 d1 d2 d3 d4 d5 d6 hfz
                have hput := QBox.put HQ8.out 1 y1 0 y2 y2 0 0
                have HKE : Hid (Keep (fun _ => False) w (((((((V8.setCell ⟨z2, 0, none⟩ (.int .i64 1)).setCell ⟨z2, 1, none⟩ (.int .i64 y1)).setCell ⟨z2, 2, none⟩ (.int .i64 0)).setCell ⟨z2, 3, none⟩ (.int .i64 y2)).setCell ⟨z2, 4, none⟩ (.int .i64 y2)).setCell ⟨z2, 5, none⟩ (.int .i64 0)).setCell ⟨z2, 6, none⟩ (.int .i64 0))) := Lib.hid (HK8.out.trans' hput.2 (fun j e => .inr (by have h5 : j = z2 := e; have := HZ2.out; omega)))
                obtain ⟨d0, d1, d2, d3, d4, d5, d6⟩ := hput.1.cells
                simp only at d0 d1 d2 d3 d4 d5 d6
                clear hput
                generalize (((((((V8.setCell ⟨z2, 0, none⟩ (.int .i64 1)).setCell ⟨z2, 1, none⟩ (.int .i64 y1)).setCell ⟨z2, 2, none⟩ (.int .i64 0)).setCell ⟨z2, 3, none⟩ (.int .i64 y2)).setCell ⟨z2, 4, none⟩ (.int .i64 y2)).setCell ⟨z2, 5, none⟩ (.int .i64 0)).setCell ⟨z2, 6, none⟩ (.int .i64 0)) = W9 at *
                refine bodyPost_ret (v := .tuple #[qV ⟨1, y1, 0, y2, y2, 0, 0⟩, .int .i64 0]) (by simp [results, Tryd.results17, go_sem, d0, d1, d2, d3, d4, d5, d6]) rfl ?_
                exact ⟨by rw [HP1.out]; rfl, HKE.out⟩
              · have HP1 : Hid (pq = none) := Lib.hid (by rw [HRQ.out, if_neg (fun h => hl h.2)])
                have hb : ((bs (lineL ⟨1, y1, 0, y2, y2, 0, 0⟩)).toList == s.toList) = false := by rw [str_beq, HL3.out]; simpa using hl
                have hbn : ((bs (lineL ⟨1, y1, 0, y2, y2, 0, 0⟩)).toList != s.toList) = true := by rw [bne, hb]; rfl
                clear hok hl HRQ HL3
                generalize bs (lineL ⟨1, y1, 0, y2, y2, 0, 0⟩) = sl at *
                go_wp2_with fail
                clear c0 c1 c2 c3 c4 c5 c6
                with_reducible refine (HL2.out _).mono ?_
                rintro e V8 ⟨rfl, k⟩
                have HB8 := Lib.hid (HB7.out.kept k)
                have HQ8 := Lib.hid (HQ7.out.kept k)
                have HK8 := Lib.hid (HK7.out.trans k)
                clear k HL2 HB7 HQ7 HK7
                obtain ⟨c0, c1, c2, c3, c4, c5, c6⟩ := HB8.out.cells
                obtain ⟨d0, d1, d2, d3, d4, d5, d6⟩ := HQ8.out.cells
                have hfz := HQ8.out.2
                go_wp2_with fail
                clear d0 d1 d2 d3 d4 d5 d6 hfz
                have hput := QBox.put HQ8.out 0 0 0 0 0 0 0
                have HKE : Hid (Keep (fun _ => False) w (((((((V8.setCell ⟨z2, 0, none⟩ (.int .i64 0)).setCell ⟨z2, 1, none⟩ (.int .i64 0)).setCell ⟨z2, 2, none⟩ (.int .i64 0)).setCell ⟨z2, 3, none⟩ (.int .i64 0)).setCell ⟨z2, 4, none⟩ (.int .i64 0)).setCell ⟨z2, 5, none⟩ (.int .i64 0)).setCell ⟨z2, 6, none⟩ (.int .i64 0))) := Lib.hid (HK8.out.trans' hput.2 (fun j e => .inr (by have h5 : j = z2 := e; have := HZ2.out; omega)))
                obtain ⟨d0, d1, d2, d3, d4, d5, d6⟩ := hput.1.cells
                simp only at d0 d1 d2 d3 d4 d5 d6
                clear hput
                generalize (((((((V8.setCell ⟨z2, 0, none⟩ (.int .i64 0)).setCell ⟨z2, 1, none⟩ (.int .i64 0)).setCell ⟨z2, 2, none⟩ (.int .i64 0)).setCell ⟨z2, 3, none⟩ (.int .i64 0)).setCell ⟨z2, 4, none⟩ (.int .i64 0)).setCell ⟨z2, 5, none⟩ (.int .i64 0)).setCell ⟨z2, 6, none⟩ (.int .i64 0)) = W9 at *
                refine bodyPost_ret (v := .tuple #[qV ⟨0, 0, 0, 0, 0, 0, 0⟩, .int .i64 50]) (by simp [results, Tryd.results17, go_sem, d0, d1, d2, d3, d4, d5, d6]) rfl ?_
                exact ⟨by rw [HP1.out]; rfl, HKE.out⟩
            · rw [decide_eq_false hok]
              have HP1 : Hid (pq = none) := Lib.hid (by rw [HRQ.out, if_neg (fun h => hok h.1)])
              clear hok HRQ HLI
              obtain ⟨c0, c1, c2, c3, c4, c5, c6⟩ := HB7.out.cells
              obtain ⟨d0, d1, d2, d3, d4, d5, d6⟩ := HQ7.out.cells
              have hfz := HQ7.out.2
              go_wp2_with fail
              clear d0 d1 d2 d3 d4 d5 d6 hfz
              have hput := QBox.put HQ7.out 0 0 0 0 0 0 0
              have HKE : Hid (Keep (fun _ => False) w (((((((V7.setCell ⟨z2, 0, none⟩ (.int .i64 0)).setCell ⟨z2, 1, none⟩ (.int .i64 0)).setCell ⟨z2, 2, none⟩ (.int .i64 0)).setCell ⟨z2, 3, none⟩ (.int .i64 0)).setCell ⟨z2, 4, none⟩ (.int .i64 0)).setCell ⟨z2, 5, none⟩ (.int .i64 0)).setCell ⟨z2, 6, none⟩ (.int .i64 0))) := Lib.hid (HK7.out.trans' hput.2 (fun j e => .inr (by have h5 : j = z2 := e; have := HZ2.out; omega)))
              obtain ⟨d0, d1, d2, d3, d4, d5, d6⟩ := hput.1.cells
              simp only at d0 d1 d2 d3 d4 d5 d6
              clear hput
              generalize (((((((V7.setCell ⟨z2, 0, none⟩ (.int .i64 0)).setCell ⟨z2, 1, none⟩ (.int .i64 0)).setCell ⟨z2, 2, none⟩ (.int .i64 0)).setCell ⟨z2, 3, none⟩ (.int .i64 0)).setCell ⟨z2, 4, none⟩ (.int .i64 0)).setCell ⟨z2, 5, none⟩ (.int .i64 0)).setCell ⟨z2, 6, none⟩ (.int .i64 0)) = W9 at *
              refine bodyPost_ret (v := .tuple #[qV ⟨0, 0, 0, 0, 0, 0, 0⟩, .int .i64 50]) (by simp [results, Tryd.results17, go_sem, d0, d1, d2, d3, d4, d5, d6]) rfl ?_
              exact ⟨by rw [HP1.out]; rfl, HKE.out⟩
          · have hnz : ¬ (n : Int) = 3 := by omega
            have HP1 : Hid (pq = none) := Lib.hid (by rw [HRS.out, refQ_1_no HKD.out.symm (by rw [HN.out]; exact hnn)])
            clear hnn
            obtain ⟨c0, c1, c2, c3, c4, c5, c6⟩ := HB.out.cells
            obtain ⟨d0, d1, d2, d3, d4, d5, d6⟩ := HQ3.out.cells
            have hfz := HQ3.out.2
            go_wp2_with fail
            clear d0 d1 d2 d3 d4 d5 d6 hfz
            have hput := QBox.put HQ3.out 0 0 0 0 0 0 0
            have HKE : Hid (Keep (fun _ => False) w (((((((wr.setCell ⟨z2, 0, none⟩ (.int .i64 0)).setCell ⟨z2, 1, none⟩ (.int .i64 0)).setCell ⟨z2, 2, none⟩ (.int .i64 0)).setCell ⟨z2, 3, none⟩ (.int .i64 0)).setCell ⟨z2, 4, none⟩ (.int .i64 0)).setCell ⟨z2, 5, none⟩ (.int .i64 0)).setCell ⟨z2, 6, none⟩ (.int .i64 0))) := Lib.hid (HK3.out.trans' hput.2 (fun j e => .inr (by have h5 : j = z2 := e; have := HZ2.out; omega)))
            obtain ⟨d0, d1, d2, d3, d4, d5, d6⟩ := hput.1.cells
            simp only at d0 d1 d2 d3 d4 d5 d6
            clear hput
            generalize (((((((wr.setCell ⟨z2, 0, none⟩ (.int .i64 0)).setCell ⟨z2, 1, none⟩ (.int .i64 0)).setCell ⟨z2, 2, none⟩ (.int .i64 0)).setCell ⟨z2, 3, none⟩ (.int .i64 0)).setCell ⟨z2, 4, none⟩ (.int .i64 0)).setCell ⟨z2, 5, none⟩ (.int .i64 0)).setCell ⟨z2, 6, none⟩ (.int .i64 0)) = W9 at *
            refine bodyPost_ret (v := .tuple #[qV ⟨0, 0, 0, 0, 0, 0, 0⟩, .int .i64 50]) (by simp [results, Tryd.results17, go_sem, d0, d1, d2, d3, d4, d5, d6]) rfl ?_
            exact ⟨by rw [HP1.out]; rfl, HKE.out⟩
        · rw [hk] at HB HKD
          clear hk
          by_cases hnn : n = 5
          · subst hnn
            obtain ⟨x1, x2, x3, x4, rfl⟩ := list_4 (l := r) (by have h := HN.out; simpa using h)
            have HRQ : Hid (pq = if Qy.ok ⟨2, rdL x1, rdL x2, rdL x3, rdL x4, 0, 0⟩ ∧ lineL ⟨2, rdL x1, rdL x2, rdL x3, rdL x4, 0, 0⟩ = s.data.toList then some ⟨2, rdL x1, rdL x2, rdL x3, rdL x4, 0, 0⟩ else none) := Lib.hid (by rw [HRS.out, refQ_2 HKD.out.symm])
            have HRD : Hid (∀ (x : List UInt8) W, Calls Tryd.prog 30 #[.string (bs x)] W fun e w' => e = .returned (.int .i64 (rdL x)) ∧ w' = W) := Lib.hid (fun x W => by
              refine (read_ref (bs x) W).mono fun e w' h => ?_
              obtain ⟨h1, h2⟩ := h
              rw [bs_list] at h1
              exact ⟨h1, h2.symm⟩)
            obtain ⟨c0, c1, c2, c3, c4, c5, c6⟩ := HB.out.cells
            go_upto_region 15 with (fail)
            clear c0 c1 c2 c3 c4 c5 c6
            have r1 : ∀ p : KA (fun j => j = z5) wr, p.val.cell? ⟨g, off + 1, none⟩ = some (.string (bs x1)) := fun p => (HWR.out.keep p.k (fun e => HZG.out.1 e)) 1 x1 rfl
            have r2 : ∀ p : KA (fun j => j = z5) wr, p.val.cell? ⟨g, off + 2, none⟩ = some (.string (bs x2)) := fun p => (HWR.out.keep p.k (fun e => HZG.out.1 e)) 2 x2 rfl
            have r3 : ∀ p : KA (fun j => j = z5) wr, p.val.cell? ⟨g, off + 3, none⟩ = some (.string (bs x3)) := fun p => (HWR.out.keep p.k (fun e => HZG.out.1 e)) 3 x3 rfl
            have r4 : ∀ p : KA (fun j => j = z5) wr, p.val.cell? ⟨g, off + 4, none⟩ = some (.string (bs x4)) := fun p => (HWR.out.keep p.k (fun e => HZG.out.1 e)) 4 x4 rfl
            generalize hy1 : bs x1 = b1 at r1
            have HR1 : Hid (∀ W, Calls Tryd.prog 30 #[.string b1] W fun e w' => e = .returned (.int .i64 (rdL x1)) ∧ w' = W) := Lib.hid (by rw [← hy1]; exact HRD.out x1)
            clear hy1
            generalize hy2 : bs x2 = b2 at r2
            have HR2 : Hid (∀ W, Calls Tryd.prog 30 #[.string b2] W fun e w' => e = .returned (.int .i64 (rdL x2)) ∧ w' = W) := Lib.hid (by rw [← hy2]; exact HRD.out x2)
            clear hy2
            generalize hy3 : bs x3 = b3 at r3
            have HR3 : Hid (∀ W, Calls Tryd.prog 30 #[.string b3] W fun e w' => e = .returned (.int .i64 (rdL x3)) ∧ w' = W) := Lib.hid (by rw [← hy3]; exact HRD.out x3)
            clear hy3
            generalize hy4 : bs x4 = b4 at r4
            have HR4 : Hid (∀ W, Calls Tryd.prog 30 #[.string b4] W fun e w' => e = .returned (.int .i64 (rdL x4)) ∧ w' = W) := Lib.hid (by rw [← hy4]; exact HRD.out x4)
            clear hy4
            have HKD0 : Hid (Keep (fun j => j = z5) wr wr.drew) := Lib.hid (Keep.refl _ wr).drew
            have HBD0 : Hid (QBox wr.drew z5 ⟨2, 0, 0, 0, 0, 0, 0⟩) := Lib.hid (HB.out.kept (Keep.refl _ wr).drew)
            refine wp_region_walk [(true, 0), (true, 1), (true, 2), (true, 3), (true, 4), (true, 5), (true, 6), (true, 7), (true, 8), (true, 9), (true, 10), (true, 11), (true, 12), (true, 13), (true, 14), (true, 15), (true, 16), (false, 17), (false, 18), (false, 19), (false, 20), (false, 21), (false, 22), (false, 23)] (inKA (fun j => j = z5) wr) (by kernel_rfl) (by kernel_rfl) ?_
            iterate 3 (refine walkW_read rfl (fun K hK => ?_); go_simp; refine hK _ ?_; clear hK K)
            refine walkW_read rfl (fun K hK => ?_)
            go_simp
            refine ⟨_, fun p => HR1.out p.val, hK _ ?_⟩; clear hK K
            iterate 3 (refine walkW_read rfl (fun K hK => ?_); go_simp; refine hK _ ?_; clear hK K)
            refine walkW_read rfl (fun K hK => ?_)
            go_simp
            refine ⟨_, fun p => HR2.out p.val, hK _ ?_⟩; clear hK K
            iterate 3 (refine walkW_read rfl (fun K hK => ?_); go_simp; refine hK _ ?_; clear hK K)
            refine walkW_read rfl (fun K hK => ?_)
            go_simp
            refine ⟨_, fun p => HR3.out p.val, hK _ ?_⟩; clear hK K
            iterate 3 (refine walkW_read rfl (fun K hK => ?_); go_simp; refine hK _ ?_; clear hK K)
            refine walkW_read rfl (fun K hK => ?_)
            go_simp
            refine ⟨_, fun p => HR4.out p.val, hK _ ?_⟩; clear hK K
            refine walkW_read rfl (fun K hK => ?_); go_simp; refine hK _ ?_; clear hK K
            clear r1 r2 r3 r4
            generalize wr.drew = D0 at *
            obtain ⟨c0, c1, c2, c3, c4, c5, c6⟩ := HBD0.out.cells
            have hfz := HBD0.out.2
            refine walkW_do rfl (inKA.of HKD0.out) (fun K hK => ?_)
            go_simp
            refine hK _ _ ?_; clear hK K
            have HBD1 : Hid (QBox (D0.setCell ⟨z5, 1, none⟩ (.int .i64 (rdL x1))) z5 ⟨2, rdL x1, 0, 0, 0, 0, 0⟩) := Lib.hid (HBD0.out.set 1 (by decide) (rdL x1))
            have HKD1 : Hid (Keep (fun j => j = z5) wr (D0.setCell ⟨z5, 1, none⟩ (.int .i64 (rdL x1)))) := Lib.hid (HKD0.out.setCell (p := ⟨z5, 1, none⟩) _ (.inl rfl))
            clear c0 c1 c2 c3 c4 c5 c6 hfz HBD0 HKD0
            generalize D0.setCell ⟨z5, 1, none⟩ (.int .i64 (rdL x1)) = D1 at *
            refine walkW_do rfl (inKA.of HKD1.out) (fun K hK => ?_)
            go_simp
            refine hK _ _ ?_; clear hK K
            obtain ⟨c0, c1, c2, c3, c4, c5, c6⟩ := HBD1.out.cells
            have hfz := HBD1.out.2
            refine walkW_do rfl (inKA.of HKD1.out) (fun K hK => ?_)
            go_simp
            refine hK _ _ ?_; clear hK K
            have HBD2 : Hid (QBox (D1.setCell ⟨z5, 2, none⟩ (.int .i64 (rdL x2))) z5 ⟨2, rdL x1, rdL x2, 0, 0, 0, 0⟩) := Lib.hid (HBD1.out.set 2 (by decide) (rdL x2))
            have HKD2 : Hid (Keep (fun j => j = z5) wr (D1.setCell ⟨z5, 2, none⟩ (.int .i64 (rdL x2)))) := Lib.hid (HKD1.out.setCell (p := ⟨z5, 2, none⟩) _ (.inl rfl))
            clear c0 c1 c2 c3 c4 c5 c6 hfz HBD1 HKD1
            generalize D1.setCell ⟨z5, 2, none⟩ (.int .i64 (rdL x2)) = D2 at *
            refine walkW_do rfl (inKA.of HKD2.out) (fun K hK => ?_)
            go_simp
            refine hK _ _ ?_; clear hK K
            obtain ⟨c0, c1, c2, c3, c4, c5, c6⟩ := HBD2.out.cells
            have hfz := HBD2.out.2
            refine walkW_do rfl (inKA.of HKD2.out) (fun K hK => ?_)
            go_simp
            refine hK _ _ ?_; clear hK K
            have HBD3 : Hid (QBox (D2.setCell ⟨z5, 3, none⟩ (.int .i64 (rdL x3))) z5 ⟨2, rdL x1, rdL x2, rdL x3, 0, 0, 0⟩) := Lib.hid (HBD2.out.set 3 (by decide) (rdL x3))
            have HKD3 : Hid (Keep (fun j => j = z5) wr (D2.setCell ⟨z5, 3, none⟩ (.int .i64 (rdL x3)))) := Lib.hid (HKD2.out.setCell (p := ⟨z5, 3, none⟩) _ (.inl rfl))
            clear c0 c1 c2 c3 c4 c5 c6 hfz HBD2 HKD2
            generalize D2.setCell ⟨z5, 3, none⟩ (.int .i64 (rdL x3)) = D3 at *
            refine walkW_do rfl (inKA.of HKD3.out) (fun K hK => ?_)
            go_simp
            refine hK _ _ ?_; clear hK K
            obtain ⟨c0, c1, c2, c3, c4, c5, c6⟩ := HBD3.out.cells
            have hfz := HBD3.out.2
            refine walkW_do rfl (inKA.of HKD3.out) (fun K hK => ?_)
            go_simp
            refine hK _ _ ?_; clear hK K
            have HBD4 : Hid (QBox (D3.setCell ⟨z5, 4, none⟩ (.int .i64 (rdL x4))) z5 ⟨2, rdL x1, rdL x2, rdL x3, rdL x4, 0, 0⟩) := Lib.hid (HBD3.out.set 4 (by decide) (rdL x4))
            have HKD4 : Hid (Keep (fun j => j = z5) wr (D3.setCell ⟨z5, 4, none⟩ (.int .i64 (rdL x4)))) := Lib.hid (HKD3.out.setCell (p := ⟨z5, 4, none⟩) _ (.inl rfl))
            clear c0 c1 c2 c3 c4 c5 c6 hfz HBD3 HKD3
            generalize D3.setCell ⟨z5, 4, none⟩ (.int .i64 (rdL x4)) = D4 at *
            refine ⟨inKA.of HKD4.out, ?_⟩
            have HQ4 := Lib.hid (HQ3.out.keep HKD4.out (fun e => HZG.out.2.1 e))
            have HK4 : Hid (Keep (fun _ => False) w D4) := Lib.hid (HK3.out.trans' HKD4.out (fun j e => .inr (by have h5 : j = z5 := e; have := HZG.out; omega)))
            generalize D4 = DE at *
            have HVA : Hid (∀ W, Calls Tryd.prog 15 #[qV ⟨2, rdL x1, rdL x2, rdL x3, rdL x4, 0, 0⟩] W fun e w' => e = .returned (.bool (decide (Qy.ok ⟨2, rdL x1, rdL x2, rdL x3, rdL x4, 0, 0⟩))) ∧ Keep (fun _ => False) W w') := Lib.hid (refValid_any ⟨2, rdL x1, rdL x2, rdL x3, rdL x4, 0, 0⟩)
            have HLI : Hid (Qy.ok ⟨2, rdL x1, rdL x2, rdL x3, rdL x4, 0, 0⟩ → ∀ W, Calls Tryd.prog 24 #[qV ⟨2, rdL x1, rdL x2, rdL x3, rdL x4, 0, 0⟩] W fun e w' => e = .returned (.string (bs (lineL ⟨2, rdL x1, rdL x2, rdL x3, rdL x4, 0, 0⟩))) ∧ Keep (fun _ => False) W w') := Lib.hid (line_ref ⟨2, rdL x1, rdL x2, rdL x3, rdL x4, 0, 0⟩)
            clear HKD4 HK3 HQ3 HB HWR HRD
            clear HR1 HR2 HR3 HR4
            generalize rdL x1 = y1 at *
            generalize rdL x2 = y2 at *
            generalize rdL x3 = y3 at *
            generalize rdL x4 = y4 at *
            obtain ⟨c0, c1, c2, c3, c4, c5, c6⟩ := HBD4.out.cells
            simp only at c0 c1 c2 c3 c4 c5 c6
            go_wp2_with fail
            clear c0 c1 c2 c3 c4 c5 c6
            with_reducible refine (HVA.out _).mono ?_
            rintro e V7 ⟨rfl, k⟩
            have HB7 := Lib.hid (HBD4.out.kept k)
            have HQ7 := Lib.hid (HQ4.out.kept k)
            have HK7 := Lib.hid (HK4.out.trans k)
            clear k HVA HBD4 HQ4 HK4
            by_cases hok : Qy.ok ⟨2, y1, y2, y3, y4, 0, 0⟩
            · rw [decide_eq_true hok]
              have HL2 := Lib.hid (HLI.out hok)
              have HL3 := Lib.hid (bs_list (lineL ⟨2, y1, y2, y3, y4, 0, 0⟩))
              clear HLI
              obtain ⟨c0, c1, c2, c3, c4, c5, c6⟩ := HB7.out.cells
              simp only at c0 c1 c2 c3 c4 c5 c6
              by_cases hl : lineL ⟨2, y1, y2, y3, y4, 0, 0⟩ = s.data.toList
              · have HP1 : Hid (pq = some ⟨2, y1, y2, y3, y4, 0, 0⟩) := Lib.hid (by rw [HRQ.out, if_pos ⟨hok, hl⟩])
                have hb : ((bs (lineL ⟨2, y1, y2, y3, y4, 0, 0⟩)).toList == s.toList) = true := by rw [str_beq, HL3.out]; simpa using hl
                have hbn : ((bs (lineL ⟨2, y1, y2, y3, y4, 0, 0⟩)).toList != s.toList) = false := by rw [bne, hb]; rfl
                clear hok hl HRQ HL3
                generalize bs (lineL ⟨2, y1, y2, y3, y4, 0, 0⟩) = sl at *
                go_wp2_with fail
                clear c0 c1 c2 c3 c4 c5 c6
                with_reducible refine (HL2.out _).mono ?_
                rintro e V8 ⟨rfl, k⟩
                have HB8 := Lib.hid (HB7.out.kept k)
                have HQ8 := Lib.hid (HQ7.out.kept k)
                have HK8 := Lib.hid (HK7.out.trans k)
                clear k HL2 HB7 HQ7 HK7
                obtain ⟨c0, c1, c2, c3, c4, c5, c6⟩ := HB8.out.cells
                obtain ⟨d0, d1, d2, d3, d4, d5, d6⟩ := HQ8.out.cells
                have hfz := HQ8.out.2
                go_wp2_with fail
                clear d0 d1 d2 d3 d4 d5 d6 hfz
                have hput := QBox.put HQ8.out 2 y1 y2 y3 y4 0 0
                have HKE : Hid (Keep (fun _ => False) w (((((((V8.setCell ⟨z2, 0, none⟩ (.int .i64 2)).setCell ⟨z2, 1, none⟩ (.int .i64 y1)).setCell ⟨z2, 2, none⟩ (.int .i64 y2)).setCell ⟨z2, 3, none⟩ (.int .i64 y3)).setCell ⟨z2, 4, none⟩ (.int .i64 y4)).setCell ⟨z2, 5, none⟩ (.int .i64 0)).setCell ⟨z2, 6, none⟩ (.int .i64 0))) := Lib.hid (HK8.out.trans' hput.2 (fun j e => .inr (by have h5 : j = z2 := e; have := HZ2.out; omega)))
                obtain ⟨d0, d1, d2, d3, d4, d5, d6⟩ := hput.1.cells
                simp only at d0 d1 d2 d3 d4 d5 d6
                clear hput
                generalize (((((((V8.setCell ⟨z2, 0, none⟩ (.int .i64 2)).setCell ⟨z2, 1, none⟩ (.int .i64 y1)).setCell ⟨z2, 2, none⟩ (.int .i64 y2)).setCell ⟨z2, 3, none⟩ (.int .i64 y3)).setCell ⟨z2, 4, none⟩ (.int .i64 y4)).setCell ⟨z2, 5, none⟩ (.int .i64 0)).setCell ⟨z2, 6, none⟩ (.int .i64 0)) = W9 at *
                refine bodyPost_ret (v := .tuple #[qV ⟨2, y1, y2, y3, y4, 0, 0⟩, .int .i64 0]) (by simp [results, Tryd.results17, go_sem, d0, d1, d2, d3, d4, d5, d6]) rfl ?_
                exact ⟨by rw [HP1.out]; rfl, HKE.out⟩
              · have HP1 : Hid (pq = none) := Lib.hid (by rw [HRQ.out, if_neg (fun h => hl h.2)])
                have hb : ((bs (lineL ⟨2, y1, y2, y3, y4, 0, 0⟩)).toList == s.toList) = false := by rw [str_beq, HL3.out]; simpa using hl
                have hbn : ((bs (lineL ⟨2, y1, y2, y3, y4, 0, 0⟩)).toList != s.toList) = true := by rw [bne, hb]; rfl
                clear hok hl HRQ HL3
                generalize bs (lineL ⟨2, y1, y2, y3, y4, 0, 0⟩) = sl at *
                go_wp2_with fail
                clear c0 c1 c2 c3 c4 c5 c6
                with_reducible refine (HL2.out _).mono ?_
                rintro e V8 ⟨rfl, k⟩
                have HB8 := Lib.hid (HB7.out.kept k)
                have HQ8 := Lib.hid (HQ7.out.kept k)
                have HK8 := Lib.hid (HK7.out.trans k)
                clear k HL2 HB7 HQ7 HK7
                obtain ⟨c0, c1, c2, c3, c4, c5, c6⟩ := HB8.out.cells
                obtain ⟨d0, d1, d2, d3, d4, d5, d6⟩ := HQ8.out.cells
                have hfz := HQ8.out.2
                go_wp2_with fail
                clear d0 d1 d2 d3 d4 d5 d6 hfz
                have hput := QBox.put HQ8.out 0 0 0 0 0 0 0
                have HKE : Hid (Keep (fun _ => False) w (((((((V8.setCell ⟨z2, 0, none⟩ (.int .i64 0)).setCell ⟨z2, 1, none⟩ (.int .i64 0)).setCell ⟨z2, 2, none⟩ (.int .i64 0)).setCell ⟨z2, 3, none⟩ (.int .i64 0)).setCell ⟨z2, 4, none⟩ (.int .i64 0)).setCell ⟨z2, 5, none⟩ (.int .i64 0)).setCell ⟨z2, 6, none⟩ (.int .i64 0))) := Lib.hid (HK8.out.trans' hput.2 (fun j e => .inr (by have h5 : j = z2 := e; have := HZ2.out; omega)))
                obtain ⟨d0, d1, d2, d3, d4, d5, d6⟩ := hput.1.cells
                simp only at d0 d1 d2 d3 d4 d5 d6
                clear hput
                generalize (((((((V8.setCell ⟨z2, 0, none⟩ (.int .i64 0)).setCell ⟨z2, 1, none⟩ (.int .i64 0)).setCell ⟨z2, 2, none⟩ (.int .i64 0)).setCell ⟨z2, 3, none⟩ (.int .i64 0)).setCell ⟨z2, 4, none⟩ (.int .i64 0)).setCell ⟨z2, 5, none⟩ (.int .i64 0)).setCell ⟨z2, 6, none⟩ (.int .i64 0)) = W9 at *
                refine bodyPost_ret (v := .tuple #[qV ⟨0, 0, 0, 0, 0, 0, 0⟩, .int .i64 50]) (by simp [results, Tryd.results17, go_sem, d0, d1, d2, d3, d4, d5, d6]) rfl ?_
                exact ⟨by rw [HP1.out]; rfl, HKE.out⟩
            · rw [decide_eq_false hok]
              have HP1 : Hid (pq = none) := Lib.hid (by rw [HRQ.out, if_neg (fun h => hok h.1)])
              clear hok HRQ HLI
              obtain ⟨c0, c1, c2, c3, c4, c5, c6⟩ := HB7.out.cells
              obtain ⟨d0, d1, d2, d3, d4, d5, d6⟩ := HQ7.out.cells
              have hfz := HQ7.out.2
              go_wp2_with fail
              clear d0 d1 d2 d3 d4 d5 d6 hfz
              have hput := QBox.put HQ7.out 0 0 0 0 0 0 0
              have HKE : Hid (Keep (fun _ => False) w (((((((V7.setCell ⟨z2, 0, none⟩ (.int .i64 0)).setCell ⟨z2, 1, none⟩ (.int .i64 0)).setCell ⟨z2, 2, none⟩ (.int .i64 0)).setCell ⟨z2, 3, none⟩ (.int .i64 0)).setCell ⟨z2, 4, none⟩ (.int .i64 0)).setCell ⟨z2, 5, none⟩ (.int .i64 0)).setCell ⟨z2, 6, none⟩ (.int .i64 0))) := Lib.hid (HK7.out.trans' hput.2 (fun j e => .inr (by have h5 : j = z2 := e; have := HZ2.out; omega)))
              obtain ⟨d0, d1, d2, d3, d4, d5, d6⟩ := hput.1.cells
              simp only at d0 d1 d2 d3 d4 d5 d6
              clear hput
              generalize (((((((V7.setCell ⟨z2, 0, none⟩ (.int .i64 0)).setCell ⟨z2, 1, none⟩ (.int .i64 0)).setCell ⟨z2, 2, none⟩ (.int .i64 0)).setCell ⟨z2, 3, none⟩ (.int .i64 0)).setCell ⟨z2, 4, none⟩ (.int .i64 0)).setCell ⟨z2, 5, none⟩ (.int .i64 0)).setCell ⟨z2, 6, none⟩ (.int .i64 0)) = W9 at *
              refine bodyPost_ret (v := .tuple #[qV ⟨0, 0, 0, 0, 0, 0, 0⟩, .int .i64 50]) (by simp [results, Tryd.results17, go_sem, d0, d1, d2, d3, d4, d5, d6]) rfl ?_
              exact ⟨by rw [HP1.out]; rfl, HKE.out⟩
          · have hnz : ¬ (n : Int) = 5 := by omega
            have HP1 : Hid (pq = none) := Lib.hid (by rw [HRS.out, refQ_2_no HKD.out.symm (by rw [HN.out]; exact hnn)])
            clear hnn
            obtain ⟨c0, c1, c2, c3, c4, c5, c6⟩ := HB.out.cells
            obtain ⟨d0, d1, d2, d3, d4, d5, d6⟩ := HQ3.out.cells
            have hfz := HQ3.out.2
            go_wp2_with fail
            clear d0 d1 d2 d3 d4 d5 d6 hfz
            have hput := QBox.put HQ3.out 0 0 0 0 0 0 0
            have HKE : Hid (Keep (fun _ => False) w (((((((wr.setCell ⟨z2, 0, none⟩ (.int .i64 0)).setCell ⟨z2, 1, none⟩ (.int .i64 0)).setCell ⟨z2, 2, none⟩ (.int .i64 0)).setCell ⟨z2, 3, none⟩ (.int .i64 0)).setCell ⟨z2, 4, none⟩ (.int .i64 0)).setCell ⟨z2, 5, none⟩ (.int .i64 0)).setCell ⟨z2, 6, none⟩ (.int .i64 0))) := Lib.hid (HK3.out.trans' hput.2 (fun j e => .inr (by have h5 : j = z2 := e; have := HZ2.out; omega)))
            obtain ⟨d0, d1, d2, d3, d4, d5, d6⟩ := hput.1.cells
            simp only at d0 d1 d2 d3 d4 d5 d6
            clear hput
            generalize (((((((wr.setCell ⟨z2, 0, none⟩ (.int .i64 0)).setCell ⟨z2, 1, none⟩ (.int .i64 0)).setCell ⟨z2, 2, none⟩ (.int .i64 0)).setCell ⟨z2, 3, none⟩ (.int .i64 0)).setCell ⟨z2, 4, none⟩ (.int .i64 0)).setCell ⟨z2, 5, none⟩ (.int .i64 0)).setCell ⟨z2, 6, none⟩ (.int .i64 0)) = W9 at *
            refine bodyPost_ret (v := .tuple #[qV ⟨0, 0, 0, 0, 0, 0, 0⟩, .int .i64 50]) (by simp [results, Tryd.results17, go_sem, d0, d1, d2, d3, d4, d5, d6]) rfl ?_
            exact ⟨by rw [HP1.out]; rfl, HKE.out⟩
        · rw [hk] at HB HKD
          clear hk
          by_cases hnn : n = 5
          · subst hnn
            obtain ⟨x1, x2, x3, x4, rfl⟩ := list_4 (l := r) (by have h := HN.out; simpa using h)
            have HRQ : Hid (pq = if Qy.ok ⟨3, rdL x1, rdL x2, rdL x3, rdL x4, 0, 0⟩ ∧ lineL ⟨3, rdL x1, rdL x2, rdL x3, rdL x4, 0, 0⟩ = s.data.toList then some ⟨3, rdL x1, rdL x2, rdL x3, rdL x4, 0, 0⟩ else none) := Lib.hid (by rw [HRS.out, refQ_3 HKD.out.symm])
            have HRD : Hid (∀ (x : List UInt8) W, Calls Tryd.prog 30 #[.string (bs x)] W fun e w' => e = .returned (.int .i64 (rdL x)) ∧ w' = W) := Lib.hid (fun x W => by
              refine (read_ref (bs x) W).mono fun e w' h => ?_
              obtain ⟨h1, h2⟩ := h
              rw [bs_list] at h1
              exact ⟨h1, h2.symm⟩)
            obtain ⟨c0, c1, c2, c3, c4, c5, c6⟩ := HB.out.cells
            go_upto_region 15 with (fail)
            clear c0 c1 c2 c3 c4 c5 c6
            have r1 : ∀ p : KA (fun j => j = z5) wr, p.val.cell? ⟨g, off + 1, none⟩ = some (.string (bs x1)) := fun p => (HWR.out.keep p.k (fun e => HZG.out.1 e)) 1 x1 rfl
            have r2 : ∀ p : KA (fun j => j = z5) wr, p.val.cell? ⟨g, off + 2, none⟩ = some (.string (bs x2)) := fun p => (HWR.out.keep p.k (fun e => HZG.out.1 e)) 2 x2 rfl
            have r3 : ∀ p : KA (fun j => j = z5) wr, p.val.cell? ⟨g, off + 3, none⟩ = some (.string (bs x3)) := fun p => (HWR.out.keep p.k (fun e => HZG.out.1 e)) 3 x3 rfl
            have r4 : ∀ p : KA (fun j => j = z5) wr, p.val.cell? ⟨g, off + 4, none⟩ = some (.string (bs x4)) := fun p => (HWR.out.keep p.k (fun e => HZG.out.1 e)) 4 x4 rfl
            generalize hy1 : bs x1 = b1 at r1
            have HR1 : Hid (∀ W, Calls Tryd.prog 30 #[.string b1] W fun e w' => e = .returned (.int .i64 (rdL x1)) ∧ w' = W) := Lib.hid (by rw [← hy1]; exact HRD.out x1)
            clear hy1
            generalize hy2 : bs x2 = b2 at r2
            have HR2 : Hid (∀ W, Calls Tryd.prog 30 #[.string b2] W fun e w' => e = .returned (.int .i64 (rdL x2)) ∧ w' = W) := Lib.hid (by rw [← hy2]; exact HRD.out x2)
            clear hy2
            generalize hy3 : bs x3 = b3 at r3
            have HR3 : Hid (∀ W, Calls Tryd.prog 30 #[.string b3] W fun e w' => e = .returned (.int .i64 (rdL x3)) ∧ w' = W) := Lib.hid (by rw [← hy3]; exact HRD.out x3)
            clear hy3
            generalize hy4 : bs x4 = b4 at r4
            have HR4 : Hid (∀ W, Calls Tryd.prog 30 #[.string b4] W fun e w' => e = .returned (.int .i64 (rdL x4)) ∧ w' = W) := Lib.hid (by rw [← hy4]; exact HRD.out x4)
            clear hy4
            have HKD0 : Hid (Keep (fun j => j = z5) wr wr.drew) := Lib.hid (Keep.refl _ wr).drew
            have HBD0 : Hid (QBox wr.drew z5 ⟨3, 0, 0, 0, 0, 0, 0⟩) := Lib.hid (HB.out.kept (Keep.refl _ wr).drew)
            refine wp_region_walk [(true, 0), (true, 1), (true, 2), (true, 3), (true, 4), (true, 5), (true, 6), (true, 7), (true, 8), (true, 9), (true, 10), (true, 11), (true, 12), (true, 13), (true, 14), (true, 15), (true, 16), (false, 17), (false, 18), (false, 19), (false, 20), (false, 21), (false, 22), (false, 23)] (inKA (fun j => j = z5) wr) (by kernel_rfl) (by kernel_rfl) ?_
            iterate 3 (refine walkW_read rfl (fun K hK => ?_); go_simp; refine hK _ ?_; clear hK K)
            refine walkW_read rfl (fun K hK => ?_)
            go_simp
            refine ⟨_, fun p => HR1.out p.val, hK _ ?_⟩; clear hK K
            iterate 3 (refine walkW_read rfl (fun K hK => ?_); go_simp; refine hK _ ?_; clear hK K)
            refine walkW_read rfl (fun K hK => ?_)
            go_simp
            refine ⟨_, fun p => HR2.out p.val, hK _ ?_⟩; clear hK K
            iterate 3 (refine walkW_read rfl (fun K hK => ?_); go_simp; refine hK _ ?_; clear hK K)
            refine walkW_read rfl (fun K hK => ?_)
            go_simp
            refine ⟨_, fun p => HR3.out p.val, hK _ ?_⟩; clear hK K
            iterate 3 (refine walkW_read rfl (fun K hK => ?_); go_simp; refine hK _ ?_; clear hK K)
            refine walkW_read rfl (fun K hK => ?_)
            go_simp
            refine ⟨_, fun p => HR4.out p.val, hK _ ?_⟩; clear hK K
            refine walkW_read rfl (fun K hK => ?_); go_simp; refine hK _ ?_; clear hK K
            clear r1 r2 r3 r4
            generalize wr.drew = D0 at *
            obtain ⟨c0, c1, c2, c3, c4, c5, c6⟩ := HBD0.out.cells
            have hfz := HBD0.out.2
            refine walkW_do rfl (inKA.of HKD0.out) (fun K hK => ?_)
            go_simp
            refine hK _ _ ?_; clear hK K
            have HBD1 : Hid (QBox (D0.setCell ⟨z5, 1, none⟩ (.int .i64 (rdL x1))) z5 ⟨3, rdL x1, 0, 0, 0, 0, 0⟩) := Lib.hid (HBD0.out.set 1 (by decide) (rdL x1))
            have HKD1 : Hid (Keep (fun j => j = z5) wr (D0.setCell ⟨z5, 1, none⟩ (.int .i64 (rdL x1)))) := Lib.hid (HKD0.out.setCell (p := ⟨z5, 1, none⟩) _ (.inl rfl))
            clear c0 c1 c2 c3 c4 c5 c6 hfz HBD0 HKD0
            generalize D0.setCell ⟨z5, 1, none⟩ (.int .i64 (rdL x1)) = D1 at *
            refine walkW_do rfl (inKA.of HKD1.out) (fun K hK => ?_)
            go_simp
            refine hK _ _ ?_; clear hK K
            obtain ⟨c0, c1, c2, c3, c4, c5, c6⟩ := HBD1.out.cells
            have hfz := HBD1.out.2
            refine walkW_do rfl (inKA.of HKD1.out) (fun K hK => ?_)
            go_simp
            refine hK _ _ ?_; clear hK K
            have HBD2 : Hid (QBox (D1.setCell ⟨z5, 2, none⟩ (.int .i64 (rdL x2))) z5 ⟨3, rdL x1, rdL x2, 0, 0, 0, 0⟩) := Lib.hid (HBD1.out.set 2 (by decide) (rdL x2))
            have HKD2 : Hid (Keep (fun j => j = z5) wr (D1.setCell ⟨z5, 2, none⟩ (.int .i64 (rdL x2)))) := Lib.hid (HKD1.out.setCell (p := ⟨z5, 2, none⟩) _ (.inl rfl))
            clear c0 c1 c2 c3 c4 c5 c6 hfz HBD1 HKD1
            generalize D1.setCell ⟨z5, 2, none⟩ (.int .i64 (rdL x2)) = D2 at *
            refine walkW_do rfl (inKA.of HKD2.out) (fun K hK => ?_)
            go_simp
            refine hK _ _ ?_; clear hK K
            obtain ⟨c0, c1, c2, c3, c4, c5, c6⟩ := HBD2.out.cells
            have hfz := HBD2.out.2
            refine walkW_do rfl (inKA.of HKD2.out) (fun K hK => ?_)
            go_simp
            refine hK _ _ ?_; clear hK K
            have HBD3 : Hid (QBox (D2.setCell ⟨z5, 3, none⟩ (.int .i64 (rdL x3))) z5 ⟨3, rdL x1, rdL x2, rdL x3, 0, 0, 0⟩) := Lib.hid (HBD2.out.set 3 (by decide) (rdL x3))
            have HKD3 : Hid (Keep (fun j => j = z5) wr (D2.setCell ⟨z5, 3, none⟩ (.int .i64 (rdL x3)))) := Lib.hid (HKD2.out.setCell (p := ⟨z5, 3, none⟩) _ (.inl rfl))
            clear c0 c1 c2 c3 c4 c5 c6 hfz HBD2 HKD2
            generalize D2.setCell ⟨z5, 3, none⟩ (.int .i64 (rdL x3)) = D3 at *
            refine walkW_do rfl (inKA.of HKD3.out) (fun K hK => ?_)
            go_simp
            refine hK _ _ ?_; clear hK K
            obtain ⟨c0, c1, c2, c3, c4, c5, c6⟩ := HBD3.out.cells
            have hfz := HBD3.out.2
            refine walkW_do rfl (inKA.of HKD3.out) (fun K hK => ?_)
            go_simp
            refine hK _ _ ?_; clear hK K
            have HBD4 : Hid (QBox (D3.setCell ⟨z5, 4, none⟩ (.int .i64 (rdL x4))) z5 ⟨3, rdL x1, rdL x2, rdL x3, rdL x4, 0, 0⟩) := Lib.hid (HBD3.out.set 4 (by decide) (rdL x4))
            have HKD4 : Hid (Keep (fun j => j = z5) wr (D3.setCell ⟨z5, 4, none⟩ (.int .i64 (rdL x4)))) := Lib.hid (HKD3.out.setCell (p := ⟨z5, 4, none⟩) _ (.inl rfl))
            clear c0 c1 c2 c3 c4 c5 c6 hfz HBD3 HKD3
            generalize D3.setCell ⟨z5, 4, none⟩ (.int .i64 (rdL x4)) = D4 at *
            refine ⟨inKA.of HKD4.out, ?_⟩
            have HQ4 := Lib.hid (HQ3.out.keep HKD4.out (fun e => HZG.out.2.1 e))
            have HK4 : Hid (Keep (fun _ => False) w D4) := Lib.hid (HK3.out.trans' HKD4.out (fun j e => .inr (by have h5 : j = z5 := e; have := HZG.out; omega)))
            generalize D4 = DE at *
            have HVA : Hid (∀ W, Calls Tryd.prog 15 #[qV ⟨3, rdL x1, rdL x2, rdL x3, rdL x4, 0, 0⟩] W fun e w' => e = .returned (.bool (decide (Qy.ok ⟨3, rdL x1, rdL x2, rdL x3, rdL x4, 0, 0⟩))) ∧ Keep (fun _ => False) W w') := Lib.hid (refValid_any ⟨3, rdL x1, rdL x2, rdL x3, rdL x4, 0, 0⟩)
            have HLI : Hid (Qy.ok ⟨3, rdL x1, rdL x2, rdL x3, rdL x4, 0, 0⟩ → ∀ W, Calls Tryd.prog 24 #[qV ⟨3, rdL x1, rdL x2, rdL x3, rdL x4, 0, 0⟩] W fun e w' => e = .returned (.string (bs (lineL ⟨3, rdL x1, rdL x2, rdL x3, rdL x4, 0, 0⟩))) ∧ Keep (fun _ => False) W w') := Lib.hid (line_ref ⟨3, rdL x1, rdL x2, rdL x3, rdL x4, 0, 0⟩)
            clear HKD4 HK3 HQ3 HB HWR HRD
            clear HR1 HR2 HR3 HR4
            generalize rdL x1 = y1 at *
            generalize rdL x2 = y2 at *
            generalize rdL x3 = y3 at *
            generalize rdL x4 = y4 at *
            obtain ⟨c0, c1, c2, c3, c4, c5, c6⟩ := HBD4.out.cells
            simp only at c0 c1 c2 c3 c4 c5 c6
            go_wp2_with fail
            clear c0 c1 c2 c3 c4 c5 c6
            with_reducible refine (HVA.out _).mono ?_
            rintro e V7 ⟨rfl, k⟩
            have HB7 := Lib.hid (HBD4.out.kept k)
            have HQ7 := Lib.hid (HQ4.out.kept k)
            have HK7 := Lib.hid (HK4.out.trans k)
            clear k HVA HBD4 HQ4 HK4
            by_cases hok : Qy.ok ⟨3, y1, y2, y3, y4, 0, 0⟩
            · rw [decide_eq_true hok]
              have HL2 := Lib.hid (HLI.out hok)
              have HL3 := Lib.hid (bs_list (lineL ⟨3, y1, y2, y3, y4, 0, 0⟩))
              clear HLI
              obtain ⟨c0, c1, c2, c3, c4, c5, c6⟩ := HB7.out.cells
              simp only at c0 c1 c2 c3 c4 c5 c6
              by_cases hl : lineL ⟨3, y1, y2, y3, y4, 0, 0⟩ = s.data.toList
              · have HP1 : Hid (pq = some ⟨3, y1, y2, y3, y4, 0, 0⟩) := Lib.hid (by rw [HRQ.out, if_pos ⟨hok, hl⟩])
                have hb : ((bs (lineL ⟨3, y1, y2, y3, y4, 0, 0⟩)).toList == s.toList) = true := by rw [str_beq, HL3.out]; simpa using hl
                have hbn : ((bs (lineL ⟨3, y1, y2, y3, y4, 0, 0⟩)).toList != s.toList) = false := by rw [bne, hb]; rfl
                clear hok hl HRQ HL3
                generalize bs (lineL ⟨3, y1, y2, y3, y4, 0, 0⟩) = sl at *
                go_wp2_with fail
                clear c0 c1 c2 c3 c4 c5 c6
                with_reducible refine (HL2.out _).mono ?_
                rintro e V8 ⟨rfl, k⟩
                have HB8 := Lib.hid (HB7.out.kept k)
                have HQ8 := Lib.hid (HQ7.out.kept k)
                have HK8 := Lib.hid (HK7.out.trans k)
                clear k HL2 HB7 HQ7 HK7
                obtain ⟨c0, c1, c2, c3, c4, c5, c6⟩ := HB8.out.cells
                obtain ⟨d0, d1, d2, d3, d4, d5, d6⟩ := HQ8.out.cells
                have hfz := HQ8.out.2
                go_wp2_with fail
                clear d0 d1 d2 d3 d4 d5 d6 hfz
                have hput := QBox.put HQ8.out 3 y1 y2 y3 y4 0 0
                have HKE : Hid (Keep (fun _ => False) w (((((((V8.setCell ⟨z2, 0, none⟩ (.int .i64 3)).setCell ⟨z2, 1, none⟩ (.int .i64 y1)).setCell ⟨z2, 2, none⟩ (.int .i64 y2)).setCell ⟨z2, 3, none⟩ (.int .i64 y3)).setCell ⟨z2, 4, none⟩ (.int .i64 y4)).setCell ⟨z2, 5, none⟩ (.int .i64 0)).setCell ⟨z2, 6, none⟩ (.int .i64 0))) := Lib.hid (HK8.out.trans' hput.2 (fun j e => .inr (by have h5 : j = z2 := e; have := HZ2.out; omega)))
                obtain ⟨d0, d1, d2, d3, d4, d5, d6⟩ := hput.1.cells
                simp only at d0 d1 d2 d3 d4 d5 d6
                clear hput
                generalize (((((((V8.setCell ⟨z2, 0, none⟩ (.int .i64 3)).setCell ⟨z2, 1, none⟩ (.int .i64 y1)).setCell ⟨z2, 2, none⟩ (.int .i64 y2)).setCell ⟨z2, 3, none⟩ (.int .i64 y3)).setCell ⟨z2, 4, none⟩ (.int .i64 y4)).setCell ⟨z2, 5, none⟩ (.int .i64 0)).setCell ⟨z2, 6, none⟩ (.int .i64 0)) = W9 at *
                refine bodyPost_ret (v := .tuple #[qV ⟨3, y1, y2, y3, y4, 0, 0⟩, .int .i64 0]) (by simp [results, Tryd.results17, go_sem, d0, d1, d2, d3, d4, d5, d6]) rfl ?_
                exact ⟨by rw [HP1.out]; rfl, HKE.out⟩
              · have HP1 : Hid (pq = none) := Lib.hid (by rw [HRQ.out, if_neg (fun h => hl h.2)])
                have hb : ((bs (lineL ⟨3, y1, y2, y3, y4, 0, 0⟩)).toList == s.toList) = false := by rw [str_beq, HL3.out]; simpa using hl
                have hbn : ((bs (lineL ⟨3, y1, y2, y3, y4, 0, 0⟩)).toList != s.toList) = true := by rw [bne, hb]; rfl
                clear hok hl HRQ HL3
                generalize bs (lineL ⟨3, y1, y2, y3, y4, 0, 0⟩) = sl at *
                go_wp2_with fail
                clear c0 c1 c2 c3 c4 c5 c6
                with_reducible refine (HL2.out _).mono ?_
                rintro e V8 ⟨rfl, k⟩
                have HB8 := Lib.hid (HB7.out.kept k)
                have HQ8 := Lib.hid (HQ7.out.kept k)
                have HK8 := Lib.hid (HK7.out.trans k)
                clear k HL2 HB7 HQ7 HK7
                obtain ⟨c0, c1, c2, c3, c4, c5, c6⟩ := HB8.out.cells
                obtain ⟨d0, d1, d2, d3, d4, d5, d6⟩ := HQ8.out.cells
                have hfz := HQ8.out.2
                go_wp2_with fail
                clear d0 d1 d2 d3 d4 d5 d6 hfz
                have hput := QBox.put HQ8.out 0 0 0 0 0 0 0
                have HKE : Hid (Keep (fun _ => False) w (((((((V8.setCell ⟨z2, 0, none⟩ (.int .i64 0)).setCell ⟨z2, 1, none⟩ (.int .i64 0)).setCell ⟨z2, 2, none⟩ (.int .i64 0)).setCell ⟨z2, 3, none⟩ (.int .i64 0)).setCell ⟨z2, 4, none⟩ (.int .i64 0)).setCell ⟨z2, 5, none⟩ (.int .i64 0)).setCell ⟨z2, 6, none⟩ (.int .i64 0))) := Lib.hid (HK8.out.trans' hput.2 (fun j e => .inr (by have h5 : j = z2 := e; have := HZ2.out; omega)))
                obtain ⟨d0, d1, d2, d3, d4, d5, d6⟩ := hput.1.cells
                simp only at d0 d1 d2 d3 d4 d5 d6
                clear hput
                generalize (((((((V8.setCell ⟨z2, 0, none⟩ (.int .i64 0)).setCell ⟨z2, 1, none⟩ (.int .i64 0)).setCell ⟨z2, 2, none⟩ (.int .i64 0)).setCell ⟨z2, 3, none⟩ (.int .i64 0)).setCell ⟨z2, 4, none⟩ (.int .i64 0)).setCell ⟨z2, 5, none⟩ (.int .i64 0)).setCell ⟨z2, 6, none⟩ (.int .i64 0)) = W9 at *
                refine bodyPost_ret (v := .tuple #[qV ⟨0, 0, 0, 0, 0, 0, 0⟩, .int .i64 50]) (by simp [results, Tryd.results17, go_sem, d0, d1, d2, d3, d4, d5, d6]) rfl ?_
                exact ⟨by rw [HP1.out]; rfl, HKE.out⟩
            · rw [decide_eq_false hok]
              have HP1 : Hid (pq = none) := Lib.hid (by rw [HRQ.out, if_neg (fun h => hok h.1)])
              clear hok HRQ HLI
              obtain ⟨c0, c1, c2, c3, c4, c5, c6⟩ := HB7.out.cells
              obtain ⟨d0, d1, d2, d3, d4, d5, d6⟩ := HQ7.out.cells
              have hfz := HQ7.out.2
              go_wp2_with fail
              clear d0 d1 d2 d3 d4 d5 d6 hfz
              have hput := QBox.put HQ7.out 0 0 0 0 0 0 0
              have HKE : Hid (Keep (fun _ => False) w (((((((V7.setCell ⟨z2, 0, none⟩ (.int .i64 0)).setCell ⟨z2, 1, none⟩ (.int .i64 0)).setCell ⟨z2, 2, none⟩ (.int .i64 0)).setCell ⟨z2, 3, none⟩ (.int .i64 0)).setCell ⟨z2, 4, none⟩ (.int .i64 0)).setCell ⟨z2, 5, none⟩ (.int .i64 0)).setCell ⟨z2, 6, none⟩ (.int .i64 0))) := Lib.hid (HK7.out.trans' hput.2 (fun j e => .inr (by have h5 : j = z2 := e; have := HZ2.out; omega)))
              obtain ⟨d0, d1, d2, d3, d4, d5, d6⟩ := hput.1.cells
              simp only at d0 d1 d2 d3 d4 d5 d6
              clear hput
              generalize (((((((V7.setCell ⟨z2, 0, none⟩ (.int .i64 0)).setCell ⟨z2, 1, none⟩ (.int .i64 0)).setCell ⟨z2, 2, none⟩ (.int .i64 0)).setCell ⟨z2, 3, none⟩ (.int .i64 0)).setCell ⟨z2, 4, none⟩ (.int .i64 0)).setCell ⟨z2, 5, none⟩ (.int .i64 0)).setCell ⟨z2, 6, none⟩ (.int .i64 0)) = W9 at *
              refine bodyPost_ret (v := .tuple #[qV ⟨0, 0, 0, 0, 0, 0, 0⟩, .int .i64 50]) (by simp [results, Tryd.results17, go_sem, d0, d1, d2, d3, d4, d5, d6]) rfl ?_
              exact ⟨by rw [HP1.out]; rfl, HKE.out⟩
          · have hnz : ¬ (n : Int) = 5 := by omega
            have HP1 : Hid (pq = none) := Lib.hid (by rw [HRS.out, refQ_3_no HKD.out.symm (by rw [HN.out]; exact hnn)])
            clear hnn
            obtain ⟨c0, c1, c2, c3, c4, c5, c6⟩ := HB.out.cells
            obtain ⟨d0, d1, d2, d3, d4, d5, d6⟩ := HQ3.out.cells
            have hfz := HQ3.out.2
            go_wp2_with fail
            clear d0 d1 d2 d3 d4 d5 d6 hfz
            have hput := QBox.put HQ3.out 0 0 0 0 0 0 0
            have HKE : Hid (Keep (fun _ => False) w (((((((wr.setCell ⟨z2, 0, none⟩ (.int .i64 0)).setCell ⟨z2, 1, none⟩ (.int .i64 0)).setCell ⟨z2, 2, none⟩ (.int .i64 0)).setCell ⟨z2, 3, none⟩ (.int .i64 0)).setCell ⟨z2, 4, none⟩ (.int .i64 0)).setCell ⟨z2, 5, none⟩ (.int .i64 0)).setCell ⟨z2, 6, none⟩ (.int .i64 0))) := Lib.hid (HK3.out.trans' hput.2 (fun j e => .inr (by have h5 : j = z2 := e; have := HZ2.out; omega)))
            obtain ⟨d0, d1, d2, d3, d4, d5, d6⟩ := hput.1.cells
            simp only at d0 d1 d2 d3 d4 d5 d6
            clear hput
            generalize (((((((wr.setCell ⟨z2, 0, none⟩ (.int .i64 0)).setCell ⟨z2, 1, none⟩ (.int .i64 0)).setCell ⟨z2, 2, none⟩ (.int .i64 0)).setCell ⟨z2, 3, none⟩ (.int .i64 0)).setCell ⟨z2, 4, none⟩ (.int .i64 0)).setCell ⟨z2, 5, none⟩ (.int .i64 0)).setCell ⟨z2, 6, none⟩ (.int .i64 0)) = W9 at *
            refine bodyPost_ret (v := .tuple #[qV ⟨0, 0, 0, 0, 0, 0, 0⟩, .int .i64 50]) (by simp [results, Tryd.results17, go_sem, d0, d1, d2, d3, d4, d5, d6]) rfl ?_
            exact ⟨by rw [HP1.out]; rfl, HKE.out⟩
        · rw [hk] at HB HKD
          clear hk
          by_cases hnn : n = 7
          · subst hnn
            obtain ⟨x1, x2, x3, x4, x5, x6, rfl⟩ := list_6 (l := r) (by have h := HN.out; simpa using h)
            have HRQ : Hid (pq = if Qy.ok ⟨4, rdL x3, rdL x4, rdL x5, rdL x6, rdL x1, 0⟩ ∧ lineL ⟨4, rdL x3, rdL x4, rdL x5, rdL x6, rdL x1, 0⟩ = s.data.toList then some ⟨4, rdL x3, rdL x4, rdL x5, rdL x6, rdL x1, 0⟩ else none) := Lib.hid (by rw [HRS.out, refQ_4 HKD.out.symm])
            have HRD : Hid (∀ (x : List UInt8) W, Calls Tryd.prog 30 #[.string (bs x)] W fun e w' => e = .returned (.int .i64 (rdL x)) ∧ w' = W) := Lib.hid (fun x W => by
              refine (read_ref (bs x) W).mono fun e w' h => ?_
              obtain ⟨h1, h2⟩ := h
              rw [bs_list] at h1
              exact ⟨h1, h2.symm⟩)
            obtain ⟨c0, c1, c2, c3, c4, c5, c6⟩ := HB.out.cells
            go_upto_region 17 with (fail)
            clear c0 c1 c2 c3 c4 c5 c6
            have r1 : ∀ p : KA (fun j => j = z5) wr, p.val.cell? ⟨g, off + 1, none⟩ = some (.string (bs x1)) := fun p => (HWR.out.keep p.k (fun e => HZG.out.1 e)) 1 x1 rfl
            have r3 : ∀ p : KA (fun j => j = z5) wr, p.val.cell? ⟨g, off + 3, none⟩ = some (.string (bs x3)) := fun p => (HWR.out.keep p.k (fun e => HZG.out.1 e)) 3 x3 rfl
            have r4 : ∀ p : KA (fun j => j = z5) wr, p.val.cell? ⟨g, off + 4, none⟩ = some (.string (bs x4)) := fun p => (HWR.out.keep p.k (fun e => HZG.out.1 e)) 4 x4 rfl
            have r5 : ∀ p : KA (fun j => j = z5) wr, p.val.cell? ⟨g, off + 5, none⟩ = some (.string (bs x5)) := fun p => (HWR.out.keep p.k (fun e => HZG.out.1 e)) 5 x5 rfl
            have r6 : ∀ p : KA (fun j => j = z5) wr, p.val.cell? ⟨g, off + 6, none⟩ = some (.string (bs x6)) := fun p => (HWR.out.keep p.k (fun e => HZG.out.1 e)) 6 x6 rfl
            generalize hy1 : bs x1 = b1 at r1
            have HR1 : Hid (∀ W, Calls Tryd.prog 30 #[.string b1] W fun e w' => e = .returned (.int .i64 (rdL x1)) ∧ w' = W) := Lib.hid (by rw [← hy1]; exact HRD.out x1)
            clear hy1
            generalize hy3 : bs x3 = b3 at r3
            have HR3 : Hid (∀ W, Calls Tryd.prog 30 #[.string b3] W fun e w' => e = .returned (.int .i64 (rdL x3)) ∧ w' = W) := Lib.hid (by rw [← hy3]; exact HRD.out x3)
            clear hy3
            generalize hy4 : bs x4 = b4 at r4
            have HR4 : Hid (∀ W, Calls Tryd.prog 30 #[.string b4] W fun e w' => e = .returned (.int .i64 (rdL x4)) ∧ w' = W) := Lib.hid (by rw [← hy4]; exact HRD.out x4)
            clear hy4
            generalize hy5 : bs x5 = b5 at r5
            have HR5 : Hid (∀ W, Calls Tryd.prog 30 #[.string b5] W fun e w' => e = .returned (.int .i64 (rdL x5)) ∧ w' = W) := Lib.hid (by rw [← hy5]; exact HRD.out x5)
            clear hy5
            generalize hy6 : bs x6 = b6 at r6
            have HR6 : Hid (∀ W, Calls Tryd.prog 30 #[.string b6] W fun e w' => e = .returned (.int .i64 (rdL x6)) ∧ w' = W) := Lib.hid (by rw [← hy6]; exact HRD.out x6)
            clear hy6
            have HKD0 : Hid (Keep (fun j => j = z5) wr wr.drew) := Lib.hid (Keep.refl _ wr).drew
            have HBD0 : Hid (QBox wr.drew z5 ⟨4, 0, 0, 0, 0, 0, 0⟩) := Lib.hid (HB.out.kept (Keep.refl _ wr).drew)
            refine wp_region_walk [(true, 0), (true, 1), (true, 2), (true, 3), (true, 4), (true, 5), (true, 6), (true, 7), (true, 8), (true, 9), (true, 10), (true, 11), (true, 12), (true, 13), (true, 14), (true, 15), (true, 16), (true, 17), (true, 18), (true, 19), (true, 20), (false, 21), (false, 22), (false, 23), (false, 24), (false, 25), (false, 26), (false, 27), (false, 28), (false, 29)] (inKA (fun j => j = z5) wr) (by kernel_rfl) (by kernel_rfl) ?_
            iterate 3 (refine walkW_read rfl (fun K hK => ?_); go_simp; refine hK _ ?_; clear hK K)
            refine walkW_read rfl (fun K hK => ?_)
            go_simp
            refine ⟨_, fun p => HR1.out p.val, hK _ ?_⟩; clear hK K
            iterate 3 (refine walkW_read rfl (fun K hK => ?_); go_simp; refine hK _ ?_; clear hK K)
            refine walkW_read rfl (fun K hK => ?_)
            go_simp
            refine ⟨_, fun p => HR3.out p.val, hK _ ?_⟩; clear hK K
            iterate 3 (refine walkW_read rfl (fun K hK => ?_); go_simp; refine hK _ ?_; clear hK K)
            refine walkW_read rfl (fun K hK => ?_)
            go_simp
            refine ⟨_, fun p => HR4.out p.val, hK _ ?_⟩; clear hK K
            iterate 3 (refine walkW_read rfl (fun K hK => ?_); go_simp; refine hK _ ?_; clear hK K)
            refine walkW_read rfl (fun K hK => ?_)
            go_simp
            refine ⟨_, fun p => HR5.out p.val, hK _ ?_⟩; clear hK K
            iterate 3 (refine walkW_read rfl (fun K hK => ?_); go_simp; refine hK _ ?_; clear hK K)
            refine walkW_read rfl (fun K hK => ?_)
            go_simp
            refine ⟨_, fun p => HR6.out p.val, hK _ ?_⟩; clear hK K
            refine walkW_read rfl (fun K hK => ?_); go_simp; refine hK _ ?_; clear hK K
            clear r1 r3 r4 r5 r6
            generalize wr.drew = D0 at *
            obtain ⟨c0, c1, c2, c3, c4, c5, c6⟩ := HBD0.out.cells
            have hfz := HBD0.out.2
            refine walkW_do rfl (inKA.of HKD0.out) (fun K hK => ?_)
            go_simp
            refine hK _ _ ?_; clear hK K
            have HBD1 : Hid (QBox (D0.setCell ⟨z5, 5, none⟩ (.int .i64 (rdL x1))) z5 ⟨4, 0, 0, 0, 0, rdL x1, 0⟩) := Lib.hid (HBD0.out.set 5 (by decide) (rdL x1))
            have HKD1 : Hid (Keep (fun j => j = z5) wr (D0.setCell ⟨z5, 5, none⟩ (.int .i64 (rdL x1)))) := Lib.hid (HKD0.out.setCell (p := ⟨z5, 5, none⟩) _ (.inl rfl))
            clear c0 c1 c2 c3 c4 c5 c6 hfz HBD0 HKD0
            generalize D0.setCell ⟨z5, 5, none⟩ (.int .i64 (rdL x1)) = D1 at *
            refine walkW_do rfl (inKA.of HKD1.out) (fun K hK => ?_)
            go_simp
            refine hK _ _ ?_; clear hK K
            obtain ⟨c0, c1, c2, c3, c4, c5, c6⟩ := HBD1.out.cells
            have hfz := HBD1.out.2
            refine walkW_do rfl (inKA.of HKD1.out) (fun K hK => ?_)
            go_simp
            refine hK _ _ ?_; clear hK K
            have HBD2 : Hid (QBox (D1.setCell ⟨z5, 1, none⟩ (.int .i64 (rdL x3))) z5 ⟨4, rdL x3, 0, 0, 0, rdL x1, 0⟩) := Lib.hid (HBD1.out.set 1 (by decide) (rdL x3))
            have HKD2 : Hid (Keep (fun j => j = z5) wr (D1.setCell ⟨z5, 1, none⟩ (.int .i64 (rdL x3)))) := Lib.hid (HKD1.out.setCell (p := ⟨z5, 1, none⟩) _ (.inl rfl))
            clear c0 c1 c2 c3 c4 c5 c6 hfz HBD1 HKD1
            generalize D1.setCell ⟨z5, 1, none⟩ (.int .i64 (rdL x3)) = D2 at *
            refine walkW_do rfl (inKA.of HKD2.out) (fun K hK => ?_)
            go_simp
            refine hK _ _ ?_; clear hK K
            obtain ⟨c0, c1, c2, c3, c4, c5, c6⟩ := HBD2.out.cells
            have hfz := HBD2.out.2
            refine walkW_do rfl (inKA.of HKD2.out) (fun K hK => ?_)
            go_simp
            refine hK _ _ ?_; clear hK K
            have HBD3 : Hid (QBox (D2.setCell ⟨z5, 2, none⟩ (.int .i64 (rdL x4))) z5 ⟨4, rdL x3, rdL x4, 0, 0, rdL x1, 0⟩) := Lib.hid (HBD2.out.set 2 (by decide) (rdL x4))
            have HKD3 : Hid (Keep (fun j => j = z5) wr (D2.setCell ⟨z5, 2, none⟩ (.int .i64 (rdL x4)))) := Lib.hid (HKD2.out.setCell (p := ⟨z5, 2, none⟩) _ (.inl rfl))
            clear c0 c1 c2 c3 c4 c5 c6 hfz HBD2 HKD2
            generalize D2.setCell ⟨z5, 2, none⟩ (.int .i64 (rdL x4)) = D3 at *
            refine walkW_do rfl (inKA.of HKD3.out) (fun K hK => ?_)
            go_simp
            refine hK _ _ ?_; clear hK K
            obtain ⟨c0, c1, c2, c3, c4, c5, c6⟩ := HBD3.out.cells
            have hfz := HBD3.out.2
            refine walkW_do rfl (inKA.of HKD3.out) (fun K hK => ?_)
            go_simp
            refine hK _ _ ?_; clear hK K
            have HBD4 : Hid (QBox (D3.setCell ⟨z5, 3, none⟩ (.int .i64 (rdL x5))) z5 ⟨4, rdL x3, rdL x4, rdL x5, 0, rdL x1, 0⟩) := Lib.hid (HBD3.out.set 3 (by decide) (rdL x5))
            have HKD4 : Hid (Keep (fun j => j = z5) wr (D3.setCell ⟨z5, 3, none⟩ (.int .i64 (rdL x5)))) := Lib.hid (HKD3.out.setCell (p := ⟨z5, 3, none⟩) _ (.inl rfl))
            clear c0 c1 c2 c3 c4 c5 c6 hfz HBD3 HKD3
            generalize D3.setCell ⟨z5, 3, none⟩ (.int .i64 (rdL x5)) = D4 at *
            refine walkW_do rfl (inKA.of HKD4.out) (fun K hK => ?_)
            go_simp
            refine hK _ _ ?_; clear hK K
            obtain ⟨c0, c1, c2, c3, c4, c5, c6⟩ := HBD4.out.cells
            have hfz := HBD4.out.2
            refine walkW_do rfl (inKA.of HKD4.out) (fun K hK => ?_)
            go_simp
            refine hK _ _ ?_; clear hK K
            have HBD5 : Hid (QBox (D4.setCell ⟨z5, 4, none⟩ (.int .i64 (rdL x6))) z5 ⟨4, rdL x3, rdL x4, rdL x5, rdL x6, rdL x1, 0⟩) := Lib.hid (HBD4.out.set 4 (by decide) (rdL x6))
            have HKD5 : Hid (Keep (fun j => j = z5) wr (D4.setCell ⟨z5, 4, none⟩ (.int .i64 (rdL x6)))) := Lib.hid (HKD4.out.setCell (p := ⟨z5, 4, none⟩) _ (.inl rfl))
            clear c0 c1 c2 c3 c4 c5 c6 hfz HBD4 HKD4
            generalize D4.setCell ⟨z5, 4, none⟩ (.int .i64 (rdL x6)) = D5 at *
            refine ⟨inKA.of HKD5.out, ?_⟩
            have HQ4 := Lib.hid (HQ3.out.keep HKD5.out (fun e => HZG.out.2.1 e))
            have HK4 : Hid (Keep (fun _ => False) w D5) := Lib.hid (HK3.out.trans' HKD5.out (fun j e => .inr (by have h5 : j = z5 := e; have := HZG.out; omega)))
            generalize D5 = DE at *
            have HVA : Hid (∀ W, Calls Tryd.prog 15 #[qV ⟨4, rdL x3, rdL x4, rdL x5, rdL x6, rdL x1, 0⟩] W fun e w' => e = .returned (.bool (decide (Qy.ok ⟨4, rdL x3, rdL x4, rdL x5, rdL x6, rdL x1, 0⟩))) ∧ Keep (fun _ => False) W w') := Lib.hid (refValid_any ⟨4, rdL x3, rdL x4, rdL x5, rdL x6, rdL x1, 0⟩)
            have HLI : Hid (Qy.ok ⟨4, rdL x3, rdL x4, rdL x5, rdL x6, rdL x1, 0⟩ → ∀ W, Calls Tryd.prog 24 #[qV ⟨4, rdL x3, rdL x4, rdL x5, rdL x6, rdL x1, 0⟩] W fun e w' => e = .returned (.string (bs (lineL ⟨4, rdL x3, rdL x4, rdL x5, rdL x6, rdL x1, 0⟩))) ∧ Keep (fun _ => False) W w') := Lib.hid (line_ref ⟨4, rdL x3, rdL x4, rdL x5, rdL x6, rdL x1, 0⟩)
            clear HKD5 HK3 HQ3 HB HWR HRD
            clear HR1 HR3 HR4 HR5 HR6
            generalize rdL x1 = y1 at *
            generalize rdL x3 = y3 at *
            generalize rdL x4 = y4 at *
            generalize rdL x5 = y5 at *
            generalize rdL x6 = y6 at *
            obtain ⟨c0, c1, c2, c3, c4, c5, c6⟩ := HBD5.out.cells
            simp only at c0 c1 c2 c3 c4 c5 c6
            go_wp2_with fail
            clear c0 c1 c2 c3 c4 c5 c6
            with_reducible refine (HVA.out _).mono ?_
            rintro e V7 ⟨rfl, k⟩
            have HB7 := Lib.hid (HBD5.out.kept k)
            have HQ7 := Lib.hid (HQ4.out.kept k)
            have HK7 := Lib.hid (HK4.out.trans k)
            clear k HVA HBD5 HQ4 HK4
            by_cases hok : Qy.ok ⟨4, y3, y4, y5, y6, y1, 0⟩
            · rw [decide_eq_true hok]
              have HL2 := Lib.hid (HLI.out hok)
              have HL3 := Lib.hid (bs_list (lineL ⟨4, y3, y4, y5, y6, y1, 0⟩))
              clear HLI
              obtain ⟨c0, c1, c2, c3, c4, c5, c6⟩ := HB7.out.cells
              simp only at c0 c1 c2 c3 c4 c5 c6
              by_cases hl : lineL ⟨4, y3, y4, y5, y6, y1, 0⟩ = s.data.toList
              · have HP1 : Hid (pq = some ⟨4, y3, y4, y5, y6, y1, 0⟩) := Lib.hid (by rw [HRQ.out, if_pos ⟨hok, hl⟩])
                have hb : ((bs (lineL ⟨4, y3, y4, y5, y6, y1, 0⟩)).toList == s.toList) = true := by rw [str_beq, HL3.out]; simpa using hl
                have hbn : ((bs (lineL ⟨4, y3, y4, y5, y6, y1, 0⟩)).toList != s.toList) = false := by rw [bne, hb]; rfl
                clear hok hl HRQ HL3
                generalize bs (lineL ⟨4, y3, y4, y5, y6, y1, 0⟩) = sl at *
                go_wp2_with fail
                clear c0 c1 c2 c3 c4 c5 c6
                with_reducible refine (HL2.out _).mono ?_
                rintro e V8 ⟨rfl, k⟩
                have HB8 := Lib.hid (HB7.out.kept k)
                have HQ8 := Lib.hid (HQ7.out.kept k)
                have HK8 := Lib.hid (HK7.out.trans k)
                clear k HL2 HB7 HQ7 HK7
                obtain ⟨c0, c1, c2, c3, c4, c5, c6⟩ := HB8.out.cells
                obtain ⟨d0, d1, d2, d3, d4, d5, d6⟩ := HQ8.out.cells
                have hfz := HQ8.out.2
                go_wp2_with fail
                clear d0 d1 d2 d3 d4 d5 d6 hfz
                have hput := QBox.put HQ8.out 4 y3 y4 y5 y6 y1 0
                have HKE : Hid (Keep (fun _ => False) w (((((((V8.setCell ⟨z2, 0, none⟩ (.int .i64 4)).setCell ⟨z2, 1, none⟩ (.int .i64 y3)).setCell ⟨z2, 2, none⟩ (.int .i64 y4)).setCell ⟨z2, 3, none⟩ (.int .i64 y5)).setCell ⟨z2, 4, none⟩ (.int .i64 y6)).setCell ⟨z2, 5, none⟩ (.int .i64 y1)).setCell ⟨z2, 6, none⟩ (.int .i64 0))) := Lib.hid (HK8.out.trans' hput.2 (fun j e => .inr (by have h5 : j = z2 := e; have := HZ2.out; omega)))
                obtain ⟨d0, d1, d2, d3, d4, d5, d6⟩ := hput.1.cells
                simp only at d0 d1 d2 d3 d4 d5 d6
                clear hput
                generalize (((((((V8.setCell ⟨z2, 0, none⟩ (.int .i64 4)).setCell ⟨z2, 1, none⟩ (.int .i64 y3)).setCell ⟨z2, 2, none⟩ (.int .i64 y4)).setCell ⟨z2, 3, none⟩ (.int .i64 y5)).setCell ⟨z2, 4, none⟩ (.int .i64 y6)).setCell ⟨z2, 5, none⟩ (.int .i64 y1)).setCell ⟨z2, 6, none⟩ (.int .i64 0)) = W9 at *
                refine bodyPost_ret (v := .tuple #[qV ⟨4, y3, y4, y5, y6, y1, 0⟩, .int .i64 0]) (by simp [results, Tryd.results17, go_sem, d0, d1, d2, d3, d4, d5, d6]) rfl ?_
                exact ⟨by rw [HP1.out]; rfl, HKE.out⟩
              · have HP1 : Hid (pq = none) := Lib.hid (by rw [HRQ.out, if_neg (fun h => hl h.2)])
                have hb : ((bs (lineL ⟨4, y3, y4, y5, y6, y1, 0⟩)).toList == s.toList) = false := by rw [str_beq, HL3.out]; simpa using hl
                have hbn : ((bs (lineL ⟨4, y3, y4, y5, y6, y1, 0⟩)).toList != s.toList) = true := by rw [bne, hb]; rfl
                clear hok hl HRQ HL3
                generalize bs (lineL ⟨4, y3, y4, y5, y6, y1, 0⟩) = sl at *
                go_wp2_with fail
                clear c0 c1 c2 c3 c4 c5 c6
                with_reducible refine (HL2.out _).mono ?_
                rintro e V8 ⟨rfl, k⟩
                have HB8 := Lib.hid (HB7.out.kept k)
                have HQ8 := Lib.hid (HQ7.out.kept k)
                have HK8 := Lib.hid (HK7.out.trans k)
                clear k HL2 HB7 HQ7 HK7
                obtain ⟨c0, c1, c2, c3, c4, c5, c6⟩ := HB8.out.cells
                obtain ⟨d0, d1, d2, d3, d4, d5, d6⟩ := HQ8.out.cells
                have hfz := HQ8.out.2
                go_wp2_with fail
                clear d0 d1 d2 d3 d4 d5 d6 hfz
                have hput := QBox.put HQ8.out 0 0 0 0 0 0 0
                have HKE : Hid (Keep (fun _ => False) w (((((((V8.setCell ⟨z2, 0, none⟩ (.int .i64 0)).setCell ⟨z2, 1, none⟩ (.int .i64 0)).setCell ⟨z2, 2, none⟩ (.int .i64 0)).setCell ⟨z2, 3, none⟩ (.int .i64 0)).setCell ⟨z2, 4, none⟩ (.int .i64 0)).setCell ⟨z2, 5, none⟩ (.int .i64 0)).setCell ⟨z2, 6, none⟩ (.int .i64 0))) := Lib.hid (HK8.out.trans' hput.2 (fun j e => .inr (by have h5 : j = z2 := e; have := HZ2.out; omega)))
                obtain ⟨d0, d1, d2, d3, d4, d5, d6⟩ := hput.1.cells
                simp only at d0 d1 d2 d3 d4 d5 d6
                clear hput
                generalize (((((((V8.setCell ⟨z2, 0, none⟩ (.int .i64 0)).setCell ⟨z2, 1, none⟩ (.int .i64 0)).setCell ⟨z2, 2, none⟩ (.int .i64 0)).setCell ⟨z2, 3, none⟩ (.int .i64 0)).setCell ⟨z2, 4, none⟩ (.int .i64 0)).setCell ⟨z2, 5, none⟩ (.int .i64 0)).setCell ⟨z2, 6, none⟩ (.int .i64 0)) = W9 at *
                refine bodyPost_ret (v := .tuple #[qV ⟨0, 0, 0, 0, 0, 0, 0⟩, .int .i64 50]) (by simp [results, Tryd.results17, go_sem, d0, d1, d2, d3, d4, d5, d6]) rfl ?_
                exact ⟨by rw [HP1.out]; rfl, HKE.out⟩
            · rw [decide_eq_false hok]
              have HP1 : Hid (pq = none) := Lib.hid (by rw [HRQ.out, if_neg (fun h => hok h.1)])
              clear hok HRQ HLI
              obtain ⟨c0, c1, c2, c3, c4, c5, c6⟩ := HB7.out.cells
              obtain ⟨d0, d1, d2, d3, d4, d5, d6⟩ := HQ7.out.cells
              have hfz := HQ7.out.2
              go_wp2_with fail
              clear d0 d1 d2 d3 d4 d5 d6 hfz
              have hput := QBox.put HQ7.out 0 0 0 0 0 0 0
              have HKE : Hid (Keep (fun _ => False) w (((((((V7.setCell ⟨z2, 0, none⟩ (.int .i64 0)).setCell ⟨z2, 1, none⟩ (.int .i64 0)).setCell ⟨z2, 2, none⟩ (.int .i64 0)).setCell ⟨z2, 3, none⟩ (.int .i64 0)).setCell ⟨z2, 4, none⟩ (.int .i64 0)).setCell ⟨z2, 5, none⟩ (.int .i64 0)).setCell ⟨z2, 6, none⟩ (.int .i64 0))) := Lib.hid (HK7.out.trans' hput.2 (fun j e => .inr (by have h5 : j = z2 := e; have := HZ2.out; omega)))
              obtain ⟨d0, d1, d2, d3, d4, d5, d6⟩ := hput.1.cells
              simp only at d0 d1 d2 d3 d4 d5 d6
              clear hput
              generalize (((((((V7.setCell ⟨z2, 0, none⟩ (.int .i64 0)).setCell ⟨z2, 1, none⟩ (.int .i64 0)).setCell ⟨z2, 2, none⟩ (.int .i64 0)).setCell ⟨z2, 3, none⟩ (.int .i64 0)).setCell ⟨z2, 4, none⟩ (.int .i64 0)).setCell ⟨z2, 5, none⟩ (.int .i64 0)).setCell ⟨z2, 6, none⟩ (.int .i64 0)) = W9 at *
              refine bodyPost_ret (v := .tuple #[qV ⟨0, 0, 0, 0, 0, 0, 0⟩, .int .i64 50]) (by simp [results, Tryd.results17, go_sem, d0, d1, d2, d3, d4, d5, d6]) rfl ?_
              exact ⟨by rw [HP1.out]; rfl, HKE.out⟩
          · have hnz : ¬ (n : Int) = 7 := by omega
            have HP1 : Hid (pq = none) := Lib.hid (by rw [HRS.out, refQ_4_no HKD.out.symm (by rw [HN.out]; exact hnn)])
            clear hnn
            obtain ⟨c0, c1, c2, c3, c4, c5, c6⟩ := HB.out.cells
            obtain ⟨d0, d1, d2, d3, d4, d5, d6⟩ := HQ3.out.cells
            have hfz := HQ3.out.2
            go_wp2_with fail
            clear d0 d1 d2 d3 d4 d5 d6 hfz
            have hput := QBox.put HQ3.out 0 0 0 0 0 0 0
            have HKE : Hid (Keep (fun _ => False) w (((((((wr.setCell ⟨z2, 0, none⟩ (.int .i64 0)).setCell ⟨z2, 1, none⟩ (.int .i64 0)).setCell ⟨z2, 2, none⟩ (.int .i64 0)).setCell ⟨z2, 3, none⟩ (.int .i64 0)).setCell ⟨z2, 4, none⟩ (.int .i64 0)).setCell ⟨z2, 5, none⟩ (.int .i64 0)).setCell ⟨z2, 6, none⟩ (.int .i64 0))) := Lib.hid (HK3.out.trans' hput.2 (fun j e => .inr (by have h5 : j = z2 := e; have := HZ2.out; omega)))
            obtain ⟨d0, d1, d2, d3, d4, d5, d6⟩ := hput.1.cells
            simp only at d0 d1 d2 d3 d4 d5 d6
            clear hput
            generalize (((((((wr.setCell ⟨z2, 0, none⟩ (.int .i64 0)).setCell ⟨z2, 1, none⟩ (.int .i64 0)).setCell ⟨z2, 2, none⟩ (.int .i64 0)).setCell ⟨z2, 3, none⟩ (.int .i64 0)).setCell ⟨z2, 4, none⟩ (.int .i64 0)).setCell ⟨z2, 5, none⟩ (.int .i64 0)).setCell ⟨z2, 6, none⟩ (.int .i64 0)) = W9 at *
            refine bodyPost_ret (v := .tuple #[qV ⟨0, 0, 0, 0, 0, 0, 0⟩, .int .i64 50]) (by simp [results, Tryd.results17, go_sem, d0, d1, d2, d3, d4, d5, d6]) rfl ?_
            exact ⟨by rw [HP1.out]; rfl, HKE.out⟩
        · rw [hk] at HB HKD
          clear hk
          by_cases hnn : n = 7
          · subst hnn
            obtain ⟨x1, x2, x3, x4, x5, x6, rfl⟩ := list_6 (l := r) (by have h := HN.out; simpa using h)
            have HRQ : Hid (pq = if Qy.ok ⟨5, rdL x3, rdL x4, rdL x5, rdL x6, rdL x1, 0⟩ ∧ lineL ⟨5, rdL x3, rdL x4, rdL x5, rdL x6, rdL x1, 0⟩ = s.data.toList then some ⟨5, rdL x3, rdL x4, rdL x5, rdL x6, rdL x1, 0⟩ else none) := Lib.hid (by rw [HRS.out, refQ_5 HKD.out.symm])
            have HRD : Hid (∀ (x : List UInt8) W, Calls Tryd.prog 30 #[.string (bs x)] W fun e w' => e = .returned (.int .i64 (rdL x)) ∧ w' = W) := Lib.hid (fun x W => by
              refine (read_ref (bs x) W).mono fun e w' h => ?_
              obtain ⟨h1, h2⟩ := h
              rw [bs_list] at h1
              exact ⟨h1, h2.symm⟩)
            obtain ⟨c0, c1, c2, c3, c4, c5, c6⟩ := HB.out.cells
            go_upto_region 17 with (fail)
            clear c0 c1 c2 c3 c4 c5 c6
            have r1 : ∀ p : KA (fun j => j = z5) wr, p.val.cell? ⟨g, off + 1, none⟩ = some (.string (bs x1)) := fun p => (HWR.out.keep p.k (fun e => HZG.out.1 e)) 1 x1 rfl
            have r3 : ∀ p : KA (fun j => j = z5) wr, p.val.cell? ⟨g, off + 3, none⟩ = some (.string (bs x3)) := fun p => (HWR.out.keep p.k (fun e => HZG.out.1 e)) 3 x3 rfl
            have r4 : ∀ p : KA (fun j => j = z5) wr, p.val.cell? ⟨g, off + 4, none⟩ = some (.string (bs x4)) := fun p => (HWR.out.keep p.k (fun e => HZG.out.1 e)) 4 x4 rfl
            have r5 : ∀ p : KA (fun j => j = z5) wr, p.val.cell? ⟨g, off + 5, none⟩ = some (.string (bs x5)) := fun p => (HWR.out.keep p.k (fun e => HZG.out.1 e)) 5 x5 rfl
            have r6 : ∀ p : KA (fun j => j = z5) wr, p.val.cell? ⟨g, off + 6, none⟩ = some (.string (bs x6)) := fun p => (HWR.out.keep p.k (fun e => HZG.out.1 e)) 6 x6 rfl
            generalize hy1 : bs x1 = b1 at r1
            have HR1 : Hid (∀ W, Calls Tryd.prog 30 #[.string b1] W fun e w' => e = .returned (.int .i64 (rdL x1)) ∧ w' = W) := Lib.hid (by rw [← hy1]; exact HRD.out x1)
            clear hy1
            generalize hy3 : bs x3 = b3 at r3
            have HR3 : Hid (∀ W, Calls Tryd.prog 30 #[.string b3] W fun e w' => e = .returned (.int .i64 (rdL x3)) ∧ w' = W) := Lib.hid (by rw [← hy3]; exact HRD.out x3)
            clear hy3
            generalize hy4 : bs x4 = b4 at r4
            have HR4 : Hid (∀ W, Calls Tryd.prog 30 #[.string b4] W fun e w' => e = .returned (.int .i64 (rdL x4)) ∧ w' = W) := Lib.hid (by rw [← hy4]; exact HRD.out x4)
            clear hy4
            generalize hy5 : bs x5 = b5 at r5
            have HR5 : Hid (∀ W, Calls Tryd.prog 30 #[.string b5] W fun e w' => e = .returned (.int .i64 (rdL x5)) ∧ w' = W) := Lib.hid (by rw [← hy5]; exact HRD.out x5)
            clear hy5
            generalize hy6 : bs x6 = b6 at r6
            have HR6 : Hid (∀ W, Calls Tryd.prog 30 #[.string b6] W fun e w' => e = .returned (.int .i64 (rdL x6)) ∧ w' = W) := Lib.hid (by rw [← hy6]; exact HRD.out x6)
            clear hy6
            have HKD0 : Hid (Keep (fun j => j = z5) wr wr.drew) := Lib.hid (Keep.refl _ wr).drew
            have HBD0 : Hid (QBox wr.drew z5 ⟨5, 0, 0, 0, 0, 0, 0⟩) := Lib.hid (HB.out.kept (Keep.refl _ wr).drew)
            refine wp_region_walk [(true, 0), (true, 1), (true, 2), (true, 3), (true, 4), (true, 5), (true, 6), (true, 7), (true, 8), (true, 9), (true, 10), (true, 11), (true, 12), (true, 13), (true, 14), (true, 15), (true, 16), (true, 17), (true, 18), (true, 19), (true, 20), (false, 21), (false, 22), (false, 23), (false, 24), (false, 25), (false, 26), (false, 27), (false, 28), (false, 29)] (inKA (fun j => j = z5) wr) (by kernel_rfl) (by kernel_rfl) ?_
            iterate 3 (refine walkW_read rfl (fun K hK => ?_); go_simp; refine hK _ ?_; clear hK K)
            refine walkW_read rfl (fun K hK => ?_)
            go_simp
            refine ⟨_, fun p => HR1.out p.val, hK _ ?_⟩; clear hK K
            iterate 3 (refine walkW_read rfl (fun K hK => ?_); go_simp; refine hK _ ?_; clear hK K)
            refine walkW_read rfl (fun K hK => ?_)
            go_simp
            refine ⟨_, fun p => HR3.out p.val, hK _ ?_⟩; clear hK K
            iterate 3 (refine walkW_read rfl (fun K hK => ?_); go_simp; refine hK _ ?_; clear hK K)
            refine walkW_read rfl (fun K hK => ?_)
            go_simp
            refine ⟨_, fun p => HR4.out p.val, hK _ ?_⟩; clear hK K
            iterate 3 (refine walkW_read rfl (fun K hK => ?_); go_simp; refine hK _ ?_; clear hK K)
            refine walkW_read rfl (fun K hK => ?_)
            go_simp
            refine ⟨_, fun p => HR5.out p.val, hK _ ?_⟩; clear hK K
            iterate 3 (refine walkW_read rfl (fun K hK => ?_); go_simp; refine hK _ ?_; clear hK K)
            refine walkW_read rfl (fun K hK => ?_)
            go_simp
            refine ⟨_, fun p => HR6.out p.val, hK _ ?_⟩; clear hK K
            refine walkW_read rfl (fun K hK => ?_); go_simp; refine hK _ ?_; clear hK K
            clear r1 r3 r4 r5 r6
            generalize wr.drew = D0 at *
            obtain ⟨c0, c1, c2, c3, c4, c5, c6⟩ := HBD0.out.cells
            have hfz := HBD0.out.2
            refine walkW_do rfl (inKA.of HKD0.out) (fun K hK => ?_)
            go_simp
            refine hK _ _ ?_; clear hK K
            have HBD1 : Hid (QBox (D0.setCell ⟨z5, 5, none⟩ (.int .i64 (rdL x1))) z5 ⟨5, 0, 0, 0, 0, rdL x1, 0⟩) := Lib.hid (HBD0.out.set 5 (by decide) (rdL x1))
            have HKD1 : Hid (Keep (fun j => j = z5) wr (D0.setCell ⟨z5, 5, none⟩ (.int .i64 (rdL x1)))) := Lib.hid (HKD0.out.setCell (p := ⟨z5, 5, none⟩) _ (.inl rfl))
            clear c0 c1 c2 c3 c4 c5 c6 hfz HBD0 HKD0
            generalize D0.setCell ⟨z5, 5, none⟩ (.int .i64 (rdL x1)) = D1 at *
            refine walkW_do rfl (inKA.of HKD1.out) (fun K hK => ?_)
            go_simp
            refine hK _ _ ?_; clear hK K
            obtain ⟨c0, c1, c2, c3, c4, c5, c6⟩ := HBD1.out.cells
            have hfz := HBD1.out.2
            refine walkW_do rfl (inKA.of HKD1.out) (fun K hK => ?_)
            go_simp
            refine hK _ _ ?_; clear hK K
            have HBD2 : Hid (QBox (D1.setCell ⟨z5, 1, none⟩ (.int .i64 (rdL x3))) z5 ⟨5, rdL x3, 0, 0, 0, rdL x1, 0⟩) := Lib.hid (HBD1.out.set 1 (by decide) (rdL x3))
            have HKD2 : Hid (Keep (fun j => j = z5) wr (D1.setCell ⟨z5, 1, none⟩ (.int .i64 (rdL x3)))) := Lib.hid (HKD1.out.setCell (p := ⟨z5, 1, none⟩) _ (.inl rfl))
            clear c0 c1 c2 c3 c4 c5 c6 hfz HBD1 HKD1
            generalize D1.setCell ⟨z5, 1, none⟩ (.int .i64 (rdL x3)) = D2 at *
            refine walkW_do rfl (inKA.of HKD2.out) (fun K hK => ?_)
            go_simp
            refine hK _ _ ?_; clear hK K
            obtain ⟨c0, c1, c2, c3, c4, c5, c6⟩ := HBD2.out.cells
            have hfz := HBD2.out.2
            refine walkW_do rfl (inKA.of HKD2.out) (fun K hK => ?_)
            go_simp
            refine hK _ _ ?_; clear hK K
            have HBD3 : Hid (QBox (D2.setCell ⟨z5, 2, none⟩ (.int .i64 (rdL x4))) z5 ⟨5, rdL x3, rdL x4, 0, 0, rdL x1, 0⟩) := Lib.hid (HBD2.out.set 2 (by decide) (rdL x4))
            have HKD3 : Hid (Keep (fun j => j = z5) wr (D2.setCell ⟨z5, 2, none⟩ (.int .i64 (rdL x4)))) := Lib.hid (HKD2.out.setCell (p := ⟨z5, 2, none⟩) _ (.inl rfl))
            clear c0 c1 c2 c3 c4 c5 c6 hfz HBD2 HKD2
            generalize D2.setCell ⟨z5, 2, none⟩ (.int .i64 (rdL x4)) = D3 at *
            refine walkW_do rfl (inKA.of HKD3.out) (fun K hK => ?_)
            go_simp
            refine hK _ _ ?_; clear hK K
            obtain ⟨c0, c1, c2, c3, c4, c5, c6⟩ := HBD3.out.cells
            have hfz := HBD3.out.2
            refine walkW_do rfl (inKA.of HKD3.out) (fun K hK => ?_)
            go_simp
            refine hK _ _ ?_; clear hK K
            have HBD4 : Hid (QBox (D3.setCell ⟨z5, 3, none⟩ (.int .i64 (rdL x5))) z5 ⟨5, rdL x3, rdL x4, rdL x5, 0, rdL x1, 0⟩) := Lib.hid (HBD3.out.set 3 (by decide) (rdL x5))
            have HKD4 : Hid (Keep (fun j => j = z5) wr (D3.setCell ⟨z5, 3, none⟩ (.int .i64 (rdL x5)))) := Lib.hid (HKD3.out.setCell (p := ⟨z5, 3, none⟩) _ (.inl rfl))
            clear c0 c1 c2 c3 c4 c5 c6 hfz HBD3 HKD3
            generalize D3.setCell ⟨z5, 3, none⟩ (.int .i64 (rdL x5)) = D4 at *
            refine walkW_do rfl (inKA.of HKD4.out) (fun K hK => ?_)
            go_simp
            refine hK _ _ ?_; clear hK K
            obtain ⟨c0, c1, c2, c3, c4, c5, c6⟩ := HBD4.out.cells
            have hfz := HBD4.out.2
            refine walkW_do rfl (inKA.of HKD4.out) (fun K hK => ?_)
            go_simp
            refine hK _ _ ?_; clear hK K
            have HBD5 : Hid (QBox (D4.setCell ⟨z5, 4, none⟩ (.int .i64 (rdL x6))) z5 ⟨5, rdL x3, rdL x4, rdL x5, rdL x6, rdL x1, 0⟩) := Lib.hid (HBD4.out.set 4 (by decide) (rdL x6))
            have HKD5 : Hid (Keep (fun j => j = z5) wr (D4.setCell ⟨z5, 4, none⟩ (.int .i64 (rdL x6)))) := Lib.hid (HKD4.out.setCell (p := ⟨z5, 4, none⟩) _ (.inl rfl))
            clear c0 c1 c2 c3 c4 c5 c6 hfz HBD4 HKD4
            generalize D4.setCell ⟨z5, 4, none⟩ (.int .i64 (rdL x6)) = D5 at *
            refine ⟨inKA.of HKD5.out, ?_⟩
            have HQ4 := Lib.hid (HQ3.out.keep HKD5.out (fun e => HZG.out.2.1 e))
            have HK4 : Hid (Keep (fun _ => False) w D5) := Lib.hid (HK3.out.trans' HKD5.out (fun j e => .inr (by have h5 : j = z5 := e; have := HZG.out; omega)))
            generalize D5 = DE at *
            have HVA : Hid (∀ W, Calls Tryd.prog 15 #[qV ⟨5, rdL x3, rdL x4, rdL x5, rdL x6, rdL x1, 0⟩] W fun e w' => e = .returned (.bool (decide (Qy.ok ⟨5, rdL x3, rdL x4, rdL x5, rdL x6, rdL x1, 0⟩))) ∧ Keep (fun _ => False) W w') := Lib.hid (refValid_any ⟨5, rdL x3, rdL x4, rdL x5, rdL x6, rdL x1, 0⟩)
            have HLI : Hid (Qy.ok ⟨5, rdL x3, rdL x4, rdL x5, rdL x6, rdL x1, 0⟩ → ∀ W, Calls Tryd.prog 24 #[qV ⟨5, rdL x3, rdL x4, rdL x5, rdL x6, rdL x1, 0⟩] W fun e w' => e = .returned (.string (bs (lineL ⟨5, rdL x3, rdL x4, rdL x5, rdL x6, rdL x1, 0⟩))) ∧ Keep (fun _ => False) W w') := Lib.hid (line_ref ⟨5, rdL x3, rdL x4, rdL x5, rdL x6, rdL x1, 0⟩)
            clear HKD5 HK3 HQ3 HB HWR HRD
            clear HR1 HR3 HR4 HR5 HR6
            generalize rdL x1 = y1 at *
            generalize rdL x3 = y3 at *
            generalize rdL x4 = y4 at *
            generalize rdL x5 = y5 at *
            generalize rdL x6 = y6 at *
            obtain ⟨c0, c1, c2, c3, c4, c5, c6⟩ := HBD5.out.cells
            simp only at c0 c1 c2 c3 c4 c5 c6
            go_wp2_with fail
            clear c0 c1 c2 c3 c4 c5 c6
            with_reducible refine (HVA.out _).mono ?_
            rintro e V7 ⟨rfl, k⟩
            have HB7 := Lib.hid (HBD5.out.kept k)
            have HQ7 := Lib.hid (HQ4.out.kept k)
            have HK7 := Lib.hid (HK4.out.trans k)
            clear k HVA HBD5 HQ4 HK4
            by_cases hok : Qy.ok ⟨5, y3, y4, y5, y6, y1, 0⟩
            · rw [decide_eq_true hok]
              have HL2 := Lib.hid (HLI.out hok)
              have HL3 := Lib.hid (bs_list (lineL ⟨5, y3, y4, y5, y6, y1, 0⟩))
              clear HLI
              obtain ⟨c0, c1, c2, c3, c4, c5, c6⟩ := HB7.out.cells
              simp only at c0 c1 c2 c3 c4 c5 c6
              by_cases hl : lineL ⟨5, y3, y4, y5, y6, y1, 0⟩ = s.data.toList
              · have HP1 : Hid (pq = some ⟨5, y3, y4, y5, y6, y1, 0⟩) := Lib.hid (by rw [HRQ.out, if_pos ⟨hok, hl⟩])
                have hb : ((bs (lineL ⟨5, y3, y4, y5, y6, y1, 0⟩)).toList == s.toList) = true := by rw [str_beq, HL3.out]; simpa using hl
                have hbn : ((bs (lineL ⟨5, y3, y4, y5, y6, y1, 0⟩)).toList != s.toList) = false := by rw [bne, hb]; rfl
                clear hok hl HRQ HL3
                generalize bs (lineL ⟨5, y3, y4, y5, y6, y1, 0⟩) = sl at *
                go_wp2_with fail
                clear c0 c1 c2 c3 c4 c5 c6
                with_reducible refine (HL2.out _).mono ?_
                rintro e V8 ⟨rfl, k⟩
                have HB8 := Lib.hid (HB7.out.kept k)
                have HQ8 := Lib.hid (HQ7.out.kept k)
                have HK8 := Lib.hid (HK7.out.trans k)
                clear k HL2 HB7 HQ7 HK7
                obtain ⟨c0, c1, c2, c3, c4, c5, c6⟩ := HB8.out.cells
                obtain ⟨d0, d1, d2, d3, d4, d5, d6⟩ := HQ8.out.cells
                have hfz := HQ8.out.2
                go_wp2_with fail
                clear d0 d1 d2 d3 d4 d5 d6 hfz
                have hput := QBox.put HQ8.out 5 y3 y4 y5 y6 y1 0
                have HKE : Hid (Keep (fun _ => False) w (((((((V8.setCell ⟨z2, 0, none⟩ (.int .i64 5)).setCell ⟨z2, 1, none⟩ (.int .i64 y3)).setCell ⟨z2, 2, none⟩ (.int .i64 y4)).setCell ⟨z2, 3, none⟩ (.int .i64 y5)).setCell ⟨z2, 4, none⟩ (.int .i64 y6)).setCell ⟨z2, 5, none⟩ (.int .i64 y1)).setCell ⟨z2, 6, none⟩ (.int .i64 0))) := Lib.hid (HK8.out.trans' hput.2 (fun j e => .inr (by have h5 : j = z2 := e; have := HZ2.out; omega)))
                obtain ⟨d0, d1, d2, d3, d4, d5, d6⟩ := hput.1.cells
                simp only at d0 d1 d2 d3 d4 d5 d6
                clear hput
                generalize (((((((V8.setCell ⟨z2, 0, none⟩ (.int .i64 5)).setCell ⟨z2, 1, none⟩ (.int .i64 y3)).setCell ⟨z2, 2, none⟩ (.int .i64 y4)).setCell ⟨z2, 3, none⟩ (.int .i64 y5)).setCell ⟨z2, 4, none⟩ (.int .i64 y6)).setCell ⟨z2, 5, none⟩ (.int .i64 y1)).setCell ⟨z2, 6, none⟩ (.int .i64 0)) = W9 at *
                refine bodyPost_ret (v := .tuple #[qV ⟨5, y3, y4, y5, y6, y1, 0⟩, .int .i64 0]) (by simp [results, Tryd.results17, go_sem, d0, d1, d2, d3, d4, d5, d6]) rfl ?_
                exact ⟨by rw [HP1.out]; rfl, HKE.out⟩
              · have HP1 : Hid (pq = none) := Lib.hid (by rw [HRQ.out, if_neg (fun h => hl h.2)])
                have hb : ((bs (lineL ⟨5, y3, y4, y5, y6, y1, 0⟩)).toList == s.toList) = false := by rw [str_beq, HL3.out]; simpa using hl
                have hbn : ((bs (lineL ⟨5, y3, y4, y5, y6, y1, 0⟩)).toList != s.toList) = true := by rw [bne, hb]; rfl
                clear hok hl HRQ HL3
                generalize bs (lineL ⟨5, y3, y4, y5, y6, y1, 0⟩) = sl at *
                go_wp2_with fail
                clear c0 c1 c2 c3 c4 c5 c6
                with_reducible refine (HL2.out _).mono ?_
                rintro e V8 ⟨rfl, k⟩
                have HB8 := Lib.hid (HB7.out.kept k)
                have HQ8 := Lib.hid (HQ7.out.kept k)
                have HK8 := Lib.hid (HK7.out.trans k)
                clear k HL2 HB7 HQ7 HK7
                obtain ⟨c0, c1, c2, c3, c4, c5, c6⟩ := HB8.out.cells
                obtain ⟨d0, d1, d2, d3, d4, d5, d6⟩ := HQ8.out.cells
                have hfz := HQ8.out.2
                go_wp2_with fail
                clear d0 d1 d2 d3 d4 d5 d6 hfz
                have hput := QBox.put HQ8.out 0 0 0 0 0 0 0
                have HKE : Hid (Keep (fun _ => False) w (((((((V8.setCell ⟨z2, 0, none⟩ (.int .i64 0)).setCell ⟨z2, 1, none⟩ (.int .i64 0)).setCell ⟨z2, 2, none⟩ (.int .i64 0)).setCell ⟨z2, 3, none⟩ (.int .i64 0)).setCell ⟨z2, 4, none⟩ (.int .i64 0)).setCell ⟨z2, 5, none⟩ (.int .i64 0)).setCell ⟨z2, 6, none⟩ (.int .i64 0))) := Lib.hid (HK8.out.trans' hput.2 (fun j e => .inr (by have h5 : j = z2 := e; have := HZ2.out; omega)))
                obtain ⟨d0, d1, d2, d3, d4, d5, d6⟩ := hput.1.cells
                simp only at d0 d1 d2 d3 d4 d5 d6
                clear hput
                generalize (((((((V8.setCell ⟨z2, 0, none⟩ (.int .i64 0)).setCell ⟨z2, 1, none⟩ (.int .i64 0)).setCell ⟨z2, 2, none⟩ (.int .i64 0)).setCell ⟨z2, 3, none⟩ (.int .i64 0)).setCell ⟨z2, 4, none⟩ (.int .i64 0)).setCell ⟨z2, 5, none⟩ (.int .i64 0)).setCell ⟨z2, 6, none⟩ (.int .i64 0)) = W9 at *
                refine bodyPost_ret (v := .tuple #[qV ⟨0, 0, 0, 0, 0, 0, 0⟩, .int .i64 50]) (by simp [results, Tryd.results17, go_sem, d0, d1, d2, d3, d4, d5, d6]) rfl ?_
                exact ⟨by rw [HP1.out]; rfl, HKE.out⟩
            · rw [decide_eq_false hok]
              have HP1 : Hid (pq = none) := Lib.hid (by rw [HRQ.out, if_neg (fun h => hok h.1)])
              clear hok HRQ HLI
              obtain ⟨c0, c1, c2, c3, c4, c5, c6⟩ := HB7.out.cells
              obtain ⟨d0, d1, d2, d3, d4, d5, d6⟩ := HQ7.out.cells
              have hfz := HQ7.out.2
              go_wp2_with fail
              clear d0 d1 d2 d3 d4 d5 d6 hfz
              have hput := QBox.put HQ7.out 0 0 0 0 0 0 0
              have HKE : Hid (Keep (fun _ => False) w (((((((V7.setCell ⟨z2, 0, none⟩ (.int .i64 0)).setCell ⟨z2, 1, none⟩ (.int .i64 0)).setCell ⟨z2, 2, none⟩ (.int .i64 0)).setCell ⟨z2, 3, none⟩ (.int .i64 0)).setCell ⟨z2, 4, none⟩ (.int .i64 0)).setCell ⟨z2, 5, none⟩ (.int .i64 0)).setCell ⟨z2, 6, none⟩ (.int .i64 0))) := Lib.hid (HK7.out.trans' hput.2 (fun j e => .inr (by have h5 : j = z2 := e; have := HZ2.out; omega)))
              obtain ⟨d0, d1, d2, d3, d4, d5, d6⟩ := hput.1.cells
              simp only at d0 d1 d2 d3 d4 d5 d6
              clear hput
              generalize (((((((V7.setCell ⟨z2, 0, none⟩ (.int .i64 0)).setCell ⟨z2, 1, none⟩ (.int .i64 0)).setCell ⟨z2, 2, none⟩ (.int .i64 0)).setCell ⟨z2, 3, none⟩ (.int .i64 0)).setCell ⟨z2, 4, none⟩ (.int .i64 0)).setCell ⟨z2, 5, none⟩ (.int .i64 0)).setCell ⟨z2, 6, none⟩ (.int .i64 0)) = W9 at *
              refine bodyPost_ret (v := .tuple #[qV ⟨0, 0, 0, 0, 0, 0, 0⟩, .int .i64 50]) (by simp [results, Tryd.results17, go_sem, d0, d1, d2, d3, d4, d5, d6]) rfl ?_
              exact ⟨by rw [HP1.out]; rfl, HKE.out⟩
          · have hnz : ¬ (n : Int) = 7 := by omega
            have HP1 : Hid (pq = none) := Lib.hid (by rw [HRS.out, refQ_5_no HKD.out.symm (by rw [HN.out]; exact hnn)])
            clear hnn
            obtain ⟨c0, c1, c2, c3, c4, c5, c6⟩ := HB.out.cells
            obtain ⟨d0, d1, d2, d3, d4, d5, d6⟩ := HQ3.out.cells
            have hfz := HQ3.out.2
            go_wp2_with fail
            clear d0 d1 d2 d3 d4 d5 d6 hfz
            have hput := QBox.put HQ3.out 0 0 0 0 0 0 0
            have HKE : Hid (Keep (fun _ => False) w (((((((wr.setCell ⟨z2, 0, none⟩ (.int .i64 0)).setCell ⟨z2, 1, none⟩ (.int .i64 0)).setCell ⟨z2, 2, none⟩ (.int .i64 0)).setCell ⟨z2, 3, none⟩ (.int .i64 0)).setCell ⟨z2, 4, none⟩ (.int .i64 0)).setCell ⟨z2, 5, none⟩ (.int .i64 0)).setCell ⟨z2, 6, none⟩ (.int .i64 0))) := Lib.hid (HK3.out.trans' hput.2 (fun j e => .inr (by have h5 : j = z2 := e; have := HZ2.out; omega)))
            obtain ⟨d0, d1, d2, d3, d4, d5, d6⟩ := hput.1.cells
            simp only at d0 d1 d2 d3 d4 d5 d6
            clear hput
            generalize (((((((wr.setCell ⟨z2, 0, none⟩ (.int .i64 0)).setCell ⟨z2, 1, none⟩ (.int .i64 0)).setCell ⟨z2, 2, none⟩ (.int .i64 0)).setCell ⟨z2, 3, none⟩ (.int .i64 0)).setCell ⟨z2, 4, none⟩ (.int .i64 0)).setCell ⟨z2, 5, none⟩ (.int .i64 0)).setCell ⟨z2, 6, none⟩ (.int .i64 0)) = W9 at *
            refine bodyPost_ret (v := .tuple #[qV ⟨0, 0, 0, 0, 0, 0, 0⟩, .int .i64 50]) (by simp [results, Tryd.results17, go_sem, d0, d1, d2, d3, d4, d5, d6]) rfl ?_
            exact ⟨by rw [HP1.out]; rfl, HKE.out⟩
        · rw [hk] at HB HKD
          clear hk
          by_cases hnn : n = 7
          · subst hnn
            obtain ⟨x1, x2, x3, x4, x5, x6, rfl⟩ := list_6 (l := r) (by have h := HN.out; simpa using h)
            have HRQ : Hid (pq = if Qy.ok ⟨6, rdL x3, rdL x4, rdL x5, rdL x6, rdL x1, 0⟩ ∧ lineL ⟨6, rdL x3, rdL x4, rdL x5, rdL x6, rdL x1, 0⟩ = s.data.toList then some ⟨6, rdL x3, rdL x4, rdL x5, rdL x6, rdL x1, 0⟩ else none) := Lib.hid (by rw [HRS.out, refQ_6 HKD.out.symm])
            have HRD : Hid (∀ (x : List UInt8) W, Calls Tryd.prog 30 #[.string (bs x)] W fun e w' => e = .returned (.int .i64 (rdL x)) ∧ w' = W) := Lib.hid (fun x W => by
              refine (read_ref (bs x) W).mono fun e w' h => ?_
              obtain ⟨h1, h2⟩ := h
              rw [bs_list] at h1
              exact ⟨h1, h2.symm⟩)
            obtain ⟨c0, c1, c2, c3, c4, c5, c6⟩ := HB.out.cells
            go_upto_region 17 with (fail)
            clear c0 c1 c2 c3 c4 c5 c6
            have r1 : ∀ p : KA (fun j => j = z5) wr, p.val.cell? ⟨g, off + 1, none⟩ = some (.string (bs x1)) := fun p => (HWR.out.keep p.k (fun e => HZG.out.1 e)) 1 x1 rfl
            have r3 : ∀ p : KA (fun j => j = z5) wr, p.val.cell? ⟨g, off + 3, none⟩ = some (.string (bs x3)) := fun p => (HWR.out.keep p.k (fun e => HZG.out.1 e)) 3 x3 rfl
            have r4 : ∀ p : KA (fun j => j = z5) wr, p.val.cell? ⟨g, off + 4, none⟩ = some (.string (bs x4)) := fun p => (HWR.out.keep p.k (fun e => HZG.out.1 e)) 4 x4 rfl
            have r5 : ∀ p : KA (fun j => j = z5) wr, p.val.cell? ⟨g, off + 5, none⟩ = some (.string (bs x5)) := fun p => (HWR.out.keep p.k (fun e => HZG.out.1 e)) 5 x5 rfl
            have r6 : ∀ p : KA (fun j => j = z5) wr, p.val.cell? ⟨g, off + 6, none⟩ = some (.string (bs x6)) := fun p => (HWR.out.keep p.k (fun e => HZG.out.1 e)) 6 x6 rfl
            generalize hy1 : bs x1 = b1 at r1
            have HR1 : Hid (∀ W, Calls Tryd.prog 30 #[.string b1] W fun e w' => e = .returned (.int .i64 (rdL x1)) ∧ w' = W) := Lib.hid (by rw [← hy1]; exact HRD.out x1)
            clear hy1
            generalize hy3 : bs x3 = b3 at r3
            have HR3 : Hid (∀ W, Calls Tryd.prog 30 #[.string b3] W fun e w' => e = .returned (.int .i64 (rdL x3)) ∧ w' = W) := Lib.hid (by rw [← hy3]; exact HRD.out x3)
            clear hy3
            generalize hy4 : bs x4 = b4 at r4
            have HR4 : Hid (∀ W, Calls Tryd.prog 30 #[.string b4] W fun e w' => e = .returned (.int .i64 (rdL x4)) ∧ w' = W) := Lib.hid (by rw [← hy4]; exact HRD.out x4)
            clear hy4
            generalize hy5 : bs x5 = b5 at r5
            have HR5 : Hid (∀ W, Calls Tryd.prog 30 #[.string b5] W fun e w' => e = .returned (.int .i64 (rdL x5)) ∧ w' = W) := Lib.hid (by rw [← hy5]; exact HRD.out x5)
            clear hy5
            generalize hy6 : bs x6 = b6 at r6
            have HR6 : Hid (∀ W, Calls Tryd.prog 30 #[.string b6] W fun e w' => e = .returned (.int .i64 (rdL x6)) ∧ w' = W) := Lib.hid (by rw [← hy6]; exact HRD.out x6)
            clear hy6
            have HKD0 : Hid (Keep (fun j => j = z5) wr wr.drew) := Lib.hid (Keep.refl _ wr).drew
            have HBD0 : Hid (QBox wr.drew z5 ⟨6, 0, 0, 0, 0, 0, 0⟩) := Lib.hid (HB.out.kept (Keep.refl _ wr).drew)
            refine wp_region_walk [(true, 0), (true, 1), (true, 2), (true, 3), (true, 4), (true, 5), (true, 6), (true, 7), (true, 8), (true, 9), (true, 10), (true, 11), (true, 12), (true, 13), (true, 14), (true, 15), (true, 16), (true, 17), (true, 18), (true, 19), (true, 20), (false, 21), (false, 22), (false, 23), (false, 24), (false, 25), (false, 26), (false, 27), (false, 28), (false, 29)] (inKA (fun j => j = z5) wr) (by kernel_rfl) (by kernel_rfl) ?_
            iterate 3 (refine walkW_read rfl (fun K hK => ?_); go_simp; refine hK _ ?_; clear hK K)
            refine walkW_read rfl (fun K hK => ?_)
            go_simp
            refine ⟨_, fun p => HR1.out p.val, hK _ ?_⟩; clear hK K
            iterate 3 (refine walkW_read rfl (fun K hK => ?_); go_simp; refine hK _ ?_; clear hK K)
            refine walkW_read rfl (fun K hK => ?_)
            go_simp
            refine ⟨_, fun p => HR3.out p.val, hK _ ?_⟩; clear hK K
            iterate 3 (refine walkW_read rfl (fun K hK => ?_); go_simp; refine hK _ ?_; clear hK K)
            refine walkW_read rfl (fun K hK => ?_)
            go_simp
            refine ⟨_, fun p => HR4.out p.val, hK _ ?_⟩; clear hK K
            iterate 3 (refine walkW_read rfl (fun K hK => ?_); go_simp; refine hK _ ?_; clear hK K)
            refine walkW_read rfl (fun K hK => ?_)
            go_simp
            refine ⟨_, fun p => HR5.out p.val, hK _ ?_⟩; clear hK K
            iterate 3 (refine walkW_read rfl (fun K hK => ?_); go_simp; refine hK _ ?_; clear hK K)
            refine walkW_read rfl (fun K hK => ?_)
            go_simp
            refine ⟨_, fun p => HR6.out p.val, hK _ ?_⟩; clear hK K
            refine walkW_read rfl (fun K hK => ?_); go_simp; refine hK _ ?_; clear hK K
            clear r1 r3 r4 r5 r6
            generalize wr.drew = D0 at *
            obtain ⟨c0, c1, c2, c3, c4, c5, c6⟩ := HBD0.out.cells
            have hfz := HBD0.out.2
            refine walkW_do rfl (inKA.of HKD0.out) (fun K hK => ?_)
            go_simp
            refine hK _ _ ?_; clear hK K
            have HBD1 : Hid (QBox (D0.setCell ⟨z5, 5, none⟩ (.int .i64 (rdL x1))) z5 ⟨6, 0, 0, 0, 0, rdL x1, 0⟩) := Lib.hid (HBD0.out.set 5 (by decide) (rdL x1))
            have HKD1 : Hid (Keep (fun j => j = z5) wr (D0.setCell ⟨z5, 5, none⟩ (.int .i64 (rdL x1)))) := Lib.hid (HKD0.out.setCell (p := ⟨z5, 5, none⟩) _ (.inl rfl))
            clear c0 c1 c2 c3 c4 c5 c6 hfz HBD0 HKD0
            generalize D0.setCell ⟨z5, 5, none⟩ (.int .i64 (rdL x1)) = D1 at *
            refine walkW_do rfl (inKA.of HKD1.out) (fun K hK => ?_)
            go_simp
            refine hK _ _ ?_; clear hK K
            obtain ⟨c0, c1, c2, c3, c4, c5, c6⟩ := HBD1.out.cells
            have hfz := HBD1.out.2
            refine walkW_do rfl (inKA.of HKD1.out) (fun K hK => ?_)
            go_simp
            refine hK _ _ ?_; clear hK K
            have HBD2 : Hid (QBox (D1.setCell ⟨z5, 1, none⟩ (.int .i64 (rdL x3))) z5 ⟨6, rdL x3, 0, 0, 0, rdL x1, 0⟩) := Lib.hid (HBD1.out.set 1 (by decide) (rdL x3))
            have HKD2 : Hid (Keep (fun j => j = z5) wr (D1.setCell ⟨z5, 1, none⟩ (.int .i64 (rdL x3)))) := Lib.hid (HKD1.out.setCell (p := ⟨z5, 1, none⟩) _ (.inl rfl))
            clear c0 c1 c2 c3 c4 c5 c6 hfz HBD1 HKD1
            generalize D1.setCell ⟨z5, 1, none⟩ (.int .i64 (rdL x3)) = D2 at *
            refine walkW_do rfl (inKA.of HKD2.out) (fun K hK => ?_)
            go_simp
            refine hK _ _ ?_; clear hK K
            obtain ⟨c0, c1, c2, c3, c4, c5, c6⟩ := HBD2.out.cells
            have hfz := HBD2.out.2
            refine walkW_do rfl (inKA.of HKD2.out) (fun K hK => ?_)
            go_simp
            refine hK _ _ ?_; clear hK K
            have HBD3 : Hid (QBox (D2.setCell ⟨z5, 2, none⟩ (.int .i64 (rdL x4))) z5 ⟨6, rdL x3, rdL x4, 0, 0, rdL x1, 0⟩) := Lib.hid (HBD2.out.set 2 (by decide) (rdL x4))
            have HKD3 : Hid (Keep (fun j => j = z5) wr (D2.setCell ⟨z5, 2, none⟩ (.int .i64 (rdL x4)))) := Lib.hid (HKD2.out.setCell (p := ⟨z5, 2, none⟩) _ (.inl rfl))
            clear c0 c1 c2 c3 c4 c5 c6 hfz HBD2 HKD2
            generalize D2.setCell ⟨z5, 2, none⟩ (.int .i64 (rdL x4)) = D3 at *
            refine walkW_do rfl (inKA.of HKD3.out) (fun K hK => ?_)
            go_simp
            refine hK _ _ ?_; clear hK K
            obtain ⟨c0, c1, c2, c3, c4, c5, c6⟩ := HBD3.out.cells
            have hfz := HBD3.out.2
            refine walkW_do rfl (inKA.of HKD3.out) (fun K hK => ?_)
            go_simp
            refine hK _ _ ?_; clear hK K
            have HBD4 : Hid (QBox (D3.setCell ⟨z5, 3, none⟩ (.int .i64 (rdL x5))) z5 ⟨6, rdL x3, rdL x4, rdL x5, 0, rdL x1, 0⟩) := Lib.hid (HBD3.out.set 3 (by decide) (rdL x5))
            have HKD4 : Hid (Keep (fun j => j = z5) wr (D3.setCell ⟨z5, 3, none⟩ (.int .i64 (rdL x5)))) := Lib.hid (HKD3.out.setCell (p := ⟨z5, 3, none⟩) _ (.inl rfl))
            clear c0 c1 c2 c3 c4 c5 c6 hfz HBD3 HKD3
            generalize D3.setCell ⟨z5, 3, none⟩ (.int .i64 (rdL x5)) = D4 at *
            refine walkW_do rfl (inKA.of HKD4.out) (fun K hK => ?_)
            go_simp
            refine hK _ _ ?_; clear hK K
            obtain ⟨c0, c1, c2, c3, c4, c5, c6⟩ := HBD4.out.cells
            have hfz := HBD4.out.2
            refine walkW_do rfl (inKA.of HKD4.out) (fun K hK => ?_)
            go_simp
            refine hK _ _ ?_; clear hK K
            have HBD5 : Hid (QBox (D4.setCell ⟨z5, 4, none⟩ (.int .i64 (rdL x6))) z5 ⟨6, rdL x3, rdL x4, rdL x5, rdL x6, rdL x1, 0⟩) := Lib.hid (HBD4.out.set 4 (by decide) (rdL x6))
            have HKD5 : Hid (Keep (fun j => j = z5) wr (D4.setCell ⟨z5, 4, none⟩ (.int .i64 (rdL x6)))) := Lib.hid (HKD4.out.setCell (p := ⟨z5, 4, none⟩) _ (.inl rfl))
            clear c0 c1 c2 c3 c4 c5 c6 hfz HBD4 HKD4
            generalize D4.setCell ⟨z5, 4, none⟩ (.int .i64 (rdL x6)) = D5 at *
            refine ⟨inKA.of HKD5.out, ?_⟩
            have HQ4 := Lib.hid (HQ3.out.keep HKD5.out (fun e => HZG.out.2.1 e))
            have HK4 : Hid (Keep (fun _ => False) w D5) := Lib.hid (HK3.out.trans' HKD5.out (fun j e => .inr (by have h5 : j = z5 := e; have := HZG.out; omega)))
            generalize D5 = DE at *
            have HVA : Hid (∀ W, Calls Tryd.prog 15 #[qV ⟨6, rdL x3, rdL x4, rdL x5, rdL x6, rdL x1, 0⟩] W fun e w' => e = .returned (.bool (decide (Qy.ok ⟨6, rdL x3, rdL x4, rdL x5, rdL x6, rdL x1, 0⟩))) ∧ Keep (fun _ => False) W w') := Lib.hid (refValid_any ⟨6, rdL x3, rdL x4, rdL x5, rdL x6, rdL x1, 0⟩)
            have HLI : Hid (Qy.ok ⟨6, rdL x3, rdL x4, rdL x5, rdL x6, rdL x1, 0⟩ → ∀ W, Calls Tryd.prog 24 #[qV ⟨6, rdL x3, rdL x4, rdL x5, rdL x6, rdL x1, 0⟩] W fun e w' => e = .returned (.string (bs (lineL ⟨6, rdL x3, rdL x4, rdL x5, rdL x6, rdL x1, 0⟩))) ∧ Keep (fun _ => False) W w') := Lib.hid (line_ref ⟨6, rdL x3, rdL x4, rdL x5, rdL x6, rdL x1, 0⟩)
            clear HKD5 HK3 HQ3 HB HWR HRD
            clear HR1 HR3 HR4 HR5 HR6
            generalize rdL x1 = y1 at *
            generalize rdL x3 = y3 at *
            generalize rdL x4 = y4 at *
            generalize rdL x5 = y5 at *
            generalize rdL x6 = y6 at *
            obtain ⟨c0, c1, c2, c3, c4, c5, c6⟩ := HBD5.out.cells
            simp only at c0 c1 c2 c3 c4 c5 c6
            go_wp2_with fail
            clear c0 c1 c2 c3 c4 c5 c6
            with_reducible refine (HVA.out _).mono ?_
            rintro e V7 ⟨rfl, k⟩
            have HB7 := Lib.hid (HBD5.out.kept k)
            have HQ7 := Lib.hid (HQ4.out.kept k)
            have HK7 := Lib.hid (HK4.out.trans k)
            clear k HVA HBD5 HQ4 HK4
            by_cases hok : Qy.ok ⟨6, y3, y4, y5, y6, y1, 0⟩
            · rw [decide_eq_true hok]
              have HL2 := Lib.hid (HLI.out hok)
              have HL3 := Lib.hid (bs_list (lineL ⟨6, y3, y4, y5, y6, y1, 0⟩))
              clear HLI
              obtain ⟨c0, c1, c2, c3, c4, c5, c6⟩ := HB7.out.cells
              simp only at c0 c1 c2 c3 c4 c5 c6
              by_cases hl : lineL ⟨6, y3, y4, y5, y6, y1, 0⟩ = s.data.toList
              · have HP1 : Hid (pq = some ⟨6, y3, y4, y5, y6, y1, 0⟩) := Lib.hid (by rw [HRQ.out, if_pos ⟨hok, hl⟩])
                have hb : ((bs (lineL ⟨6, y3, y4, y5, y6, y1, 0⟩)).toList == s.toList) = true := by rw [str_beq, HL3.out]; simpa using hl
                have hbn : ((bs (lineL ⟨6, y3, y4, y5, y6, y1, 0⟩)).toList != s.toList) = false := by rw [bne, hb]; rfl
                clear hok hl HRQ HL3
                generalize bs (lineL ⟨6, y3, y4, y5, y6, y1, 0⟩) = sl at *
                go_wp2_with fail
                clear c0 c1 c2 c3 c4 c5 c6
                with_reducible refine (HL2.out _).mono ?_
                rintro e V8 ⟨rfl, k⟩
                have HB8 := Lib.hid (HB7.out.kept k)
                have HQ8 := Lib.hid (HQ7.out.kept k)
                have HK8 := Lib.hid (HK7.out.trans k)
                clear k HL2 HB7 HQ7 HK7
                obtain ⟨c0, c1, c2, c3, c4, c5, c6⟩ := HB8.out.cells
                obtain ⟨d0, d1, d2, d3, d4, d5, d6⟩ := HQ8.out.cells
                have hfz := HQ8.out.2
                go_wp2_with fail
                clear d0 d1 d2 d3 d4 d5 d6 hfz
                have hput := QBox.put HQ8.out 6 y3 y4 y5 y6 y1 0
                have HKE : Hid (Keep (fun _ => False) w (((((((V8.setCell ⟨z2, 0, none⟩ (.int .i64 6)).setCell ⟨z2, 1, none⟩ (.int .i64 y3)).setCell ⟨z2, 2, none⟩ (.int .i64 y4)).setCell ⟨z2, 3, none⟩ (.int .i64 y5)).setCell ⟨z2, 4, none⟩ (.int .i64 y6)).setCell ⟨z2, 5, none⟩ (.int .i64 y1)).setCell ⟨z2, 6, none⟩ (.int .i64 0))) := Lib.hid (HK8.out.trans' hput.2 (fun j e => .inr (by have h5 : j = z2 := e; have := HZ2.out; omega)))
                obtain ⟨d0, d1, d2, d3, d4, d5, d6⟩ := hput.1.cells
                simp only at d0 d1 d2 d3 d4 d5 d6
                clear hput
                generalize (((((((V8.setCell ⟨z2, 0, none⟩ (.int .i64 6)).setCell ⟨z2, 1, none⟩ (.int .i64 y3)).setCell ⟨z2, 2, none⟩ (.int .i64 y4)).setCell ⟨z2, 3, none⟩ (.int .i64 y5)).setCell ⟨z2, 4, none⟩ (.int .i64 y6)).setCell ⟨z2, 5, none⟩ (.int .i64 y1)).setCell ⟨z2, 6, none⟩ (.int .i64 0)) = W9 at *
                refine bodyPost_ret (v := .tuple #[qV ⟨6, y3, y4, y5, y6, y1, 0⟩, .int .i64 0]) (by simp [results, Tryd.results17, go_sem, d0, d1, d2, d3, d4, d5, d6]) rfl ?_
                exact ⟨by rw [HP1.out]; rfl, HKE.out⟩
              · have HP1 : Hid (pq = none) := Lib.hid (by rw [HRQ.out, if_neg (fun h => hl h.2)])
                have hb : ((bs (lineL ⟨6, y3, y4, y5, y6, y1, 0⟩)).toList == s.toList) = false := by rw [str_beq, HL3.out]; simpa using hl
                have hbn : ((bs (lineL ⟨6, y3, y4, y5, y6, y1, 0⟩)).toList != s.toList) = true := by rw [bne, hb]; rfl
                clear hok hl HRQ HL3
                generalize bs (lineL ⟨6, y3, y4, y5, y6, y1, 0⟩) = sl at *
                go_wp2_with fail
                clear c0 c1 c2 c3 c4 c5 c6
                with_reducible refine (HL2.out _).mono ?_
                rintro e V8 ⟨rfl, k⟩
                have HB8 := Lib.hid (HB7.out.kept k)
                have HQ8 := Lib.hid (HQ7.out.kept k)
                have HK8 := Lib.hid (HK7.out.trans k)
                clear k HL2 HB7 HQ7 HK7
                obtain ⟨c0, c1, c2, c3, c4, c5, c6⟩ := HB8.out.cells
                obtain ⟨d0, d1, d2, d3, d4, d5, d6⟩ := HQ8.out.cells
                have hfz := HQ8.out.2
                go_wp2_with fail
                clear d0 d1 d2 d3 d4 d5 d6 hfz
                have hput := QBox.put HQ8.out 0 0 0 0 0 0 0
                have HKE : Hid (Keep (fun _ => False) w (((((((V8.setCell ⟨z2, 0, none⟩ (.int .i64 0)).setCell ⟨z2, 1, none⟩ (.int .i64 0)).setCell ⟨z2, 2, none⟩ (.int .i64 0)).setCell ⟨z2, 3, none⟩ (.int .i64 0)).setCell ⟨z2, 4, none⟩ (.int .i64 0)).setCell ⟨z2, 5, none⟩ (.int .i64 0)).setCell ⟨z2, 6, none⟩ (.int .i64 0))) := Lib.hid (HK8.out.trans' hput.2 (fun j e => .inr (by have h5 : j = z2 := e; have := HZ2.out; omega)))
                obtain ⟨d0, d1, d2, d3, d4, d5, d6⟩ := hput.1.cells
                simp only at d0 d1 d2 d3 d4 d5 d6
                clear hput
                generalize (((((((V8.setCell ⟨z2, 0, none⟩ (.int .i64 0)).setCell ⟨z2, 1, none⟩ (.int .i64 0)).setCell ⟨z2, 2, none⟩ (.int .i64 0)).setCell ⟨z2, 3, none⟩ (.int .i64 0)).setCell ⟨z2, 4, none⟩ (.int .i64 0)).setCell ⟨z2, 5, none⟩ (.int .i64 0)).setCell ⟨z2, 6, none⟩ (.int .i64 0)) = W9 at *
                refine bodyPost_ret (v := .tuple #[qV ⟨0, 0, 0, 0, 0, 0, 0⟩, .int .i64 50]) (by simp [results, Tryd.results17, go_sem, d0, d1, d2, d3, d4, d5, d6]) rfl ?_
                exact ⟨by rw [HP1.out]; rfl, HKE.out⟩
            · rw [decide_eq_false hok]
              have HP1 : Hid (pq = none) := Lib.hid (by rw [HRQ.out, if_neg (fun h => hok h.1)])
              clear hok HRQ HLI
              obtain ⟨c0, c1, c2, c3, c4, c5, c6⟩ := HB7.out.cells
              obtain ⟨d0, d1, d2, d3, d4, d5, d6⟩ := HQ7.out.cells
              have hfz := HQ7.out.2
              go_wp2_with fail
              clear d0 d1 d2 d3 d4 d5 d6 hfz
              have hput := QBox.put HQ7.out 0 0 0 0 0 0 0
              have HKE : Hid (Keep (fun _ => False) w (((((((V7.setCell ⟨z2, 0, none⟩ (.int .i64 0)).setCell ⟨z2, 1, none⟩ (.int .i64 0)).setCell ⟨z2, 2, none⟩ (.int .i64 0)).setCell ⟨z2, 3, none⟩ (.int .i64 0)).setCell ⟨z2, 4, none⟩ (.int .i64 0)).setCell ⟨z2, 5, none⟩ (.int .i64 0)).setCell ⟨z2, 6, none⟩ (.int .i64 0))) := Lib.hid (HK7.out.trans' hput.2 (fun j e => .inr (by have h5 : j = z2 := e; have := HZ2.out; omega)))
              obtain ⟨d0, d1, d2, d3, d4, d5, d6⟩ := hput.1.cells
              simp only at d0 d1 d2 d3 d4 d5 d6
              clear hput
              generalize (((((((V7.setCell ⟨z2, 0, none⟩ (.int .i64 0)).setCell ⟨z2, 1, none⟩ (.int .i64 0)).setCell ⟨z2, 2, none⟩ (.int .i64 0)).setCell ⟨z2, 3, none⟩ (.int .i64 0)).setCell ⟨z2, 4, none⟩ (.int .i64 0)).setCell ⟨z2, 5, none⟩ (.int .i64 0)).setCell ⟨z2, 6, none⟩ (.int .i64 0)) = W9 at *
              refine bodyPost_ret (v := .tuple #[qV ⟨0, 0, 0, 0, 0, 0, 0⟩, .int .i64 50]) (by simp [results, Tryd.results17, go_sem, d0, d1, d2, d3, d4, d5, d6]) rfl ?_
              exact ⟨by rw [HP1.out]; rfl, HKE.out⟩
          · have hnz : ¬ (n : Int) = 7 := by omega
            have HP1 : Hid (pq = none) := Lib.hid (by rw [HRS.out, refQ_6_no HKD.out.symm (by rw [HN.out]; exact hnn)])
            clear hnn
            obtain ⟨c0, c1, c2, c3, c4, c5, c6⟩ := HB.out.cells
            obtain ⟨d0, d1, d2, d3, d4, d5, d6⟩ := HQ3.out.cells
            have hfz := HQ3.out.2
            go_wp2_with fail
            clear d0 d1 d2 d3 d4 d5 d6 hfz
            have hput := QBox.put HQ3.out 0 0 0 0 0 0 0
            have HKE : Hid (Keep (fun _ => False) w (((((((wr.setCell ⟨z2, 0, none⟩ (.int .i64 0)).setCell ⟨z2, 1, none⟩ (.int .i64 0)).setCell ⟨z2, 2, none⟩ (.int .i64 0)).setCell ⟨z2, 3, none⟩ (.int .i64 0)).setCell ⟨z2, 4, none⟩ (.int .i64 0)).setCell ⟨z2, 5, none⟩ (.int .i64 0)).setCell ⟨z2, 6, none⟩ (.int .i64 0))) := Lib.hid (HK3.out.trans' hput.2 (fun j e => .inr (by have h5 : j = z2 := e; have := HZ2.out; omega)))
            obtain ⟨d0, d1, d2, d3, d4, d5, d6⟩ := hput.1.cells
            simp only at d0 d1 d2 d3 d4 d5 d6
            clear hput
            generalize (((((((wr.setCell ⟨z2, 0, none⟩ (.int .i64 0)).setCell ⟨z2, 1, none⟩ (.int .i64 0)).setCell ⟨z2, 2, none⟩ (.int .i64 0)).setCell ⟨z2, 3, none⟩ (.int .i64 0)).setCell ⟨z2, 4, none⟩ (.int .i64 0)).setCell ⟨z2, 5, none⟩ (.int .i64 0)).setCell ⟨z2, 6, none⟩ (.int .i64 0)) = W9 at *
            refine bodyPost_ret (v := .tuple #[qV ⟨0, 0, 0, 0, 0, 0, 0⟩, .int .i64 50]) (by simp [results, Tryd.results17, go_sem, d0, d1, d2, d3, d4, d5, d6]) rfl ?_
            exact ⟨by rw [HP1.out]; rfl, HKE.out⟩
        · rw [hk] at HB HKD
          clear hk
          by_cases hnn : n = 9
          · subst hnn
            obtain ⟨x1, x2, x3, x4, x5, x6, x7, x8, rfl⟩ := list_8 (l := r) (by have h := HN.out; simpa using h)
            have HRQ : Hid (pq = if Qy.ok ⟨7, rdL x5, rdL x6, rdL x7, rdL x8, rdL x1, rdL x3⟩ ∧ lineL ⟨7, rdL x5, rdL x6, rdL x7, rdL x8, rdL x1, rdL x3⟩ = s.data.toList then some ⟨7, rdL x5, rdL x6, rdL x7, rdL x8, rdL x1, rdL x3⟩ else none) := Lib.hid (by rw [HRS.out, refQ_7 HKD.out.symm])
            have HRD : Hid (∀ (x : List UInt8) W, Calls Tryd.prog 30 #[.string (bs x)] W fun e w' => e = .returned (.int .i64 (rdL x)) ∧ w' = W) := Lib.hid (fun x W => by
              refine (read_ref (bs x) W).mono fun e w' h => ?_
              obtain ⟨h1, h2⟩ := h
              rw [bs_list] at h1
              exact ⟨h1, h2.symm⟩)
            obtain ⟨c0, c1, c2, c3, c4, c5, c6⟩ := HB.out.cells
            go_upto_region 19 with (fail)
            clear c0 c1 c2 c3 c4 c5 c6
            have r1 : ∀ p : KA (fun j => j = z5) wr, p.val.cell? ⟨g, off + 1, none⟩ = some (.string (bs x1)) := fun p => (HWR.out.keep p.k (fun e => HZG.out.1 e)) 1 x1 rfl
            have r3 : ∀ p : KA (fun j => j = z5) wr, p.val.cell? ⟨g, off + 3, none⟩ = some (.string (bs x3)) := fun p => (HWR.out.keep p.k (fun e => HZG.out.1 e)) 3 x3 rfl
            have r5 : ∀ p : KA (fun j => j = z5) wr, p.val.cell? ⟨g, off + 5, none⟩ = some (.string (bs x5)) := fun p => (HWR.out.keep p.k (fun e => HZG.out.1 e)) 5 x5 rfl
            have r6 : ∀ p : KA (fun j => j = z5) wr, p.val.cell? ⟨g, off + 6, none⟩ = some (.string (bs x6)) := fun p => (HWR.out.keep p.k (fun e => HZG.out.1 e)) 6 x6 rfl
            have r7 : ∀ p : KA (fun j => j = z5) wr, p.val.cell? ⟨g, off + 7, none⟩ = some (.string (bs x7)) := fun p => (HWR.out.keep p.k (fun e => HZG.out.1 e)) 7 x7 rfl
            have r8 : ∀ p : KA (fun j => j = z5) wr, p.val.cell? ⟨g, off + 8, none⟩ = some (.string (bs x8)) := fun p => (HWR.out.keep p.k (fun e => HZG.out.1 e)) 8 x8 rfl
            generalize hy1 : bs x1 = b1 at r1
            have HR1 : Hid (∀ W, Calls Tryd.prog 30 #[.string b1] W fun e w' => e = .returned (.int .i64 (rdL x1)) ∧ w' = W) := Lib.hid (by rw [← hy1]; exact HRD.out x1)
            clear hy1
            generalize hy3 : bs x3 = b3 at r3
            have HR3 : Hid (∀ W, Calls Tryd.prog 30 #[.string b3] W fun e w' => e = .returned (.int .i64 (rdL x3)) ∧ w' = W) := Lib.hid (by rw [← hy3]; exact HRD.out x3)
            clear hy3
            generalize hy5 : bs x5 = b5 at r5
            have HR5 : Hid (∀ W, Calls Tryd.prog 30 #[.string b5] W fun e w' => e = .returned (.int .i64 (rdL x5)) ∧ w' = W) := Lib.hid (by rw [← hy5]; exact HRD.out x5)
            clear hy5
            generalize hy6 : bs x6 = b6 at r6
            have HR6 : Hid (∀ W, Calls Tryd.prog 30 #[.string b6] W fun e w' => e = .returned (.int .i64 (rdL x6)) ∧ w' = W) := Lib.hid (by rw [← hy6]; exact HRD.out x6)
            clear hy6
            generalize hy7 : bs x7 = b7 at r7
            have HR7 : Hid (∀ W, Calls Tryd.prog 30 #[.string b7] W fun e w' => e = .returned (.int .i64 (rdL x7)) ∧ w' = W) := Lib.hid (by rw [← hy7]; exact HRD.out x7)
            clear hy7
            generalize hy8 : bs x8 = b8 at r8
            have HR8 : Hid (∀ W, Calls Tryd.prog 30 #[.string b8] W fun e w' => e = .returned (.int .i64 (rdL x8)) ∧ w' = W) := Lib.hid (by rw [← hy8]; exact HRD.out x8)
            clear hy8
            have HKD0 : Hid (Keep (fun j => j = z5) wr wr.drew) := Lib.hid (Keep.refl _ wr).drew
            have HBD0 : Hid (QBox wr.drew z5 ⟨7, 0, 0, 0, 0, 0, 0⟩) := Lib.hid (HB.out.kept (Keep.refl _ wr).drew)
            refine wp_region_walk [(true, 0), (true, 1), (true, 2), (true, 3), (true, 4), (true, 5), (true, 6), (true, 7), (true, 8), (true, 9), (true, 10), (true, 11), (true, 12), (true, 13), (true, 14), (true, 15), (true, 16), (true, 17), (true, 18), (true, 19), (true, 20), (true, 21), (true, 22), (true, 23), (true, 24), (false, 25), (false, 26), (false, 27), (false, 28), (false, 29), (false, 30), (false, 31), (false, 32), (false, 33), (false, 34), (false, 35)] (inKA (fun j => j = z5) wr) (by kernel_rfl) (by kernel_rfl) ?_
            iterate 3 (refine walkW_read rfl (fun K hK => ?_); go_simp; refine hK _ ?_; clear hK K)
            refine walkW_read rfl (fun K hK => ?_)
            go_simp
            refine ⟨_, fun p => HR1.out p.val, hK _ ?_⟩; clear hK K
            iterate 3 (refine walkW_read rfl (fun K hK => ?_); go_simp; refine hK _ ?_; clear hK K)
            refine walkW_read rfl (fun K hK => ?_)
            go_simp
            refine ⟨_, fun p => HR3.out p.val, hK _ ?_⟩; clear hK K
            iterate 3 (refine walkW_read rfl (fun K hK => ?_); go_simp; refine hK _ ?_; clear hK K)
            refine walkW_read rfl (fun K hK => ?_)
            go_simp
            refine ⟨_, fun p => HR5.out p.val, hK _ ?_⟩; clear hK K
            iterate 3 (refine walkW_read rfl (fun K hK => ?_); go_simp; refine hK _ ?_; clear hK K)
            refine walkW_read rfl (fun K hK => ?_)
            go_simp
            refine ⟨_, fun p => HR6.out p.val, hK _ ?_⟩; clear hK K
            iterate 3 (refine walkW_read rfl (fun K hK => ?_); go_simp; refine hK _ ?_; clear hK K)
            refine walkW_read rfl (fun K hK => ?_)
            go_simp
            refine ⟨_, fun p => HR7.out p.val, hK _ ?_⟩; clear hK K
            iterate 3 (refine walkW_read rfl (fun K hK => ?_); go_simp; refine hK _ ?_; clear hK K)
            refine walkW_read rfl (fun K hK => ?_)
            go_simp
            refine ⟨_, fun p => HR8.out p.val, hK _ ?_⟩; clear hK K
            refine walkW_read rfl (fun K hK => ?_); go_simp; refine hK _ ?_; clear hK K
            clear r1 r3 r5 r6 r7 r8
            generalize wr.drew = D0 at *
            obtain ⟨c0, c1, c2, c3, c4, c5, c6⟩ := HBD0.out.cells
            have hfz := HBD0.out.2
            refine walkW_do rfl (inKA.of HKD0.out) (fun K hK => ?_)
            go_simp
            refine hK _ _ ?_; clear hK K
            have HBD1 : Hid (QBox (D0.setCell ⟨z5, 5, none⟩ (.int .i64 (rdL x1))) z5 ⟨7, 0, 0, 0, 0, rdL x1, 0⟩) := Lib.hid (HBD0.out.set 5 (by decide) (rdL x1))
            have HKD1 : Hid (Keep (fun j => j = z5) wr (D0.setCell ⟨z5, 5, none⟩ (.int .i64 (rdL x1)))) := Lib.hid (HKD0.out.setCell (p := ⟨z5, 5, none⟩) _ (.inl rfl))
            clear c0 c1 c2 c3 c4 c5 c6 hfz HBD0 HKD0
            generalize D0.setCell ⟨z5, 5, none⟩ (.int .i64 (rdL x1)) = D1 at *
            refine walkW_do rfl (inKA.of HKD1.out) (fun K hK => ?_)
            go_simp
            refine hK _ _ ?_; clear hK K
            obtain ⟨c0, c1, c2, c3, c4, c5, c6⟩ := HBD1.out.cells
            have hfz := HBD1.out.2
            refine walkW_do rfl (inKA.of HKD1.out) (fun K hK => ?_)
            go_simp
            refine hK _ _ ?_; clear hK K
            have HBD2 : Hid (QBox (D1.setCell ⟨z5, 6, none⟩ (.int .i64 (rdL x3))) z5 ⟨7, 0, 0, 0, 0, rdL x1, rdL x3⟩) := Lib.hid (HBD1.out.set 6 (by decide) (rdL x3))
            have HKD2 : Hid (Keep (fun j => j = z5) wr (D1.setCell ⟨z5, 6, none⟩ (.int .i64 (rdL x3)))) := Lib.hid (HKD1.out.setCell (p := ⟨z5, 6, none⟩) _ (.inl rfl))
            clear c0 c1 c2 c3 c4 c5 c6 hfz HBD1 HKD1
            generalize D1.setCell ⟨z5, 6, none⟩ (.int .i64 (rdL x3)) = D2 at *
            refine walkW_do rfl (inKA.of HKD2.out) (fun K hK => ?_)
            go_simp
            refine hK _ _ ?_; clear hK K
            obtain ⟨c0, c1, c2, c3, c4, c5, c6⟩ := HBD2.out.cells
            have hfz := HBD2.out.2
            refine walkW_do rfl (inKA.of HKD2.out) (fun K hK => ?_)
            go_simp
            refine hK _ _ ?_; clear hK K
            have HBD3 : Hid (QBox (D2.setCell ⟨z5, 1, none⟩ (.int .i64 (rdL x5))) z5 ⟨7, rdL x5, 0, 0, 0, rdL x1, rdL x3⟩) := Lib.hid (HBD2.out.set 1 (by decide) (rdL x5))
            have HKD3 : Hid (Keep (fun j => j = z5) wr (D2.setCell ⟨z5, 1, none⟩ (.int .i64 (rdL x5)))) := Lib.hid (HKD2.out.setCell (p := ⟨z5, 1, none⟩) _ (.inl rfl))
            clear c0 c1 c2 c3 c4 c5 c6 hfz HBD2 HKD2
            generalize D2.setCell ⟨z5, 1, none⟩ (.int .i64 (rdL x5)) = D3 at *
            refine walkW_do rfl (inKA.of HKD3.out) (fun K hK => ?_)
            go_simp
            refine hK _ _ ?_; clear hK K
            obtain ⟨c0, c1, c2, c3, c4, c5, c6⟩ := HBD3.out.cells
            have hfz := HBD3.out.2
            refine walkW_do rfl (inKA.of HKD3.out) (fun K hK => ?_)
            go_simp
            refine hK _ _ ?_; clear hK K
            have HBD4 : Hid (QBox (D3.setCell ⟨z5, 2, none⟩ (.int .i64 (rdL x6))) z5 ⟨7, rdL x5, rdL x6, 0, 0, rdL x1, rdL x3⟩) := Lib.hid (HBD3.out.set 2 (by decide) (rdL x6))
            have HKD4 : Hid (Keep (fun j => j = z5) wr (D3.setCell ⟨z5, 2, none⟩ (.int .i64 (rdL x6)))) := Lib.hid (HKD3.out.setCell (p := ⟨z5, 2, none⟩) _ (.inl rfl))
            clear c0 c1 c2 c3 c4 c5 c6 hfz HBD3 HKD3
            generalize D3.setCell ⟨z5, 2, none⟩ (.int .i64 (rdL x6)) = D4 at *
            refine walkW_do rfl (inKA.of HKD4.out) (fun K hK => ?_)
            go_simp
            refine hK _ _ ?_; clear hK K
            obtain ⟨c0, c1, c2, c3, c4, c5, c6⟩ := HBD4.out.cells
            have hfz := HBD4.out.2
            refine walkW_do rfl (inKA.of HKD4.out) (fun K hK => ?_)
            go_simp
            refine hK _ _ ?_; clear hK K
            have HBD5 : Hid (QBox (D4.setCell ⟨z5, 3, none⟩ (.int .i64 (rdL x7))) z5 ⟨7, rdL x5, rdL x6, rdL x7, 0, rdL x1, rdL x3⟩) := Lib.hid (HBD4.out.set 3 (by decide) (rdL x7))
            have HKD5 : Hid (Keep (fun j => j = z5) wr (D4.setCell ⟨z5, 3, none⟩ (.int .i64 (rdL x7)))) := Lib.hid (HKD4.out.setCell (p := ⟨z5, 3, none⟩) _ (.inl rfl))
            clear c0 c1 c2 c3 c4 c5 c6 hfz HBD4 HKD4
            generalize D4.setCell ⟨z5, 3, none⟩ (.int .i64 (rdL x7)) = D5 at *
            refine walkW_do rfl (inKA.of HKD5.out) (fun K hK => ?_)
            go_simp
            refine hK _ _ ?_; clear hK K
            obtain ⟨c0, c1, c2, c3, c4, c5, c6⟩ := HBD5.out.cells
            have hfz := HBD5.out.2
            refine walkW_do rfl (inKA.of HKD5.out) (fun K hK => ?_)
            go_simp
            refine hK _ _ ?_; clear hK K
            have HBD6 : Hid (QBox (D5.setCell ⟨z5, 4, none⟩ (.int .i64 (rdL x8))) z5 ⟨7, rdL x5, rdL x6, rdL x7, rdL x8, rdL x1, rdL x3⟩) := Lib.hid (HBD5.out.set 4 (by decide) (rdL x8))
            have HKD6 : Hid (Keep (fun j => j = z5) wr (D5.setCell ⟨z5, 4, none⟩ (.int .i64 (rdL x8)))) := Lib.hid (HKD5.out.setCell (p := ⟨z5, 4, none⟩) _ (.inl rfl))
            clear c0 c1 c2 c3 c4 c5 c6 hfz HBD5 HKD5
            generalize D5.setCell ⟨z5, 4, none⟩ (.int .i64 (rdL x8)) = D6 at *
            refine ⟨inKA.of HKD6.out, ?_⟩
            have HQ4 := Lib.hid (HQ3.out.keep HKD6.out (fun e => HZG.out.2.1 e))
            have HK4 : Hid (Keep (fun _ => False) w D6) := Lib.hid (HK3.out.trans' HKD6.out (fun j e => .inr (by have h5 : j = z5 := e; have := HZG.out; omega)))
            generalize D6 = DE at *
            have HVA : Hid (∀ W, Calls Tryd.prog 15 #[qV ⟨7, rdL x5, rdL x6, rdL x7, rdL x8, rdL x1, rdL x3⟩] W fun e w' => e = .returned (.bool (decide (Qy.ok ⟨7, rdL x5, rdL x6, rdL x7, rdL x8, rdL x1, rdL x3⟩))) ∧ Keep (fun _ => False) W w') := Lib.hid (refValid_any ⟨7, rdL x5, rdL x6, rdL x7, rdL x8, rdL x1, rdL x3⟩)
            have HLI : Hid (Qy.ok ⟨7, rdL x5, rdL x6, rdL x7, rdL x8, rdL x1, rdL x3⟩ → ∀ W, Calls Tryd.prog 24 #[qV ⟨7, rdL x5, rdL x6, rdL x7, rdL x8, rdL x1, rdL x3⟩] W fun e w' => e = .returned (.string (bs (lineL ⟨7, rdL x5, rdL x6, rdL x7, rdL x8, rdL x1, rdL x3⟩))) ∧ Keep (fun _ => False) W w') := Lib.hid (line_ref ⟨7, rdL x5, rdL x6, rdL x7, rdL x8, rdL x1, rdL x3⟩)
            clear HKD6 HK3 HQ3 HB HWR HRD
            clear HR1 HR3 HR5 HR6 HR7 HR8
            generalize rdL x1 = y1 at *
            generalize rdL x3 = y3 at *
            generalize rdL x5 = y5 at *
            generalize rdL x6 = y6 at *
            generalize rdL x7 = y7 at *
            generalize rdL x8 = y8 at *
            obtain ⟨c0, c1, c2, c3, c4, c5, c6⟩ := HBD6.out.cells
            simp only at c0 c1 c2 c3 c4 c5 c6
            go_wp2_with fail
            clear c0 c1 c2 c3 c4 c5 c6
            with_reducible refine (HVA.out _).mono ?_
            rintro e V7 ⟨rfl, k⟩
            have HB7 := Lib.hid (HBD6.out.kept k)
            have HQ7 := Lib.hid (HQ4.out.kept k)
            have HK7 := Lib.hid (HK4.out.trans k)
            clear k HVA HBD6 HQ4 HK4
            by_cases hok : Qy.ok ⟨7, y5, y6, y7, y8, y1, y3⟩
            · rw [decide_eq_true hok]
              have HL2 := Lib.hid (HLI.out hok)
              have HL3 := Lib.hid (bs_list (lineL ⟨7, y5, y6, y7, y8, y1, y3⟩))
              clear HLI
              obtain ⟨c0, c1, c2, c3, c4, c5, c6⟩ := HB7.out.cells
              simp only at c0 c1 c2 c3 c4 c5 c6
              by_cases hl : lineL ⟨7, y5, y6, y7, y8, y1, y3⟩ = s.data.toList
              · have HP1 : Hid (pq = some ⟨7, y5, y6, y7, y8, y1, y3⟩) := Lib.hid (by rw [HRQ.out, if_pos ⟨hok, hl⟩])
                have hb : ((bs (lineL ⟨7, y5, y6, y7, y8, y1, y3⟩)).toList == s.toList) = true := by rw [str_beq, HL3.out]; simpa using hl
                have hbn : ((bs (lineL ⟨7, y5, y6, y7, y8, y1, y3⟩)).toList != s.toList) = false := by rw [bne, hb]; rfl
                clear hok hl HRQ HL3
                generalize bs (lineL ⟨7, y5, y6, y7, y8, y1, y3⟩) = sl at *
                go_wp2_with fail
                clear c0 c1 c2 c3 c4 c5 c6
                with_reducible refine (HL2.out _).mono ?_
                rintro e V8 ⟨rfl, k⟩
                have HB8 := Lib.hid (HB7.out.kept k)
                have HQ8 := Lib.hid (HQ7.out.kept k)
                have HK8 := Lib.hid (HK7.out.trans k)
                clear k HL2 HB7 HQ7 HK7
                obtain ⟨c0, c1, c2, c3, c4, c5, c6⟩ := HB8.out.cells
                obtain ⟨d0, d1, d2, d3, d4, d5, d6⟩ := HQ8.out.cells
                have hfz := HQ8.out.2
                go_wp2_with fail
                clear d0 d1 d2 d3 d4 d5 d6 hfz
                have hput := QBox.put HQ8.out 7 y5 y6 y7 y8 y1 y3
                have HKE : Hid (Keep (fun _ => False) w (((((((V8.setCell ⟨z2, 0, none⟩ (.int .i64 7)).setCell ⟨z2, 1, none⟩ (.int .i64 y5)).setCell ⟨z2, 2, none⟩ (.int .i64 y6)).setCell ⟨z2, 3, none⟩ (.int .i64 y7)).setCell ⟨z2, 4, none⟩ (.int .i64 y8)).setCell ⟨z2, 5, none⟩ (.int .i64 y1)).setCell ⟨z2, 6, none⟩ (.int .i64 y3))) := Lib.hid (HK8.out.trans' hput.2 (fun j e => .inr (by have h5 : j = z2 := e; have := HZ2.out; omega)))
                obtain ⟨d0, d1, d2, d3, d4, d5, d6⟩ := hput.1.cells
                simp only at d0 d1 d2 d3 d4 d5 d6
                clear hput
                generalize (((((((V8.setCell ⟨z2, 0, none⟩ (.int .i64 7)).setCell ⟨z2, 1, none⟩ (.int .i64 y5)).setCell ⟨z2, 2, none⟩ (.int .i64 y6)).setCell ⟨z2, 3, none⟩ (.int .i64 y7)).setCell ⟨z2, 4, none⟩ (.int .i64 y8)).setCell ⟨z2, 5, none⟩ (.int .i64 y1)).setCell ⟨z2, 6, none⟩ (.int .i64 y3)) = W9 at *
                refine bodyPost_ret (v := .tuple #[qV ⟨7, y5, y6, y7, y8, y1, y3⟩, .int .i64 0]) (by simp [results, Tryd.results17, go_sem, d0, d1, d2, d3, d4, d5, d6]) rfl ?_
                exact ⟨by rw [HP1.out]; rfl, HKE.out⟩
              · have HP1 : Hid (pq = none) := Lib.hid (by rw [HRQ.out, if_neg (fun h => hl h.2)])
                have hb : ((bs (lineL ⟨7, y5, y6, y7, y8, y1, y3⟩)).toList == s.toList) = false := by rw [str_beq, HL3.out]; simpa using hl
                have hbn : ((bs (lineL ⟨7, y5, y6, y7, y8, y1, y3⟩)).toList != s.toList) = true := by rw [bne, hb]; rfl
                clear hok hl HRQ HL3
                generalize bs (lineL ⟨7, y5, y6, y7, y8, y1, y3⟩) = sl at *
                go_wp2_with fail
                clear c0 c1 c2 c3 c4 c5 c6
                with_reducible refine (HL2.out _).mono ?_
                rintro e V8 ⟨rfl, k⟩
                have HB8 := Lib.hid (HB7.out.kept k)
                have HQ8 := Lib.hid (HQ7.out.kept k)
                have HK8 := Lib.hid (HK7.out.trans k)
                clear k HL2 HB7 HQ7 HK7
                obtain ⟨c0, c1, c2, c3, c4, c5, c6⟩ := HB8.out.cells
                obtain ⟨d0, d1, d2, d3, d4, d5, d6⟩ := HQ8.out.cells
                have hfz := HQ8.out.2
                go_wp2_with fail
                clear d0 d1 d2 d3 d4 d5 d6 hfz
                have hput := QBox.put HQ8.out 0 0 0 0 0 0 0
                have HKE : Hid (Keep (fun _ => False) w (((((((V8.setCell ⟨z2, 0, none⟩ (.int .i64 0)).setCell ⟨z2, 1, none⟩ (.int .i64 0)).setCell ⟨z2, 2, none⟩ (.int .i64 0)).setCell ⟨z2, 3, none⟩ (.int .i64 0)).setCell ⟨z2, 4, none⟩ (.int .i64 0)).setCell ⟨z2, 5, none⟩ (.int .i64 0)).setCell ⟨z2, 6, none⟩ (.int .i64 0))) := Lib.hid (HK8.out.trans' hput.2 (fun j e => .inr (by have h5 : j = z2 := e; have := HZ2.out; omega)))
                obtain ⟨d0, d1, d2, d3, d4, d5, d6⟩ := hput.1.cells
                simp only at d0 d1 d2 d3 d4 d5 d6
                clear hput
                generalize (((((((V8.setCell ⟨z2, 0, none⟩ (.int .i64 0)).setCell ⟨z2, 1, none⟩ (.int .i64 0)).setCell ⟨z2, 2, none⟩ (.int .i64 0)).setCell ⟨z2, 3, none⟩ (.int .i64 0)).setCell ⟨z2, 4, none⟩ (.int .i64 0)).setCell ⟨z2, 5, none⟩ (.int .i64 0)).setCell ⟨z2, 6, none⟩ (.int .i64 0)) = W9 at *
                refine bodyPost_ret (v := .tuple #[qV ⟨0, 0, 0, 0, 0, 0, 0⟩, .int .i64 50]) (by simp [results, Tryd.results17, go_sem, d0, d1, d2, d3, d4, d5, d6]) rfl ?_
                exact ⟨by rw [HP1.out]; rfl, HKE.out⟩
            · rw [decide_eq_false hok]
              have HP1 : Hid (pq = none) := Lib.hid (by rw [HRQ.out, if_neg (fun h => hok h.1)])
              clear hok HRQ HLI
              obtain ⟨c0, c1, c2, c3, c4, c5, c6⟩ := HB7.out.cells
              obtain ⟨d0, d1, d2, d3, d4, d5, d6⟩ := HQ7.out.cells
              have hfz := HQ7.out.2
              go_wp2_with fail
              clear d0 d1 d2 d3 d4 d5 d6 hfz
              have hput := QBox.put HQ7.out 0 0 0 0 0 0 0
              have HKE : Hid (Keep (fun _ => False) w (((((((V7.setCell ⟨z2, 0, none⟩ (.int .i64 0)).setCell ⟨z2, 1, none⟩ (.int .i64 0)).setCell ⟨z2, 2, none⟩ (.int .i64 0)).setCell ⟨z2, 3, none⟩ (.int .i64 0)).setCell ⟨z2, 4, none⟩ (.int .i64 0)).setCell ⟨z2, 5, none⟩ (.int .i64 0)).setCell ⟨z2, 6, none⟩ (.int .i64 0))) := Lib.hid (HK7.out.trans' hput.2 (fun j e => .inr (by have h5 : j = z2 := e; have := HZ2.out; omega)))
              obtain ⟨d0, d1, d2, d3, d4, d5, d6⟩ := hput.1.cells
              simp only at d0 d1 d2 d3 d4 d5 d6
              clear hput
              generalize (((((((V7.setCell ⟨z2, 0, none⟩ (.int .i64 0)).setCell ⟨z2, 1, none⟩ (.int .i64 0)).setCell ⟨z2, 2, none⟩ (.int .i64 0)).setCell ⟨z2, 3, none⟩ (.int .i64 0)).setCell ⟨z2, 4, none⟩ (.int .i64 0)).setCell ⟨z2, 5, none⟩ (.int .i64 0)).setCell ⟨z2, 6, none⟩ (.int .i64 0)) = W9 at *
              refine bodyPost_ret (v := .tuple #[qV ⟨0, 0, 0, 0, 0, 0, 0⟩, .int .i64 50]) (by simp [results, Tryd.results17, go_sem, d0, d1, d2, d3, d4, d5, d6]) rfl ?_
              exact ⟨by rw [HP1.out]; rfl, HKE.out⟩
          · have hnz : ¬ (n : Int) = 9 := by omega
            have HP1 : Hid (pq = none) := Lib.hid (by rw [HRS.out, refQ_7_no HKD.out.symm (by rw [HN.out]; exact hnn)])
            clear hnn
            obtain ⟨c0, c1, c2, c3, c4, c5, c6⟩ := HB.out.cells
            obtain ⟨d0, d1, d2, d3, d4, d5, d6⟩ := HQ3.out.cells
            have hfz := HQ3.out.2
            go_wp2_with fail
            clear d0 d1 d2 d3 d4 d5 d6 hfz
            have hput := QBox.put HQ3.out 0 0 0 0 0 0 0
            have HKE : Hid (Keep (fun _ => False) w (((((((wr.setCell ⟨z2, 0, none⟩ (.int .i64 0)).setCell ⟨z2, 1, none⟩ (.int .i64 0)).setCell ⟨z2, 2, none⟩ (.int .i64 0)).setCell ⟨z2, 3, none⟩ (.int .i64 0)).setCell ⟨z2, 4, none⟩ (.int .i64 0)).setCell ⟨z2, 5, none⟩ (.int .i64 0)).setCell ⟨z2, 6, none⟩ (.int .i64 0))) := Lib.hid (HK3.out.trans' hput.2 (fun j e => .inr (by have h5 : j = z2 := e; have := HZ2.out; omega)))
            obtain ⟨d0, d1, d2, d3, d4, d5, d6⟩ := hput.1.cells
            simp only at d0 d1 d2 d3 d4 d5 d6
            clear hput
            generalize (((((((wr.setCell ⟨z2, 0, none⟩ (.int .i64 0)).setCell ⟨z2, 1, none⟩ (.int .i64 0)).setCell ⟨z2, 2, none⟩ (.int .i64 0)).setCell ⟨z2, 3, none⟩ (.int .i64 0)).setCell ⟨z2, 4, none⟩ (.int .i64 0)).setCell ⟨z2, 5, none⟩ (.int .i64 0)).setCell ⟨z2, 6, none⟩ (.int .i64 0)) = W9 at *
            refine bodyPost_ret (v := .tuple #[qV ⟨0, 0, 0, 0, 0, 0, 0⟩, .int .i64 50]) (by simp [results, Tryd.results17, go_sem, d0, d1, d2, d3, d4, d5, d6]) rfl ?_
            exact ⟨by rw [HP1.out]; rfl, HKE.out⟩
end Go.Proofs.YtfcfjeieocjllaaDoor
