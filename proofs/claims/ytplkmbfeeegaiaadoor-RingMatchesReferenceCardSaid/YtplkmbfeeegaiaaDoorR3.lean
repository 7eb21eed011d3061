/-
  The reference's within, Valid, Limit, Slot, Load, Owner.
-/
import Derived.Test.YtplkmbfeeegaiaaDoorR2
namespace Go.Proofs.YtplkmbfeeegaiaaDoor
open Go.RowKit Go.Shelf

set_option maxRecDepth 100000 in
theorem rwithin_b (n lo hi : Int) (b : Bool) (h : decide (lo ≤ n ∧ n ≤ hi) = b) (w : World) : Calls Tryd.prog 55 #[.int .i64 n, .int .i64 lo, .int .i64 hi] w fun e w' => e = .returned (.bool b) ∧ w = w' := by
  by_cases h1 : lo ≤ n
  · by_cases h2 : n ≤ hi
    · obtain rfl : true = b := by rw [← h, decide_eq_true ⟨h1, h2⟩]
      clear h
      go_enter Tryd.func55, Tryd.ntmps55
      go_wp2
      go_ret
      exact ⟨by simp [h2], rfl⟩
    · obtain rfl : false = b := by rw [← h, decide_eq_false (fun e => h2 e.2)]
      clear h
      go_enter Tryd.func55, Tryd.ntmps55
      go_wp2
      go_ret
      exact ⟨by simp [h2], rfl⟩
  · obtain rfl : false = b := by rw [← h, decide_eq_false (fun e => h1 e.1)]
    clear h
    go_enter Tryd.func55, Tryd.ntmps55
    go_wp2
    go_ret
    exact ⟨rfl, rfl⟩

/-- The first k members are in order. -/
def goodK (l : List Mb) (k : Nat) : Prop := ∀ i m, i < k → l[i]? = some m → okMb m ∧ ∀ p, 1 ≤ i → l[i - 1]? = some p → p.node < m.node
theorem goodK_all {l : List Mb} (h1 : 1 ≤ l.length) (h : goodK l l.length) : VL l := by
  refine ⟨fun m hm => ?_, ?_, fun e => by rw [e] at h1; simp at h1⟩
  · obtain ⟨i, hi⟩ := List.mem_iff_getElem?.1 hm
    exact (h i m (List.getElem?_eq_some_iff.1 hi).1 hi).1
  · rw [List.pairwise_iff_getElem]
    intro i j hi hj hij
    obtain ⟨d, rfl⟩ : ∃ d, j = i + 1 + d := ⟨j - i - 1, by omega⟩
    induction d with
    | zero =>
      have := (h (i + 1) _ hj (List.getElem?_eq_getElem hj)).2 l[i] (by omega) (by rw [Nat.add_sub_cancel]; exact List.getElem?_eq_getElem hi)
      simpa using this
    | succ d ih =>
      have h1 := ih (by omega) (by omega)
      have h2 := (h (i + 1 + (d + 1)) _ hj (List.getElem?_eq_getElem hj)).2 (l[i + 1 + d]'(by omega)) (by omega) (by rw [show i + 1 + (d + 1) - 1 = i + 1 + d by omega]; exact List.getElem?_eq_getElem (by omega))
      omega
theorem VL.good {l : List Mb} (h : VL l) (k : Nat) : goodK l k := by
  intro i m _ hm
  refine ⟨h.ok m (List.mem_of_getElem? hm), fun p h1 hp => ?_⟩
  obtain ⟨hi, rfl⟩ := List.getElem?_eq_some_iff.1 hm
  obtain ⟨hj, rfl⟩ := List.getElem?_eq_some_iff.1 hp
  exact List.pairwise_iff_getElem.1 h.asc _ _ hj hi (by omega)
theorem validL_false {l : List Mb} (h : ¬ VL l) : validL l = false := by
  cases e : validL l with
  | false => rfl
  | true => exact absurd ((validL_iff l).1 e) h

set_option maxRecDepth 100000 in
set_option maxHeartbeats 4000000 in
theorem refValid_any (v : Value) (l : List Mb) (w : World) (h : Mbs w v l) : Calls Tryd.prog 20 #[v] w fun e w' => e = .returned (.bool (validL l)) ∧ Keep (fun _ => False) w w' := by
  obtain ⟨hn, -, a, c, b, off, rfl, hc, ha, hcell⟩ := h
  have HC := Lib.hid hcell
  have HA := Lib.hid ha
  clear hcell ha
  obtain ⟨n, hn'⟩ : ∃ n, l.length = n := ⟨_, rfl⟩
  have HL := Lib.hid hn'
  rw [hn'] at hn hc ⊢
  clear hn'
  by_cases hlen : 1 ≤ (n : Int) ∧ (n : Int) ≤ 24
  · have HW : Hid (∀ W, Calls Tryd.prog 55 #[.int .i64 (n : Int), .int .i64 1, .int .i64 24] W fun e w' => e = .returned (.bool true) ∧ W = w') := Lib.hid (fun W => rwithin_b n 1 24 true (decide_eq_true hlen) W)
    go_enter Tryd.func20, Tryd.ntmps20
    go_wp2_with fail
    with_reducible refine (HW.out _).mono ?_
    rintro e w' ⟨rfl, rfl⟩
    clear HW
    go_wp2_with fail
    go_loopg [3] n (fun gh v wr => ∃ (k : Nat), gh + k = n ∧ v = .int .i64 k ∧ goodK l k ∧ Keep (fun _ => False) w wr)
    case atStart => exact ⟨0, by omega, rfl, fun i m h => absurd h (by omega), Keep.refl _ _⟩
    case round =>
      obtain ⟨k, hk, rfl, hgood, hkeep⟩ := hrel
      have HG := Lib.hid hgood
      have HK := Lib.hid hkeep
      clear hgood hkeep
      by_cases hlt : k < n
      · obtain ⟨m, hm⟩ : ∃ m, l[k]? = some m := ⟨_, List.getElem?_eq_getElem (by have := HL.out; omega)⟩
        obtain rfl := HA.out (by have := HL.out; omega)
        have c0 := HK.out.cell (HC.out k m hm).1 (fun h => h)
        have c1 := HK.out.cell (HC.out k m hm).2.1 (fun h => h)
        have c2 := HK.out.cell (HC.out k m hm).2.2 (fun h => h)
        have HM := Lib.hid hm
        have hkz : (k : Int) < (n : Int) := by omega
        have hk0 : (0 : Int) ≤ (k : Int) := by omega
        clear hm
        obtain ⟨mn, mr, mw⟩ := m
        simp only [] at c0 c1 c2
        have HK2 : Hid (Keep (fun _ => False) wr (wr.alloc (.cells #[.int .i64 mn, .int .i64 mr, .int .i64 mw] 25))) := Lib.hid ((Keep.refl _ wr).alloc _)
        have HT3 := Lib.hid (three_cell wr (.int .i64 mn) (.int .i64 mr) (.int .i64 mw) 25)
        go_wp2_with fail
        clear c0 c1 c2
        generalize wr.alloc (.cells #[.int .i64 mn, .int .i64 mr, .int .i64 mw] 25) = W2 at *
        generalize wr.heap.size = z at *
        have d0 : W2.cell? ⟨z, 0, none⟩ = some (.int .i64 mn) := HT3.out.1
        have d1 : W2.cell? ⟨z, 1, none⟩ = some (.int .i64 mr) := HT3.out.2.1
        have d2 : W2.cell? ⟨z, 2, none⟩ = some (.int .i64 mw) := HT3.out.2.2.1
        have HKK := Lib.hid (HK.out.trans HK2.out)
        by_cases h1 : 0 ≤ mn ∧ mn ≤ 23
        · have H1 : Hid (∀ W, Calls Tryd.prog 55 #[.int .i64 mn, .int .i64 0, .int .i64 23] W fun e w' => e = .returned (.bool true) ∧ W = w') := Lib.hid (fun W => rwithin_b mn 0 23 true (decide_eq_true h1) W)
          by_cases h2 : 0 ≤ mr ∧ mr ≤ 3
          · have H2 : Hid (∀ W, Calls Tryd.prog 55 #[.int .i64 mr, .int .i64 0, .int .i64 3] W fun e w' => e = .returned (.bool true) ∧ W = w') := Lib.hid (fun W => rwithin_b mr 0 3 true (decide_eq_true h2) W)
            by_cases h3 : 1 ≤ mw ∧ mw ≤ 16
            · have H3 : Hid (∀ W, Calls Tryd.prog 55 #[.int .i64 mw, .int .i64 1, .int .i64 16] W fun e w' => e = .returned (.bool true) ∧ W = w') := Lib.hid (fun W => rwithin_b mw 1 16 true (decide_eq_true h3) W)
              have HOK : Hid (okMb ⟨mn, mr, mw⟩) := Lib.hid (by unfold okMb; simp only []; omega)
              clear h1 h2 h3
              by_cases hk1 : k = 0
              · subst hk1
                have HN : Hid (goodK l (0 + 1)) := Lib.hid (fun i m hi hm => by
                  obtain rfl : i = 0 := by omega
                  rw [HM.out] at hm
                  cases hm
                  exact ⟨HOK.out, fun p h => absurd h (by omega)⟩)
                go_quiet (first | (go_at_call 55; with_reducible exact quiet_same (H1.out _)) | (go_at_call 55; with_reducible exact quiet_same (H2.out _)) | (go_at_call 55; with_reducible exact quiet_same (H3.out _)))
                go_wp2_with fail
                go_roundg (gk - 1)
                case rel => exact ⟨0 + 1, by omega, by go_num, HN.out, HKK.out.drewN _⟩
                case measure => omega
              · obtain ⟨q, rfl⟩ : ∃ q, k = q + 1 := ⟨k - 1, by omega⟩
                clear hk1
                obtain ⟨p, hp⟩ : ∃ p, l[q]? = some p := ⟨_, List.getElem?_eq_getElem (by have := HL.out; omega)⟩
                have p0 := HKK.out.cell (HC.out q p hp).1 (fun h => h)
                have hqz : (q : Int) < (n : Int) := by omega
                have hq0 : (0 : Int) ≤ (q : Int) := by omega
                have HP := Lib.hid hp
                clear hp
                obtain ⟨pn, pr, pw⟩ := p
                simp only [] at p0
                have ek : ((q + 1 : Nat) : Int) - 1 = (q : Int) := by omega
                have hgt : (0 : Int) < ((q + 1 : Nat) : Int) := by omega
                have hw1 : IntKind.i64.wrap (q : Int) = (q : Int) := wrapI (by unfold I64; omega)
                by_cases hlt2 : pn < mn
                · have HN : Hid (goodK l (q + 1 + 1)) := Lib.hid (fun i m hi hm => by
                    by_cases e : i < q + 1
                    · exact HG.out i m e hm
                    · obtain rfl : i = q + 1 := by omega
                      rw [HM.out] at hm
                      cases hm
                      refine ⟨HOK.out, fun p _ hp => ?_⟩
                      rw [Nat.add_sub_cancel, HP.out] at hp
                      cases hp
                      exact hlt2)
                  go_quiet (first | (go_at_call 55; with_reducible exact quiet_same (H1.out _)) | (go_at_call 55; with_reducible exact quiet_same (H2.out _)) | (go_at_call 55; with_reducible exact quiet_same (H3.out _)))
                  go_wp2_with fail
                  go_roundg (gk - 1)
                  case rel => exact ⟨q + 1 + 1, by omega, by go_num, HN.out, HKK.out.drewN _⟩
                  case measure => omega
                · have HF : Hid (validL l = false) := Lib.hid (validL_false (fun hv => by
                    have := (hv.good (q + 2) (q + 1) _ (by omega) HM.out).2 _ (by omega) (by rw [Nat.add_sub_cancel]; exact HP.out)
                    exact hlt2 this))
                  go_quiet (first | (go_at_call 55; with_reducible exact quiet_same (H1.out _)) | (go_at_call 55; with_reducible exact quiet_same (H2.out _)) | (go_at_call 55; with_reducible exact quiet_same (H3.out _)))
                  go_wp2_with fail
                  go_ret
                  exact ⟨by rw [HF.out] <;> rfl, HKK.out.drewN _⟩
            · have H3 : Hid (∀ W, Calls Tryd.prog 55 #[.int .i64 mw, .int .i64 1, .int .i64 16] W fun e w' => e = .returned (.bool false) ∧ W = w') := Lib.hid (fun W => rwithin_b mw 1 16 false (decide_eq_false h3) W)
              have HF : Hid (validL l = false) := Lib.hid (validL_false (fun hv => by
                have := (hv.good (k + 1) k _ (by omega) HM.out).1
                unfold okMb at this
                simp only [] at this
                omega))
              clear h1 h2 h3
              go_quiet (first | (go_at_call 55; with_reducible exact quiet_same (H1.out _)) | (go_at_call 55; with_reducible exact quiet_same (H2.out _)) | (go_at_call 55; with_reducible exact quiet_same (H3.out _)))
              go_wp2_with fail
              go_ret
              exact ⟨by rw [HF.out] <;> rfl, HKK.out.drewN _⟩
          · have H2 : Hid (∀ W, Calls Tryd.prog 55 #[.int .i64 mr, .int .i64 0, .int .i64 3] W fun e w' => e = .returned (.bool false) ∧ W = w') := Lib.hid (fun W => rwithin_b mr 0 3 false (decide_eq_false h2) W)
            have HF : Hid (validL l = false) := Lib.hid (validL_false (fun hv => by
              have := (hv.good (k + 1) k _ (by omega) HM.out).1
              unfold okMb at this
              simp only [] at this
              omega))
            clear h1 h2
            go_quiet (first | (go_at_call 55; with_reducible exact quiet_same (H1.out _)) | (go_at_call 55; with_reducible exact quiet_same (H2.out _)))
            go_wp2_with fail
            go_ret
            exact ⟨by rw [HF.out] <;> rfl, HKK.out.drewN _⟩
        · have H1 : Hid (∀ W, Calls Tryd.prog 55 #[.int .i64 mn, .int .i64 0, .int .i64 23] W fun e w' => e = .returned (.bool false) ∧ W = w') := Lib.hid (fun W => rwithin_b mn 0 23 false (decide_eq_false h1) W)
          have HF : Hid (validL l = false) := Lib.hid (validL_false (fun hv => by
            have := (hv.good (k + 1) k _ (by omega) HM.out).1
            unfold okMb at this
            simp only [] at this
            omega))
          clear h1
          go_quiet ((go_at_call 55; with_reducible exact quiet_same (H1.out _)))
          go_wp2_with fail
          go_ret
          exact ⟨by rw [HF.out] <;> rfl, HKK.out.drewN _⟩
      · obtain rfl : k = n := by omega
        have HV : Hid (validL l = true) := Lib.hid ((validL_iff l).2 (goodK_all (by have := HL.out; omega) (by rw [HL.out]; exact HG.out)))
        go_wp2_with fail
        go_ret
        exact ⟨by rw [HV.out] <;> rfl, HK.out⟩
  · have HW : Hid (∀ W, Calls Tryd.prog 55 #[.int .i64 (n : Int), .int .i64 1, .int .i64 24] W fun e w' => e = .returned (.bool false) ∧ W = w') := Lib.hid (fun W => rwithin_b n 1 24 false (decide_eq_false hlen) W)
    have HF : Hid (validL l = false) := Lib.hid (validL_false (fun hv => by
      have h1 := hv.len
      have h2 : 0 < l.length := List.length_pos_iff.2 hv.ne
      have h3 := HL.out
      omega))
    go_enter Tryd.func20, Tryd.ntmps20
    go_wp2_with fail
    with_reducible refine (HW.out _).mono ?_
    rintro e w' ⟨rfl, rfl⟩
    go_wp2_with fail
    go_ret
    exact ⟨by rw [HF.out] <;> rfl, Keep.refl _ w⟩

/-- The weight of the last one of a node. -/
def ownW (l : List Mb) (n : Int) (k : Nat) : Int := match findN ((l.take k).reverse) n with | some m => m.weight | none => 0
theorem ownW_zero (l : List Mb) (n : Int) : ownW l n 0 = 0 := by unfold ownW findN; simp
theorem ownW_succ {l : List Mb} {k : Nat} {m : Mb} (h : l[k]? = some m) (n : Int) : ownW l n (k + 1) = if m.node = n then m.weight else ownW l n k := by
  unfold ownW findN
  rw [List.take_add_one, h]
  simp only [Option.toList_some, List.reverse_append, List.reverse_cons, List.reverse_nil, List.nil_append, List.singleton_append, List.find?_cons]
  by_cases e : m.node = n <;> simp [e]
theorem ownW_nn {l : List Mb} (hv : VL l) (n : Int) (k : Nat) : 0 ≤ ownW l n k ∧ ownW l n k ≤ 16 := by
  unfold ownW
  cases h : findN (l.take k).reverse n with
  | none => simp
  | some m =>
    have hm := (findN_some h).1
    have := hv.ok m (List.mem_of_mem_take (List.mem_reverse.1 hm))
    unfold okMb at this
    simp only []
    omega
theorem limit_ownW {l : List Mb} (hv : VL l) (n : Int) {k : Nat} (hk : l.length ≤ k) : limitL l n = (80 * ownW l n k + wsum l - 1).tdiv (wsum l) := by
  have hs := hv.wsum
  have hb := ownW_nn hv n k
  rw [Int.tdiv_eq_ediv_of_nonneg (by omega)]
  unfold ownW
  rw [List.take_of_length_le hk]
  cases h : findN l.reverse n with
  | none =>
    have hnone : ∀ m ∈ l, m.node ≠ n := fun m hm e => by
      unfold findN at h
      rw [List.find?_eq_none] at h
      exact h m (List.mem_reverse.2 hm) (by simpa using e)
    rw [limitL_none hnone]
    simp only []
    rw [Int.ediv_eq_zero_of_lt (by omega) (by omega)]
  | some m =>
    obtain ⟨hm, rfl⟩ := findN_some h
    rw [limitL_mem hv (List.mem_reverse.1 hm)]

set_option maxRecDepth 100000 in
set_option maxHeartbeats 2000000 in
theorem refLimit_any (v : Value) (l : List Mb) (w : World) (h : Mbs w v l) (q : Int) : Calls Tryd.prog 22 #[v, .int .i64 q] w fun e w' => e = .returned (.int .i64 (limitL l q)) ∧ Keep (fun _ => False) w w' := by
  have HVA := Lib.hid (refValid_any v l w h)
  obtain ⟨hn, -, a, c, b, off, rfl, hc, ha, hcell⟩ := h
  have HC := Lib.hid hcell
  have HA := Lib.hid ha
  clear hcell ha
  obtain ⟨n, hn'⟩ : ∃ n, l.length = n := ⟨_, rfl⟩
  have HL := Lib.hid hn'
  rw [hn'] at hn hc HVA ⊢
  clear hn'
  by_cases hv : VL l
  · have HV := Lib.hid hv
    have hws := hv.wsum
    rw [(validL_iff l).2 hv] at HVA
    clear hv
    go_enter Tryd.func22, Tryd.ntmps22
    go_wp2_with fail
    with_reducible refine HVA.out.mono ?_
    rintro e W1 ⟨rfl, k1⟩
    have HK1 := Lib.hid k1
    clear k1 HVA
    go_wp2_with fail
    go_loopg [5, 6, 7] n (fun gh v5 v6 v wr => ∃ (k : Nat), gh + k = n ∧ v = .int .i64 k ∧ v5 = .int .i64 (wsum (l.take k)) ∧ v6 = .int .i64 (ownW l q k) ∧ Keep (fun _ => False) w wr)
    case atStart => exact ⟨0, by omega, rfl, by simp [wsum], by rw [ownW_zero], HK1.out⟩
    case round =>
      obtain ⟨k, hk, rfl, rfl, rfl, hkeep⟩ := hrel
      have HK := Lib.hid hkeep
      clear hkeep
      have hwt := wsum_take HV.out.ok k
      have hob := ownW_nn HV.out q k
      by_cases hlt : k < n
      · obtain ⟨m, hm⟩ : ∃ m, l[k]? = some m := ⟨_, List.getElem?_eq_getElem (by have := HL.out; omega)⟩
        obtain rfl := HA.out (by have := HL.out; omega)
        have c0 := HK.out.cell (HC.out k m hm).1 (fun h => h)
        have c2 := HK.out.cell (HC.out k m hm).2.2 (fun h => h)
        have HWS := Lib.hid (wsum_succ hm)
        have HOW := Lib.hid (ownW_succ hm q)
        have hok := HV.out.ok m (List.mem_of_getElem? hm)
        unfold okMb at hok
        have hkz : (k : Int) < (n : Int) := by omega
        have hk0 : (0 : Int) ≤ (k : Int) := by omega
        clear hm
        obtain ⟨mn, mr, mw⟩ := m
        simp only [] at c0 c2 hok HWS HOW
        generalize wsum (l.take k) = s0 at *
        generalize ownW l q k = o0 at *
        generalize wsum l = sall at *
        have hws1 : IntKind.i64.wrap (s0 + mw) = s0 + mw := wrapI (by unfold I64; omega)
        by_cases hq : mn = q
        · have HOW2 : Hid (ownW l q (k + 1) = mw) := Lib.hid (by rw [HOW.out, if_pos hq])
          subst hq
          go_wp2_with fail
          clear c0 c2
          go_roundg (gk - 1)
          case rel => exact ⟨k + 1, by omega, by go_num, by rw [HWS.out], by rw [HOW2.out], HK.out⟩
          case measure => omega
        · have HOW2 : Hid (ownW l q (k + 1) = o0) := Lib.hid (by rw [HOW.out, if_neg hq])
          go_wp2_with fail
          clear c0 c2
          go_roundg (gk - 1)
          case rel => exact ⟨k + 1, by omega, by go_num, by rw [HWS.out], by rw [HOW2.out], HK.out⟩
          case measure => omega
      · obtain rfl : k = n := by omega
        have HALL : Hid (wsum (l.take k) = wsum l) := Lib.hid (by rw [List.take_of_length_le (by have := HL.out; omega)])
        have HLM := Lib.hid (limit_ownW HV.out q (k := k) (by have := HL.out; omega))
        rw [HALL.out]
        clear HALL hwt
        generalize wsum l = s0 at *
        generalize ownW l q k = o0 at *
        have hx1 : IntKind.i64.wrap (80 * o0) = 80 * o0 := wrapI (by unfold I64; omega)
        have hx2 : IntKind.i64.wrap (80 * o0 + s0) = 80 * o0 + s0 := wrapI (by unfold I64; omega)
        have hx3 : IntKind.i64.wrap (80 * o0 + s0 - 1) = 80 * o0 + s0 - 1 := wrapI (by unfold I64; omega)
        have hnz : s0 ≠ 0 := by omega
        have hd : I64 ((80 * o0 + s0 - 1).tdiv s0) := by
          rw [← HLM.out]
          have := limitL_nn l q
          unfold I64; omega
        have hx4 : IntKind.i64.wrap ((80 * o0 + s0 - 1).tdiv s0) = (80 * o0 + s0 - 1).tdiv s0 := wrapI hd
        clear hd
        go_wp2_with fail
        go_ret
        exact ⟨by rw [HLM.out] <;> rfl, HK.out⟩
  · have HB : Hid (limitL l q = 0) := Lib.hid (limitL_bad hv)
    rw [validL_false hv] at HVA
    go_enter Tryd.func22, Tryd.ntmps22
    go_wp2_with fail
    with_reducible refine HVA.out.mono ?_
    rintro e W1 ⟨rfl, k1⟩
    have HK1 := Lib.hid k1
    clear k1 HVA
    go_wp2_with fail
    go_ret
    exact ⟨by rw [HB.out] <;> rfl, HK1.out⟩
end Go.Proofs.YtplkmbfeeegaiaaDoor
