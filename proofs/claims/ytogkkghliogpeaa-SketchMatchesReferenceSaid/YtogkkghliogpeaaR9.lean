/-
  The reference's Merge, as it is done.
-/
import Derived.Test.YtogkkghliogpeaaR8
namespace Go.Proofs.Ytogkkghliogpeaa
open Go.RowKit Go.Shelf

theorem OwnL.kp {w W : World} {X : List C} {v : Value} (h : OwnL w X v W) : Keep (fun _ => False) w W := h.1
theorem OwnL.row {w W : World} {X : List C} {v : Value} (h : OwnL w X v W) : W.ownsRow w.heap.size 37 3 v (X.map ctrOf).length (flat (X.map ctrOf)) := h.2

set_option maxRecDepth 100000 in
set_option maxHeartbeats 8000000 in
theorem rmerge_ok {w : World} {r r' : Nat} {v v' : Value} {cap cap' : Nat} {L L' : List C} (h : Rf w r v cap (L.map ctrOf)) (h' : Rf w r' v' cap' (L'.map ctrOf)) (mr : Mrg cap L cap' L') :
    Calls Try.prog 22 #[ptr r, ptr r'] w (RPost w r cap (mergeC cap L cap' L')) := by
  have ok := mr.ok
  have ok' := mr.ok'
  have HT : Hid (∀ W, Keep (fun _ => False) w W → Calls Try.prog 24 #[ptr r] W fun e w' => e = .returned (.int .i64 (sumH L)) ∧ W = w') := Lib.hid (fun W k => rtotal_sk (h.kept k) ok)
  have HT' : Hid (∀ W, Keep (fun _ => False) w W → Calls Try.prog 24 #[ptr r'] W fun e w' => e = .returned (.int .i64 (sumH L')) ∧ W = w') := Lib.hid (fun W k => rtotal_sk (h'.kept k) ok')
  have HJ : Hid (∀ W (key : ByteArray), Keep (fun _ => False) w W → Calls Try.prog 39 #[ptr r, ptr r', .string key] W fun e w' => e = .returned (ctrV key (bothC cap L cap' L' key).hi ((bothC cap L cap' L' key).hi - (bothC cap L cap' L' key).lo)) ∧ Keep (fun _ => False) W w') := Lib.hid (fun W key k => joined_sk (h.kept k) ok (h'.kept k) ok' key)
  have HG : Hid (∀ W (key : ByteArray), Keep (fun _ => False) w W → Calls Try.prog 27 #[ptr r, .string key] W fun e w' => e = .returned (getV L key) ∧ Keep (fun _ => False) W w') := Lib.hid (fun W key k => rget_sk (h.kept k) ok key)
  have H := Lib.hid h
  have HMR := Lib.hid mr
  have c0 := h.c0
  have c0' := h'.c0
  have h1 := ok.hi0 ⟨#[]⟩
  have h1' := ok'.hi0 ⟨#[]⟩
  have hs1 := mr.s1
  have hs2 := mr.s2
  have hs0 : 0 ≤ sumH L := by omega
  have hs0' : 0 ≤ sumH L' := by omega
  have hle := mr.le
  have q1z : ¬ (cap' : Int) < (cap : Int) := by omega
  obtain ⟨m, hm⟩ : ∃ m, min (sumH L') 1000000000000000 = m := ⟨_, rfl⟩
  have hm2 : 0 ≤ m ∧ m ≤ 1000000000000000 := by omega
  have hw : IntKind.i64.wrap (1000000000000000 - m) = 1000000000000000 - m := by rw [IntKind.wrap_i64]; omega
  have q3 : ¬ 1000000000000000 - m < sumH L := by omega
  have q2 : ¬ 1000000000000000 < sumH L' := by omega
  have hl64 : L.length ≤ 64 := Nat.le_trans ok.len ok.cap64
  have hl64' : L'.length ≤ 64 := Nat.le_trans ok'.len ok'.cap64
  have hcp := ok.cap1
  have hcp64 := ok.cap64
  obtain ⟨a, c, b, off, rfl, hc, ha, hcell⟩ := h.cs.open_
  obtain ⟨a', c', b', off', rfl, hc', ha', hcell'⟩ := h'.cs.open_
  rw [List.length_map] at ha hc ha' hc'
  obtain ⟨N, hN⟩ : ∃ N, N = L.length := ⟨_, rfl⟩
  obtain ⟨N', hN'⟩ : ∃ N', N' = L'.length := ⟨_, rfl⟩
  have HN := Lib.hid hN
  have HN' := Lib.hid hN'
  have HC1 : Hid (w.cell? ⟨r, 1, none⟩ = some (.slice a N c)) := Lib.hid (by have := h.c1; rwa [List.length_map, ← hN] at this)
  have HC1' : Hid (w.cell? ⟨r', 1, none⟩ = some (.slice a' N' c')) := Lib.hid (by have := h'.c1; rwa [List.length_map, ← hN'] at this)
  have HA := Lib.hid ha
  have HA' := Lib.hid ha'
  have HC := Lib.hid hcell
  have HC' := Lib.hid hcell'
  rw [← hN] at hl64
  rw [← hN'] at hl64'
  have HC0 := Lib.hid c0
  clear h h' mr ok ok' h1 h1' hN hN' ha ha' hc hc' hcell hcell'
  go_enter Try.func22, Try.ntmps22
  go_wp2_with fail
  go_quiet (first | (go_at_call 24; with_reducible exact Calls.quiet_of_same (quiet_eq (HT.out _ ((Keep.refl _ w).drewN _)))) | (go_at_call 24; with_reducible exact Calls.quiet_of_same (quiet_eq (HT'.out _ ((Keep.refl _ w).drewN _)))))
  have HK0 := Lib.hid ((Keep.refl (fun _ => False) w).drewN nq)
  generalize w.drewN nq = W0 at *
  go_wp2_with fail
  have e1 : decide (cap' < cap) = false := by simpa using hle
  have e2 : decide (1000000000000000 - m < sumH L) = false := decide_eq_false (by omega)
  have e3 : decide (1000000000000000 < sumH L') = false := decide_eq_false (by omega)
  simp only [e1, e2, e3, Bool.or_false]
  clear hm hm2 hw q3 q2 q1z hs1 hs2 hs0 hs0' c0 c0' HT HT' e1 e2 e3
  go_loopg [5, 6] N (fun gh vl vi wr => ∃ i : Nat, vi = .int .i64 i ∧ i ≤ N ∧ N ≤ gh + i ∧ OwnL w ((L.map (fun y => bothC cap L cap' L' y.key)).take i) vl wr)
  case atStart => exact ⟨0, rfl, Nat.zero_le _, by omega, OwnL.nil w HK0.out⟩
  case round =>
    obtain ⟨i, rfl, hi, hgh, how⟩ := hrel
    have HO := Lib.hid how
    clear how
    have c1 := HO.out.kp.cell HC1.out (fun h => h)
    by_cases hlt : i < N
    · have hltz : (i : Int) < (N : Int) := by omega
      have hi0 : (0 : Int) ≤ (i : Int) := by omega
      obtain rfl := HA.out (by rw [← HN.out]; omega)
      obtain ⟨x, hx⟩ : ∃ x, L[i]? = some x := ⟨_, List.getElem?_eq_getElem (by rw [← HN.out]; exact hlt)⟩
      have q0 : wr.cell? ⟨b, off + i * 3, none⟩ = some (.string x.key) := HO.out.kp.cell (HC.out i (ctrOf x) (by rw [List.getElem?_map, hx]; rfl)).1 (fun h => h)
      have HX := Lib.hid hx
      clear hx
      go_wp2_with fail
      with_reducible refine (HJ.out _ x.key HO.out.kp).mono ?_
      rintro e W2 ⟨rfl, k2⟩
      obtain ⟨v9, W4, hr9, how9⟩ := (HO.out.keep k2).snoc (bothC cap L cap' L' x.key) (by rw [List.length_take]; omega)
      rw [both_take (B := bothC cap L cap' L') HX.out] at how9
      have HO9 := Lib.hid how9
      have hr9' : (Builtin.append_ #[34, 34] 34 #[u5, .slice (some ⟨W2.heap.size, 0, none⟩) 1 1]).run Try.prog (W2.alloc (.cells #[.string x.key, .int .i64 (bothC cap L cap' L' x.key).hi, .int .i64 ((bothC cap L cap' L' x.key).hi - (bothC cap L cap' L' x.key).lo)] 37)) = .ok v9 W4 := hr9
      clear hr9 how9 k2 HO c1 q0
      go_wp2_with (at_builtin; refine wpList_app rfl (.tmp 42) (.tmp 54) 34 rfl rfl rfl hr9' ?_)
      clear hr9'
      go_roundg (N - (i + 1))
      case rel => exact ⟨i + 1, by go_num, by omega, by omega, HO9.out⟩
      case measure => omega
    · have hltz : ¬ (i : Int) < (N : Int) := by omega
      have HO2 : Hid (OwnL w (more L L' (bothC cap L cap' L') 0) u5 wr) := Lib.hid (by
        have h1 := HO.out
        rw [List.take_of_length_le (by rw [List.length_map, ← HN.out]; omega)] at h1
        simpa [more] using h1)
      clear HO
      go_wp2_with fail
      clear c1 hltz hgh hi
      go_loopg [5, 7] N' (fun g2 vl vi wr2 => ∃ j : Nat, vi = .int .i64 j ∧ j ≤ N' ∧ N' ≤ g2 + j ∧ OwnL w (more L L' (bothC cap L cap' L') j) vl wr2)
      case atStart => exact ⟨0, rfl, Nat.zero_le _, by omega, HO2.out⟩
      case round =>
        clear HO2
        obtain ⟨j, rfl, hj, hg2, how⟩ := hrel
        have HO := Lib.hid how
        clear how
        have c1 := HO.out.kp.cell HC1'.out (fun h => h)
        by_cases hlt2 : j < N'
        · have hltz : (j : Int) < (N' : Int) := by omega
          have hj0 : (0 : Int) ≤ (j : Int) := by omega
          obtain rfl := HA'.out (by rw [← HN'.out]; omega)
          obtain ⟨x, hx⟩ : ∃ x, L'[j]? = some x := ⟨_, List.getElem?_eq_getElem (by rw [← HN'.out]; exact hlt2)⟩
          have q0 : wr.cell? ⟨b', off' + j * 3, none⟩ = some (.string x.key) := HO.out.kp.cell (HC'.out j (ctrOf x) (by rw [List.getElem?_map, hx]; rfl)).1 (fun h => h)
          have HX := Lib.hid hx
          clear hx
          go_wp2_with fail
          with_reducible refine (HG.out _ x.key HO.out.kp).mono ?_
          rintro e W2 ⟨rfl, k2⟩
          have HO2 := Lib.hid (HO.out.keep k2)
          clear k2 HO c1 q0
          cases hat : atC L x.key with
          | some z =>
            have hv : getV L x.key = .tuple #[ctrV x.key z.hi (z.hi - z.lo), .bool true] := by unfold getV; rw [hat]
            rw [hv]
            have HO9 : Hid (OwnL w (more L L' (bothC cap L cap' L') (j + 1)) u5 (W2.alloc (.cells #[.string x.key, .int .i64 z.hi, .int .i64 (z.hi - z.lo)] 37))) := Lib.hid (by
              rw [more_some HX.out hat]
              exact HO2.out.keep ((Keep.refl _ W2).alloc _))
            clear hv hat HO2
            go_wp2_with fail
            go_roundg (N' - (j + 1))
            case rel => exact ⟨j + 1, by go_num, by omega, by omega, HO9.out⟩
            case measure => omega
          | none =>
            have hv : getV L x.key = .tuple #[ctrV ⟨#[]⟩ 0 0, .bool false] := by unfold getV; rw [hat]
            rw [hv]
            have HO3 : Hid (OwnL w (more L L' (bothC cap L cap' L') j) u5 (W2.alloc (.cells #[.string ⟨#[]⟩, .int .i64 0, .int .i64 0] 37))) := Lib.hid (HO2.out.keep ((Keep.refl _ W2).alloc _))
            have HAT := Lib.hid hat
            clear hv hat HO2
            have c1 := HO3.out.kp.cell HC1'.out (fun h => h)
            have q0 : (W2.alloc (.cells #[.string ⟨#[]⟩, .int .i64 0, .int .i64 0] 37)).cell? ⟨b', off' + j * 3, none⟩ = some (.string x.key) := HO3.out.kp.cell (HC'.out j (ctrOf x) (by rw [List.getElem?_map, HX.out]; rfl)).1 (fun h => h)
            go_wp2_with fail
            generalize W2.alloc (.cells #[.string ⟨#[]⟩, .int .i64 0, .int .i64 0] 37) = W3 at *
            with_reducible refine (HJ.out _ x.key HO3.out.kp).mono ?_
            rintro e W4 ⟨rfl, k4⟩
            obtain ⟨v9, W5, hr9, how9⟩ := (HO3.out.keep k4).snoc (bothC cap L cap' L' x.key) (by have := more_len L L' (bothC cap L cap' L') j; have := HN.out; have := HN'.out; omega)
            rw [← more_none HX.out HAT.out] at how9
            have HO9 := Lib.hid how9
            have hr9' : (Builtin.append_ #[34, 34] 34 #[u5, .slice (some ⟨W4.heap.size, 0, none⟩) 1 1]).run Try.prog (W4.alloc (.cells #[.string x.key, .int .i64 (bothC cap L cap' L' x.key).hi, .int .i64 ((bothC cap L cap' L' x.key).hi - (bothC cap L cap' L' x.key).lo)] 37)) = .ok v9 W5 := hr9
            clear hr9 how9 k4 HO3 c1 q0
            go_wp2_with (at_builtin; refine wpList_app rfl (.tmp 80) (.tmp 92) 34 rfl rfl rfl hr9' ?_)
            clear hr9'
            go_roundg (N' - (j + 1))
            case rel => exact ⟨j + 1, by go_num, by omega, by omega, HO9.out⟩
            case measure => omega
        · have hltz : ¬ (j : Int) < (N' : Int) := by omega
          have HCS : Hid (Cs wr u5 (((unionK L L').map (bothC cap L cap' L')).map ctrOf)) := Lib.hid (by
            have h1 := HO.out.row
            have e : j = L'.length := by have := HN'.out; omega
            rw [e, more_all] at h1
            exact Cs.of_owns h1)
          go_wp2_with fail
          with_reducible refine (rord_sk HCS.out (by rw [both_keys]; exact unionK_nodup HMR.out.ok.keys HMR.out.ok'.keys) (by have := HMR.out.few; rw [List.length_map]; omega)).mono ?_
          rintro e W5 ⟨v5, rfl, ho5, hk5⟩
          have hcs5 : Cs W5 v5 ((joinC cap L cap' L').map ctrOf) := Cs.of_owns (by rw [List.length_map]; exact ho5)
          have hjl : (joinC cap L cap' L').length ≤ 64 := Nat.le_trans HMR.out.join_len (by decide)
          obtain ⟨K, hK⟩ : ∃ K : Nat, min ((joinC cap L cap' L').length : Int) (cap : Int) = (K : Int) := ⟨min (joinC cap L cap' L').length cap, by omega⟩
          obtain ⟨v6, hr6, hcs6, hob6⟩ := slice_hi hcs5 K (by rw [List.length_map]; omega)
          have hme : ((joinC cap L cap' L').map ctrOf).take K = (mergeC cap L cap' L').map ctrOf := by
            unfold mergeC
            rw [← List.map_take]
            congr 1
            by_cases hc : (joinC cap L cap' L').length ≤ cap
            · rw [List.take_of_length_le (by omega), List.take_of_length_le hc]
            · have : K = cap := by omega
              rw [this]
          rw [hme] at hcs6
          have HR := Lib.hid (rf_store' (H.out.kept HO.out.kp) HO.out.kp hk5 hcs6 (fun b hb => by rw [hob6] at hb; exact ho5.lt b hb))
          have hR4 := (H.out.kept HO.out.kp).kept hk5
          have c2 := hR4.c1
          have d0 := hR4.c0
          have fr := hR4.fr
          obtain ⟨a6, c6, hv6, _⟩ := hcs6.ctrs
          subst hv6
          obtain ⟨a5, c5, hv5, _⟩ := hcs5.ctrs
          subst hv5
          rw [List.length_map]
          rw [List.length_map] at hr6
          generalize (joinC cap L cap' L').length = J at *
          clear ho5 hk5 hR4 hcs5 hcs6 hob6 hme c1
          go_wp2_with (refine wpList_slice rfl 34 (.tmp 97) none (some (.tmp 104)) rfl hr6 ?_)
          go_ret
          have hr := HR.out
          rw [List.length_map] at hr
          exact hr
end Go.Proofs.Ytogkkghliogpeaa
