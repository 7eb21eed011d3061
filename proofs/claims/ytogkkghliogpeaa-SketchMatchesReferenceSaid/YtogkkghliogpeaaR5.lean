/-
  The reference's Add.
-/
import Derived.Test.YtogkkghliogpeaaR4
namespace Go.Proofs.Ytogkkghliogpeaa
open Go.RowKit Go.Shelf

set_option maxRecDepth 100000 in
set_option maxHeartbeats 4000000 in
theorem radd_ok {w : World} {r : Nat} {v : Value} {cap : Nat} {L : List C} (h : Rf w r v cap (L.map ctrOf)) (ok : OkL cap L) (key : ByteArray) (n : Int) (h1 : ¬ n < 1) (h2 : ¬ 1000000000 < n) (h3 : ¬ 4611686018427387903 - n < sumH L) :
    Calls Try.prog 23 #[ptr r, .string key, .int .i64 n] w (RPost w r cap (addC cap L key n)) := by
  have HT := Lib.hid (rtotal_sk h ok)
  have H := Lib.hid h
  have HOK := Lib.hid ok
  have hl64 : L.length ≤ 64 := Nat.le_trans ok.len ok.cap64
  have hlc := ok.len
  have hc64 := ok.cap64
  have hc1 := ok.cap1
  have k1 : Keep (fun _ => False) w (w.alloc (.cells #[] 37)) := (Keep.refl _ w).alloc _
  obtain ⟨v2, W2, hr2, hown2, hkp2, hob2⟩ := app_ctrs (w.alloc (.cells #[] 37)) 34 w.heap.size (.slice (some ⟨w.heap.size, 0, none⟩) 0 0) v [] _ (World.ownsRow_lit w #[] 0 (Nat.le_refl _) (by decide) rfl) (h.cs.keep k1 (fun _ _ h => h)) (by
      rw [List.length_map]; simp; omega) (by simp)
  rw [List.nil_append] at hown2
  have HK2 : Hid (Keep (fun _ => False) w W2) := Lib.hid (k1.trans' hkp2 (fun j e => by cases e; exact .inr (Nat.le_refl _)))
  have c1 := k1.cell h.c1 (fun h => h)
  have hv2 : ∃ a c g, v2 = .slice a L.length c ∧ (0 < L.length → a = some ⟨g, 0, none⟩) ∧ L.length ≤ c := by
    rcases hown2.2 with ⟨rfl, hx⟩ | ⟨g, cp, cur, rfl, _, _, hc, _⟩
    · rw [List.length_map] at hx
      exact ⟨none, 0, 0, by rw [hx], fun h => by omega, by omega⟩
    · rw [List.length_map] at hc ⊢
      exact ⟨some ⟨g, 0, none⟩, cp, g, rfl, fun _ => rfl, hc⟩
  obtain ⟨a2, cc2, g, rfl, ha2, hcc⟩ := hv2
  rw [List.length_map] at hown2
  have HOWN := Lib.hid hown2
  have HA := Lib.hid ha2
  obtain ⟨N, hN⟩ : ∃ N, N = L.length := ⟨_, rfl⟩
  rw [← hN] at hl64 hlc hr2 hcc
  have HN := Lib.hid hN
  clear h ok k1 hkp2 hob2 hown2 ha2 hN
  go_enter Try.func23, Try.ntmps23
  go_wp2_with fail
  with_reducible refine HT.out.mono ?_
  rintro e W ⟨rfl, rfl⟩
  clear HT
  go_wp2_with (at_builtin; refine wpList_app rfl (.tmp 23) (.tmp 27) 34 rfl rfl rfl hr2 ?_)
  clear hr2 c1
  go_loopg [8] N (fun gh vi wr => ∃ i : Nat, vi = .int .i64 i ∧ i ≤ N ∧ N ≤ gh + i ∧ wr = W2 ∧ Hid (∀ y ∈ L.take i, y.key ≠ key))
  case atStart => exact ⟨0, rfl, Nat.zero_le _, by omega, rfl, Lib.hid (by simp)⟩
  case round =>
    obtain ⟨i, rfl, hi, hgh, rfl, HNO⟩ := hrel
    by_cases hlt : i < N
    · have hltz : (i : Int) < (N : Int) := by omega
      have hi0 : (0 : Int) ≤ (i : Int) := by omega
      obtain rfl := HA.out (by rw [← HN.out]; omega)
      obtain ⟨x, hx⟩ : ∃ x, L[i]? = some x := ⟨_, List.getElem?_eq_getElem (by rw [← HN.out]; exact hlt)⟩
      have hgx := flat_get (L.map ctrOf) i (ctrOf x) (by rw [List.getElem?_map, hx]; rfl)
      have q0 : wr.cell? ⟨g, i * 3, none⟩ = some (.string x.key) := by rw [HOWN.out.cellAt (i * 3) (by rw [← HN.out]; omega)]; exact hgx.1
      have q1 : wr.cell? ⟨g, i * 3 + 1, none⟩ = some (.int .i64 x.hi) := by rw [HOWN.out.cellAt (i * 3 + 1) (by rw [← HN.out]; omega)]; exact hgx.2.1
      have qf := HOWN.out.frozenAt (i * 3 + 1)
      clear hgx
      by_cases hk : x.key = key
      · have hkb : (x.key.toList == key.toList) = true := by rw [hk]; simp
        have hpx := HOK.out.pos x (List.mem_of_getElem? hx)
        have hmx := HOK.out.mem (List.mem_of_getElem? hx)
        obtain ⟨hst1, hst2⟩ := HOWN.out.stored (i * 3 + 1) (.int .i64 (x.hi + n))
        rw [flat_set (L.map ctrOf) i (ctrOf x) (x.hi + n) (by rw [List.getElem?_map, hx]; rfl)] at hst1
        have hset : (L.map ctrOf).set i ⟨(ctrOf x).key, x.hi + n, (ctrOf x).e⟩ = (L.set i ⟨key, x.lo + n, x.hi + n⟩).map ctrOf := by
          rw [List.map_set]
          congr 1
          unfold ctrOf
          simp only [K3.mk.injEq]
          exact ⟨hk, trivial, by omega⟩
        rw [hset] at hst1
        have HX := Lib.hid (ord_set HOK.out.keys HOK.out.sorted hx (x' := ⟨key, x.lo + n, x.hi + n⟩) hk.symm)
        have HAD : Hid (addC cap L key n = ordC (L.set i ⟨key, x.lo + n, x.hi + n⟩)) := Lib.hid (by
          unfold addC
          rw [atC_take HNO.out hx hk, HX.out.1, hk])
        have HK3 : Hid (Keep (fun _ => False) w (wr.setCell ⟨g, i * 3 + 1, none⟩ (.int .i64 (x.hi + n)))) := Lib.hid (HK2.out.setCell (p := ⟨g, i * 3 + 1, none⟩) _ (.inr (HOWN.out.lt g rfl).1))
        have HCS : Hid (Cs (wr.setCell ⟨g, i * 3 + 1, none⟩ (.int .i64 (x.hi + n))) (.slice (some ⟨g, 0, none⟩) N cc2) ((L.set i ⟨key, x.lo + n, x.hi + n⟩).map ctrOf)) := Lib.hid (by
          have e : (L.set i ⟨key, x.lo + n, x.hi + n⟩ |>.map ctrOf).length = L.length := by simp
          have := Cs.of_owns (v := .slice (some ⟨g, 0, none⟩) L.length cc2) (l := (L.set i ⟨key, x.lo + n, x.hi + n⟩).map ctrOf) (by rw [e]; exact hst1)
          rwa [← HN.out] at this)
        rw [HAD.out]
        clear hst1 hst2 hset hx HAD
        go_wp2_with fail
        generalize wr.setCell ⟨g, i * 3 + 1, none⟩ (.int .i64 (x.hi + n)) = W3 at *
        clear q0 q1 qf
        with_reducible refine (rord_sk HCS.out HX.out.2 (by rw [List.length_set, ← HN.out]; exact hl64)).mono ?_
        rintro e W4 ⟨v5, rfl, ho5, hk5⟩
        have HR := Lib.hid (rpost (H.out.kept HK3.out) HK3.out hk5 (Nat.le_refl _) ho5)
        have hR4 := (H.out.kept HK3.out).kept hk5
        have c1 := hR4.c1
        have fr := hR4.fr
        obtain ⟨a5, m5, c5, rfl⟩ := owns_slice ho5
        clear ho5 hk5 hR4
        go_wp2_with fail
        go_ret
        exact HR.out
      · have hkb : (x.key.toList == key.toList) = false := by
          cases e : (x.key.toList == key.toList) with
          | false => rfl
          | true => exact absurd (toList_inj (by simpa using e)) hk
        have HNX : Hid (∀ y ∈ L.take (i + 1), y.key ≠ key) := Lib.hid (fun y hy => by
          rw [List.take_add_one, hx, List.mem_append] at hy
          rcases hy with hy | hy
          · exact HNO.out y hy
          · simp at hy; rw [hy]; exact hk)
        clear hx
        go_wp2_with fail
        go_roundg (N - (i + 1))
        case rel => exact ⟨i + 1, by go_num, by omega, by omega, rfl, HNX⟩
        case measure => omega
    · have hltz : ¬ (i : Int) < (N : Int) := by omega
      have HNK : Hid (∀ y ∈ L, y.key ≠ key) := Lib.hid (by
        have := HNO.out
        rwa [List.take_of_length_le (by have := HN.out; omega)] at this)
      clear HNO
      go_wp2_with fail
      with_reducible refine (rleast_sk (H.out.kept HK2.out) HOK.out).mono ?_
      rintro e W3 ⟨rfl, k3⟩
      have HK3 := Lib.hid (HK2.out.trans k3)
      have HO3 := Lib.hid (ownsRow_keep HOWN.out k3 (fun _ _ h => h))
      have c0 := (H.out.kept HK3.out).c0
      clear k3 HOWN HK2
      have hle := HOK.out.least
      have hsm := HOK.out.sum
      by_cases hfull : N = cap
      · obtain rfl := HA.out (by rw [← HN.out]; omega)
        obtain ⟨M, hM⟩ : ∃ M, N = M + 1 := ⟨N - 1, by omega⟩
        have hM1 : (N : Int) - 1 = (M : Int) := by omega
        have hM2 : IntKind.i64.wrap ((N : Int) - 1) = (M : Int) := by rw [IntKind.wrap_i64]; omega
        have hM3 : IntKind.i64.wrap (M : Int) = (M : Int) := by rw [IntKind.wrap_i64]; omega
        have hM0 : (0 : Int) ≤ (M : Int) := by omega
        have hMc : (M : Int) ≤ (cc2 : Int) := by omega
        have hfz : ((N : Int) == (cap : Int)) = true := by simp; omega
        have HLL : Hid (L.dropLast.length = M) := Lib.hid (by rw [List.length_dropLast, ← HN.out, hM]; rfl)
        have HOT : Hid (W3.ownsRow w.heap.size 37 3 (.slice (some ⟨g, 0, none⟩) M cc2) (L.dropLast.map ctrOf).length (flat (L.dropLast.map ctrOf))) := Lib.hid (by
          have h1 := owns_trunc (m := M) HO3.out (by rw [← HN.out]; omega) (by simp)
          have e1 : (L.map ctrOf).take M = L.dropLast.map ctrOf := by rw [List.dropLast_eq_take, List.map_take]; congr 1; have := HN.out; omega
          rw [e1] at h1
          rw [List.length_map, HLL.out]
          exact h1)
        have hLM : L.dropLast.length = M := HLL.out
        have HFL : Hid (L.length = cap) := Lib.hid (by rw [← HN.out]; exact hfull)
        have HLEV : Hid (leastC cap L = leastC cap L) := Lib.hid rfl
        have hle1 := hle.1
        have hle2 := hle.2
        clear hle
        obtain ⟨v9, W4, hr9, hown9, hkp9, hob9, g9, cc9, hv9⟩ := app_ctr W3 34 w.heap.size (.slice (some ⟨g, 0, none⟩) M cc2) (L.dropLast.map ctrOf) ⟨key, leastC cap L + n, (leastC cap L)⟩ HOT.out (by rw [List.length_map, HLL.out]; omega) HK3.out.size
        have hr9' : (Builtin.append_ #[34, 34] 34 #[(.slice (some ⟨g, 0, none⟩) M cc2), .slice (some ⟨W3.heap.size, 0, none⟩) 1 1]).run Try.prog (W3.alloc (.cells #[.string key, .int .i64 (leastC cap L + n), .int .i64 (leastC cap L)] 37)) = .ok v9 W4 := hr9
        have HK4 : Hid (Keep (fun _ => False) w W4) := Lib.hid (HK3.out.trans' hkp9 (fun j e => .inr ((HOT.out).lt j e).1))
        have HKN : Hid ((L.dropLast ++ [(⟨key, n, leastC cap L + n⟩ : C)]).map C.key).Nodup := Lib.hid (by
          rw [List.map_append, List.nodup_append]
          refine ⟨HOK.out.keys.sublist ((List.dropLast_sublist L).map _), by simp, fun a ha b hb e => ?_⟩
          obtain ⟨y, hy, rfl⟩ := List.mem_map.1 ha
          simp at hb
          subst hb
          exact HNK.out y ((List.dropLast_sublist L).subset hy) e)
        have HAD : Hid (addC cap L key n = ordC (L.dropLast ++ [(⟨key, n, leastC cap L + n⟩ : C)])) := Lib.hid (by
          rw [ord_snoc (HOK.out.sorted.sublist (List.dropLast_sublist L)) HKN.out]
          unfold addC
          rw [atC_all HNK.out]
          simp only []
          rw [if_pos HFL.out])
        have HCS : Hid (Cs W4 v9 ((L.dropLast ++ [(⟨key, n, leastC cap L + n⟩ : C)]).map ctrOf)) := Lib.hid (by
          have h9 := Cs.of_owns hown9
          have e9 : ctrOf ⟨key, n, leastC cap L + n⟩ = ⟨key, leastC cap L + n, (leastC cap L)⟩ := by unfold ctrOf; simp only [K3.mk.injEq]; exact ⟨trivial, trivial, by omega⟩
          rw [List.map_append, List.map_singleton, e9]
          exact h9)
        have hl9 : (L.dropLast ++ [(⟨key, n, leastC cap L + n⟩ : C)]).length ≤ 64 := by rw [List.length_append, HLL.out]; simp; omega
        clear hr9 hown9 hkp9 hob9 hv9
        clear hLM hM hfull
        generalize leastC cap L = LE at *
        go_wp2_with (at_builtin; refine wpList_app rfl (.tmp 73) (.tmp 80) 34 rfl rfl rfl hr9' ?_)
        clear hr9'
        with_reducible refine (rord_sk HCS.out HKN.out hl9).mono ?_
        rintro e W5 ⟨v5, rfl, ho5, hk5⟩
        have HR := Lib.hid (rpost (H.out.kept HK4.out) HK4.out hk5 (Nat.le_refl _) ho5)
        have hR4 := (H.out.kept HK4.out).kept hk5
        have c1 := hR4.c1
        have fr := hR4.fr
        obtain ⟨a5, m5, c5, rfl⟩ := owns_slice ho5
        clear ho5 hk5 hR4 c0
        go_wp2_with fail
        go_ret
        rw [HAD.out]
        exact HR.out
      · have hfz : ((N : Int) == (cap : Int)) = false := by simp; omega
        have HLL : Hid (L.length = N) := Lib.hid HN.out.symm
        have HZ : Hid (leastC cap L = 0) := Lib.hid (by unfold leastC; rw [if_pos (by rw [← HN.out]; omega)])
        have HFL : Hid (¬ L.length = cap) := Lib.hid (by rw [← HN.out]; exact hfull)
        have HOT : Hid (W3.ownsRow w.heap.size 37 3 (.slice a2 N cc2) (L.map ctrOf).length (flat (L.map ctrOf))) := Lib.hid (by
          have h1 := HO3.out
          rw [← HN.out] at h1
          rw [List.length_map, ← HN.out]
          exact h1)
        have hLN : L.length = N := HN.out.symm
        rw [HZ.out]
        clear hle
        obtain ⟨v9, W4, hr9, hown9, hkp9, hob9, g9, cc9, hv9⟩ := app_ctr W3 34 w.heap.size (.slice a2 N cc2) (L.map ctrOf) ⟨key, n, 0⟩ HOT.out (by rw [List.length_map, HLL.out]; omega) HK3.out.size
        have hr9' : (Builtin.append_ #[34, 34] 34 #[(.slice a2 N cc2), .slice (some ⟨W3.heap.size, 0, none⟩) 1 1]).run Try.prog (W3.alloc (.cells #[.string key, .int .i64 (n), .int .i64 0] 37)) = .ok v9 W4 := hr9
        have HK4 : Hid (Keep (fun _ => False) w W4) := Lib.hid (HK3.out.trans' hkp9 (fun j e => .inr ((HOT.out).lt j e).1))
        have HKN : Hid ((L ++ [(⟨key, n, n⟩ : C)]).map C.key).Nodup := Lib.hid (by
          rw [List.map_append, List.nodup_append]
          refine ⟨HOK.out.keys.sublist ((List.Sublist.refl L).map _), by simp, fun a ha b hb e => ?_⟩
          obtain ⟨y, hy, rfl⟩ := List.mem_map.1 ha
          simp at hb
          subst hb
          exact HNK.out y ((List.Sublist.refl L).subset hy) e)
        have HAD : Hid (addC cap L key n = ordC (L ++ [(⟨key, n, n⟩ : C)])) := Lib.hid (by
          rw [ord_snoc (HOK.out.sorted.sublist (List.Sublist.refl L)) HKN.out]
          unfold addC
          rw [atC_all HNK.out]
          simp only []
          rw [if_neg HFL.out])
        have HCS : Hid (Cs W4 v9 ((L ++ [(⟨key, n, n⟩ : C)]).map ctrOf)) := Lib.hid (by
          have h9 := Cs.of_owns hown9
          have e9 : ctrOf ⟨key, n, n⟩ = ⟨key, n, 0⟩ := by unfold ctrOf; simp only [K3.mk.injEq]; exact ⟨trivial, trivial, by omega⟩
          rw [List.map_append, List.map_singleton, e9]
          exact h9)
        have hl9 : (L ++ [(⟨key, n, n⟩ : C)]).length ≤ 64 := by rw [List.length_append, HLL.out]; simp; omega
        clear hr9 hown9 hkp9 hob9 hv9
        clear hLN hfull
        go_wp2_with (at_builtin; refine wpList_app rfl (.tmp 73) (.tmp 80) 34 rfl rfl rfl hr9' ?_)
        clear hr9'
        with_reducible refine (rord_sk HCS.out HKN.out hl9).mono ?_
        rintro e W5 ⟨v5, rfl, ho5, hk5⟩
        have HR := Lib.hid (rpost (H.out.kept HK4.out) HK4.out hk5 (Nat.le_refl _) ho5)
        have hR4 := (H.out.kept HK4.out).kept hk5
        have c1 := hR4.c1
        have fr := hR4.fr
        obtain ⟨a5, m5, c5, rfl⟩ := owns_slice ho5
        clear ho5 hk5 hR4 c0
        go_wp2_with fail
        go_ret
        rw [HAD.out]
        exact HR.out
end Go.Proofs.Ytogkkghliogpeaa
