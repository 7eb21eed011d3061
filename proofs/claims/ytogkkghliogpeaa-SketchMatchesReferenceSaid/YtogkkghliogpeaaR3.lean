/-
  The reference's Top and Add.
-/
import Derived.Test.YtogkkghliogpeaaR2
import Derived.Test.YtogkkghliogpeaaG7
namespace Go.Proofs.Ytogkkghliogpeaa
open Go.RowKit Go.Shelf

theorem wp_app {P : Program} {o : Oper} {a : Act} {w w' : World} {K : Act → World → Prop} {Q : Exit → Act → World → Prop} {v v2 v' : Value}
    (s x : Operand) (t : TypeId) (hop : o.op = Op.call { callee := Callee.builtin Builtin.append, args := #[s, x], argTypes := #[t, t] })
    (hs : a.eval s = v) (hx : a.eval x = v2) (hrun : (Builtin.append_ #[t, t] o.type #[v, v2]).run P w = .ok v' w') (hK : K (a.put o.dst v') w') : o.wp P a w K Q := by
  unfold Oper.wp
  simp [execOp, hop, resolve, invoke, builtin, hs, hx, hrun, Result.andThen]
  exact hK

theorem Cells3.take {W : World} {b off c : Nat} {l : List K3} (h : Cells3 W b off l) {k : Nat} (hk : k ≤ l.length) (hc : l.length ≤ c) : Cs W (.slice (some ⟨b, off, none⟩) k c) (l.take k) := by
  have hlt : (l.take k).length = k := by rw [List.length_take]; omega
  refine .inr ⟨b, off, c, by rw [hlt], by omega, fun j x hj => h j x ?_⟩
  rw [List.getElem?_take] at hj
  split at hj
  · exact hj
  · cases hj

theorem topC_eq (L : List C) (n : Int) {K : Nat} (h : max 0 (min n (L.length : Int)) = (K : Int)) : (L.map ctrOf).take K = topC L n := by
  unfold topC
  rw [← List.map_take]
  congr 1
  by_cases h1 : n ≤ (L.length : Int)
  · have : K = n.toNat := by omega
    rw [this]
  · have : K = L.length := by omega
    rw [this, List.take_length, List.take_of_length_le (by omega)]

set_option maxRecDepth 100000 in
set_option maxHeartbeats 2000000 in
theorem rtop_sk {w : World} {r : Nat} {v : Value} {cap : Nat} {L : List C} (h : Rf w r v cap (L.map ctrOf)) (hl : L.length ≤ 64) (n : Int) : Calls Try.prog 25 #[ptr r, .int .i64 n] w (TopPost w (topC L n)) := by
  obtain ⟨K, hK⟩ : ∃ K : Nat, max 0 (min n (L.length : Int)) = (K : Int) := ⟨(max 0 (min n (L.length : Int))).toNat, by omega⟩
  have HT := Lib.hid (topC_eq L n hK)
  have hKl : K ≤ L.length := by omega
  obtain ⟨m, hm⟩ : ∃ m, min n (L.length : Int) = m := ⟨_, rfl⟩
  rw [hm] at hK
  have hK0 : (0 : Int) ≤ (K : Int) := by omega
  have HTP : Hid (∀ (src : Value), Cs w src (topC L n) → ∃ v' w', (Builtin.append_ #[34, 34] 34 #[.slice (some ⟨w.heap.size, 0, none⟩) 0 0, src]).run Try.prog (w.drew.alloc (.cells #[] 37)) = .ok v' w' ∧ TopPost w (topC L n) (.returned v') w') := Lib.hid (fun src hs => by
    have k1 : Keep (fun _ => False) w (w.drew.alloc (.cells #[] 37)) := (Keep.refl _ w).drew.alloc _
    obtain ⟨v', w', h1, h2, h3, h4⟩ := app_ctrs (w.drew.alloc (.cells #[] 37)) 34 w.heap.size (.slice (some ⟨w.heap.size, 0, none⟩) 0 0) src [] _ (World.ownsRow_lit w.drew #[] 0 (Nat.le_refl _) (by decide) rfl) (hs.keep k1 (fun _ _ h => h)) (by
      rw [← HT.out, List.length_take, List.length_map]; simp; omega) (by simp)
    exact ⟨v', w', h1, v', rfl, by simpa using h2, k1.trans' h3 (fun j e => by cases e; exact .inr (Nat.le_refl _))⟩)
  rcases h.cs with ⟨rfl, hnil⟩ | ⟨b, off, c, rfl, hc, hcell⟩
  · have hN0 : L.length = 0 := by simpa using hnil
    obtain rfl : K = 0 := by omega
    rw [hN0] at hm
    have c1 : ∀ p : KA (fun _ => False) w, p.val.cell? ⟨r, 1, none⟩ = some (.slice none 0 0) := fun p => p.k.cell h.c1 (fun h => h)
    obtain ⟨v', w', hr, hpost⟩ := HTP.out (.slice none 0 0) (.inl ⟨rfl, by rw [← HT.out]; simp⟩)
    have HPO := Lib.hid hpost
    simp at hm hK
    clear h HTP hpost HT hN0 hnil hKl hK0
    go_enter Try.func25, Try.ntmps25
    go_wp2_with fail
    refine wp_region_walk [(true, 1), (true, 2), (true, 3), (true, 4), (true, 5), (true, 6), (true, 7), (true, 8), (true, 9), (true, 10), (true, 11), (true, 12), (true, 13), (false, 0), (false, 14), (false, 15)] (inKA (fun _ => False) w) (by kernel_rfl) (by kernel_rfl) ?_
    iterate 13 (refine walkW_read rfl (fun K hK => ?_); go_simp; refine hK _ ?_; clear hK K)
    clear c1
    refine walkW_do rfl (inKA.of (Keep.refl _ w).drew) (fun K hK => ?_)
    go_simp
    refine hK _ _ ?_; clear hK K
    refine walkW_do rfl (inKA.of ((Keep.refl _ w).drew.alloc _)) (fun K hK => ?_)
    rw [if_pos (by simp [Region.wanted])]
    refine wp_app (.tmp 5) (.tmp 18) 34 rfl rfl rfl hr (hK _ _ ?_); clear hK K
    obtain ⟨vv, hvv, hown, hkp⟩ := HPO.out
    refine walkW_do rfl (inKA.of hkp) (fun K hK => ?_)
    go_simp
    refine hK _ _ ?_; clear hK K
    refine ⟨inKA.of hkp, ?_⟩
    go_wp2_with fail
    go_ret
    exact HPO.out
  · rw [List.length_map] at hc
    have c1 : ∀ p : KA (fun _ => False) w, p.val.cell? ⟨r, 1, none⟩ = some (.slice (some ⟨b, off, none⟩) L.length c) := fun p => by
      have := p.k.cell h.c1 (fun h => h)
      rwa [List.length_map] at this
    have hKc : (K : Int) ≤ (c : Int) := by omega
    obtain ⟨v', w', hr, hpost⟩ := HTP.out (.slice (some ⟨b, off, none⟩) K c) (by rw [← HT.out]; exact hcell.take (by rw [List.length_map]; exact hKl) (by rw [List.length_map]; exact hc))
    have HPO := Lib.hid hpost
    clear h hcell HTP hpost HT
    generalize L.length = N at *
    go_enter Try.func25, Try.ntmps25
    go_wp2_with fail
    refine wp_region_walk [(true, 1), (true, 2), (true, 3), (true, 4), (true, 5), (true, 6), (true, 7), (true, 8), (true, 9), (true, 10), (true, 11), (true, 12), (true, 13), (false, 0), (false, 14), (false, 15)] (inKA (fun _ => False) w) (by kernel_rfl) (by kernel_rfl) ?_
    iterate 13 (refine walkW_read rfl (fun K hK => ?_); go_simp; refine hK _ ?_; clear hK K)
    clear c1
    refine walkW_do rfl (inKA.of (Keep.refl _ w).drew) (fun K hK => ?_)
    go_simp
    refine hK _ _ ?_; clear hK K
    refine walkW_do rfl (inKA.of ((Keep.refl _ w).drew.alloc _)) (fun K hK => ?_)
    rw [if_pos (by simp [Region.wanted])]
    refine wp_app (.tmp 5) (.tmp 18) 34 rfl rfl rfl hr (hK _ _ ?_); clear hK K
    obtain ⟨vv, hvv, hown, hkp⟩ := HPO.out
    refine walkW_do rfl (inKA.of hkp) (fun K hK => ?_)
    go_simp
    refine hK _ _ ?_; clear hK K
    refine ⟨inKA.of hkp, ?_⟩
    go_wp2_with fail
    go_ret
    exact HPO.out
end Go.Proofs.Ytogkkghliogpeaa
