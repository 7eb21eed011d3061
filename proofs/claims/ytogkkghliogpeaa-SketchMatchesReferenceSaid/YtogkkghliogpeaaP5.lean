/-
  Bounds: merging; totals.
-/
import Derived.Test.YtogkkghliogpeaaP4
namespace Go.Proofs.Ytogkkghliogpeaa
open Go.RowKit

/-- The sum of what is known of keys. -/
def sumV (L : List C) (m : Int) : List ByteArray → Int
  | [] => 0
  | k :: r => (match atC L k with | none => m | some x => x.hi) + sumV L m r
theorem sumV_del {L : List C} (hL : (L.map C.key).Nodup) (m : Int) {y : ByteArray} : ∀ {K : List ByteArray}, y ∉ K → sumV (delC L y) m K = sumV L m K
  | [], _ => rfl
  | k :: r, h => by
    have hne : k ≠ y := fun e => h (by simp [e])
    have hr : y ∉ r := fun e => h (by simp [e])
    have e : atC (delC L y) k = atC L k := by
      cases e : atC L k with
      | some x =>
        obtain ⟨hx, rfl⟩ := atC_some e
        exact atC_of_mem (delC_keys hL y) (mem_delC.2 ⟨hx, hne⟩)
      | none => exact atC_none_iff (fun x hx e' => atC_none e x (mem_delC.1 hx).1 e')
    simp only [sumV]
    rw [e, sumV_del hL m hr]
theorem sumV_le {m : Int} (hm : 0 ≤ m) : ∀ (K : List ByteArray) (L : List C), K.Nodup → (L.map C.key).Nodup → (∀ x ∈ L, m ≤ x.hi ∧ 0 ≤ x.hi) → (m = 0 ∨ K.length ≤ L.length) → sumV L m K ≤ sumH L
  | [], L, _, _, hL, _ => by simp only [sumV]; exact sumH_nonneg (fun x hx => (hL x hx).2)
  | k :: r, L, hK, hn, hL, hl => by
    rw [List.nodup_cons] at hK
    simp only [sumV]
    cases e : atC L k with
    | some x =>
      obtain ⟨hx, rfl⟩ := atC_some e
      simp only []
      rw [← sumV_del hn m hK.1]
      have hlen := len_del hn hx
      have := sumV_le hm r (delC L x.key) hK.2 (delC_keys hn _) (fun z hz => hL z (mem_delC.1 hz).1) (hl.imp id (fun h => by simp at h; omega))
      have h2 := sumH_perm (delC_split hn hx)
      simp only [sumH] at h2
      omega
    | none =>
      simp only []
      have hne := atC_none e
      rcases hl with rfl | hl
      · have := sumV_le hm r L hK.2 hn hL (.inl rfl)
        omega
      · -- some counter of L is of no key of K
        have hex : ∃ y ∈ L, y.key ∉ r := by
          apply Classical.byContradiction
          intro hno
          have hsub := sub_length hn (B := r) (fun q hq => by
            obtain ⟨y, hy, rfl⟩ := List.mem_map.1 hq
            apply Classical.byContradiction
            intro h
            exact hno ⟨y, hy, h⟩)
          rw [List.length_map] at hsub
          simp at hl
          omega
        obtain ⟨y, hy, hyr⟩ := hex
        rw [← sumV_del hn m hyr]
        have hlen := len_del hn hy
        have := sumV_le hm r (delC L y.key) hK.2 (delC_keys hn _) (fun z hz => hL z (mem_delC.1 hz).1) (.inr (by simp at hl; omega))
        have h2 := sumH_perm (delC_split hn hy)
        simp only [sumH] at h2
        have := hL y hy
        omega

theorem ofHi_sum {cap : Nat} {L : List C} (ok : OkL cap L) {K : List ByteArray} (hK : K.Nodup) (hl : K.length ≤ cap) : sumV L (leastC cap L) K ≤ sumH L := by
  refine sumV_le ok.least.1 K L hK ok.keys (fun x hx => ⟨leastC_le ok hx, by have := ok.pos x hx; omega⟩) ?_
  by_cases h : L.length < cap
  · exact .inl (leastC_zero h)
  · exact .inr (by omega)

theorem sumV_both {cap : Nat} {L : List C} {cap' : Nat} {L' : List C} : ∀ M : List C, (∀ x ∈ M, x = bothC cap L cap' L' x.key) → sumH M = sumV L (leastC cap L) (M.map C.key) + sumV L' (leastC cap' L') (M.map C.key)
  | [], _ => rfl
  | x :: r, h => by
    have h1 := h x (by simp)
    have h2 := sumV_both r (fun y hy => h y (by simp [hy]))
    simp only [sumH, List.map_cons, sumV]
    rw [h2]
    have e : x.hi = (match atC L x.key with | none => leastC cap L | some z => z.hi) + (match atC L' x.key with | none => leastC cap' L' | some z => z.hi) := by
      have : x.hi = (bothC cap L cap' L' x.key).hi := by rw [← h1]
      rw [this]
      rfl
    rw [e]
    omega

theorem merge_sum {cap : Nat} {L : List C} {cap' : Nat} {L' : List C} (m : Mrg cap L cap' L') : sumH (mergeC cap L cap' L') ≤ sumH L + sumH L' := by
  have hok := mergeC_ok m
  have hsub : (mergeC cap L cap' L').Sublist (joinC cap L cap' L') := List.take_sublist _ _
  rw [sumV_both (cap := cap) (L := L) (cap' := cap') (L' := L') _ (fun x hx => (Mrg.join_mem (hsub.mem hx)).2)]
  have h1 := ofHi_sum m.ok hok.keys (by rw [List.length_map]; exact hok.len)
  have h2 := ofHi_sum m.ok' hok.keys (by rw [List.length_map]; exact Nat.le_trans hok.len m.le)
  omega

theorem Bd.merge {cap : Nat} {L : List C} {cap' : Nat} {L' : List C} {c d : ByteArray → Int} (m : Mrg cap L cap' L') (h : Bd cap L c) (h' : Bd cap' L' d) : Bd cap (mergeC cap L cap' L') (fun k => c k + d k) := by
  have okM := mergeC_ok m
  have hsub : (mergeC cap L cap' L').Sublist (joinC cap L cap' L') := List.take_sublist _ _
  refine Bd.step (L := L) (c := c) okM.keys okM (fun x hx hxn => ?_) (fun k hkn hno => ?_)
  · obtain ⟨_, e⟩ := Mrg.join_mem (hsub.mem hx)
    have h1 := h _ hxn
    have h2 := h' _ hxn
    have e1 : x.lo = loOf L x.key + loOf L' x.key := by rw [e]; rfl
    have e2 : x.hi = Ytogkkghliogpeaa.ofHi cap L x.key + Ytogkkghliogpeaa.ofHi cap' L' x.key := by rw [e]; rfl
    rw [e1, e2]
    show _ ≤ c x.key + d x.key ∧ c x.key + d x.key ≤ _
    omega
  · have h1 := h k hkn
    have h2 := h' k hkn
    have o1 := m.ok.ofHi k
    have o2 := m.ok'.ofHi k
    show 0 ≤ c k + d k ∧ c k + d k ≤ _
    refine ⟨by omega, ?_⟩
    by_cases hk : k ∈ unionK L L'
    · -- dropped
      have hj : bothC cap L cap' L' k ∈ joinC cap L cap' L' := (Mrg.join_perm cap L cap' L').mem_iff.2 (List.mem_map_of_mem hk)
      have hnt : bothC cap L cap' L' k ∉ mergeC cap L cap' L' := fun hm => hno _ hm rfl
      have hd : bothC cap L cap' L' k ∈ (joinC cap L cap' L').drop cap := by
        have := hj
        rw [← List.take_append_drop cap (joinC cap L cap' L')] at this
        exact (List.mem_append.1 this).resolve_left hnt
      have hl : cap < (joinC cap L cap' L').length := by
        apply Classical.byContradiction
        intro hh
        rw [List.drop_eq_nil_of_le (by omega)] at hd
        cases hd
      have hfull : ¬ (mergeC cap L cap' L').length < cap := by unfold mergeC; rw [List.length_take]; omega
      refine le_leastC okM hfull (fun x hx => ?_)
      have hs := m.join_sorted
      rw [← List.take_append_drop cap (joinC cap L cap' L')] at hs
      have hb := (List.pairwise_append.1 hs).2.2 x hx _ hd
      unfold BefC at hb
      have e2 : (bothC cap L cap' L' k).hi = Ytogkkghliogpeaa.ofHi cap L k + Ytogkkghliogpeaa.ofHi cap' L' k := rfl
      omega
    · have n1 : atC L k = none := atC_none_iff (fun x hx e => hk (mem_unionK.2 (.inl (e ▸ List.mem_map_of_mem hx))))
      have n2 : atC L' k = none := atC_none_iff (fun x hx e => hk (mem_unionK.2 (.inr (e ▸ List.mem_map_of_mem hx))))
      rw [ofHi_none n1] at h1
      rw [ofHi_none n2] at h2
      by_cases hl : (mergeC cap L cap' L').length < cap
      · have hu : (unionK L L').length < cap := by
          have e : (joinC cap L cap' L').length = (unionK L L').length := by rw [(Mrg.join_perm cap L cap' L').length_eq, List.length_map]
          unfold mergeC at hl
          rw [List.length_take] at hl
          omega
        have l1 : L.length ≤ (unionK L L').length := by
          have := sub_length m.ok.keys (B := unionK L L') (fun q hq => mem_unionK.2 (.inl hq))
          rwa [List.length_map] at this
        have l2 : L'.length ≤ (unionK L L').length := by
          have := sub_length m.ok'.keys (B := unionK L L') (fun q hq => mem_unionK.2 (.inr hq))
          rwa [List.length_map] at this
        have := m.le
        rw [leastC_zero (by omega)] at h1
        rw [leastC_zero (by omega)] at h2
        rw [leastC_zero hl]
        omega
      · refine le_leastC okM hl (fun x hx => ?_)
        obtain ⟨_, e⟩ := Mrg.join_mem (hsub.mem hx)
        have e2 : x.hi = Ytogkkghliogpeaa.ofHi cap L x.key + Ytogkkghliogpeaa.ofHi cap' L' x.key := by rw [e]; rfl
        have g1 := least_le_ofHi m.ok x.key
        have g2 := least_le_ofHi m.ok' x.key
        omega

/-- Keys without a counter are not heavy. -/
theorem full_sum {cap : Nat} {L : List C} (ok : OkL cap L) : leastC cap L * cap ≤ sumH L := by
  have h0 := ok.hi0 ⟨#[]⟩
  by_cases h : L.length < cap
  · rw [leastC_zero h, Int.zero_mul]; omega
  · have hl : L.length = cap := by have := ok.len; omega
    have : ∀ (M : List C) (B : Int), (∀ x ∈ M, B ≤ x.hi) → B * M.length ≤ sumH M := by
      intro M B
      induction M with
      | nil => intro _; simp [sumH]
      | cons x r ih =>
        intro hB
        have h1 := hB x (by simp)
        have h2 := ih (fun y hy => hB y (by simp [hy]))
        simp only [sumH, List.length_cons, Int.natCast_add, Int.mul_add]
        omega
    have h2 := this L (leastC cap L) (fun x hx => leastC_le ok hx)
    rwa [hl] at h2

/-- How far totals can come. -/
def pot : Nat → Int
  | 0 => 0
  | i + 1 => 81 * pot i / 50 + 40000
theorem pot_nn : ∀ i, 0 ≤ pot i
  | 0 => Int.le_refl _
  | i + 1 => by have := pot_nn i; simp only [pot]; omega
theorem pot_mono (i : Nat) : pot i ≤ pot (i + 1) := by have := pot_nn i; simp only [pot]; omega
theorem pot_le {i j : Nat} (h : i ≤ j) : pot i ≤ pot j := by
  induction h with
  | refl => exact Int.le_refl _
  | step _ ih => exact Int.le_trans ih (pot_mono _)
theorem pot_60 : pot 60 ≤ 900000000000000000 := by decide +kernel
/-- The totals of both sketches after i calls. -/
def Pot (A B : Int) (i : Nat) : Prop := 0 ≤ A ∧ 0 ≤ B ∧ 1000 * A + 1618 * B ≤ pot i
theorem Pot.small {A B : Int} {i : Nat} (h : Pot A B i) (hi : i ≤ 60) : A + B ≤ 900000000000000 := by
  have := pot_le hi
  have := pot_60
  unfold Pot at h
  omega
theorem Pot.add {A B n : Int} {i : Nat} (h : Pot A B i) (h1 : 1 ≤ n) (h2 : n ≤ 20) : Pot (A + n) B (i + 1) := by unfold Pot at *; simp only [pot]; omega
theorem Pot.less {A A' B : Int} {i : Nat} (h : Pot A B i) (h0 : 0 ≤ A') (h1 : A' ≤ A) : Pot A' B (i + 1) := by unfold Pot at *; simp only [pot]; omega
theorem Pot.merge {A A' B : Int} {i : Nat} (h : Pot A B i) (h0 : 0 ≤ A') (h1 : A' ≤ A + B) : Pot A' B (i + 1) := by unfold Pot at *; simp only [pot]; omega
theorem Pot.swap {A B : Int} {i : Nat} (h : Pot A B i) : Pot B A (i + 1) := by unfold Pot at *; simp only [pot]; omega
end Go.Proofs.Ytogkkghliogpeaa
