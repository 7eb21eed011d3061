/-
  Bounds: numbers of uses lie within the bounds of the counters.
-/
import Derived.Test.YtogkkghliogpeaaP3
namespace Go.Proofs.Ytogkkghliogpeaa
open Go.RowKit

/-! ### the least count -/
theorem last_le {L : List C} (hs : L.Pairwise BefC) {z : C} (hz : L.getLast? = some z) {x : C} (hx : x ∈ L) : z.hi ≤ x.hi := by
  obtain ⟨X, rfl⟩ := List.getLast?_eq_some_iff.1 hz
  rcases List.mem_append.1 hx with hx | hx
  · have := (List.pairwise_append.1 hs).2.2 x hx z (by simp)
    unfold BefC at this
    omega
  · rw [List.mem_singleton] at hx; rw [hx]; exact Int.le_refl _
theorem leastC_le {cap : Nat} {L : List C} (h : OkL cap L) {x : C} (hx : x ∈ L) : leastC cap L ≤ x.hi := by
  have hp := h.pos x hx
  unfold leastC
  split
  · omega
  · cases e : L.getLast? with
    | none => simp only []; omega
    | some z => exact last_le h.sorted e hx
theorem le_leastC {cap : Nat} {L : List C} (h : OkL cap L) (hl : ¬ L.length < cap) {B : Int} (hB : ∀ x ∈ L, B ≤ x.hi) : B ≤ leastC cap L := by
  have hc := h.cap1
  unfold leastC
  rw [if_neg hl]
  cases e : L.getLast? with
  | none =>
    rw [List.getLast?_eq_none_iff] at e
    rw [e] at hl; simp at hl; omega
  | some z => exact hB z (List.mem_of_getLast? e)
theorem leastC_zero {cap : Nat} {L : List C} (hl : L.length < cap) : leastC cap L = 0 := by unfold leastC; rw [if_pos hl]
theorem least_le_ofHi {cap : Nat} {L : List C} (h : OkL cap L) (k : ByteArray) : leastC cap L ≤ Ytogkkghliogpeaa.ofHi cap L k := by
  unfold Ytogkkghliogpeaa.ofHi
  cases e : atC L k with
  | none => exact Int.le_refl _
  | some x => exact leastC_le h (atC_some e).1

/-- The numbers c are within the bounds. -/
def Bd (cap : Nat) (L : List C) (c : ByteArray → Int) : Prop := ∀ k ∈ nms, loOf L k ≤ c k ∧ c k ≤ Ytogkkghliogpeaa.ofHi cap L k

theorem ofHi_mem {cap : Nat} {L : List C} (h : (L.map C.key).Nodup) {x : C} (hx : x ∈ L) : Ytogkkghliogpeaa.ofHi cap L x.key = x.hi := by unfold Ytogkkghliogpeaa.ofHi; rw [atC_of_mem h hx]
theorem ofHi_none {cap : Nat} {L : List C} {k : ByteArray} (h : atC L k = none) : Ytogkkghliogpeaa.ofHi cap L k = leastC cap L := by unfold Ytogkkghliogpeaa.ofHi; rw [h]
theorem loOf_none {L : List C} {k : ByteArray} (h : atC L k = none) : loOf L k = 0 := by unfold loOf; rw [h]

theorem Bd.nil (cap : Nat) (h : 1 ≤ cap) : Bd cap [] (fun _ => 0) := fun k _ => by
  have e : atC [] k = none := rfl
  rw [loOf_none e, ofHi_none e, leastC_zero (by simp; omega)]
  exact ⟨Int.le_refl _, Int.le_refl _⟩

theorem Bd.nn {cap : Nat} {L : List C} {c : ByteArray → Int} (h : Bd cap L c) (ok : OkL cap L) {k : ByteArray} (hk : k ∈ nms) : 0 ≤ c k ∧ c k ≤ sumH L := by
  have h1 := h k hk
  have h2 := ok.ofHi k
  omega

/-- Two lists of counters with bounds that fit. -/
theorem Bd.step {cap : Nat} {L M : List C} {c d : ByteArray → Int} (hM : (M.map C.key).Nodup) (okM : OkL cap M)
    (h1 : ∀ x ∈ M, x.key ∈ nms → x.lo ≤ d x.key ∧ d x.key ≤ x.hi) (h2 : ∀ k ∈ nms, (∀ x ∈ M, x.key ≠ k) → 0 ≤ d k ∧ d k ≤ leastC cap M) : Bd cap M d := fun k hk => by
  cases e : atC M k with
  | some x =>
    obtain ⟨hx, rfl⟩ := atC_some e
    rw [loOf_mem hM hx, ofHi_mem hM hx]
    exact h1 x hx hk
  | none =>
    rw [loOf_none e, ofHi_none e]
    exact h2 k hk (atC_none e)

theorem Bd.of_mem {cap : Nat} {L : List C} {c : ByteArray → Int} (h : Bd cap L c) (ok : OkL cap L) {x : C} (hx : x ∈ L) (hk : x.key ∈ nms) : x.lo ≤ c x.key ∧ c x.key ≤ x.hi := by
  have := h x.key hk
  rwa [loOf_mem ok.keys hx, ofHi_mem ok.keys hx] at this
theorem Bd.of_none {cap : Nat} {L : List C} {c : ByteArray → Int} (h : Bd cap L c) {k : ByteArray} (hk : k ∈ nms) (hn : atC L k = none) : 0 ≤ c k ∧ c k ≤ leastC cap L := by
  have := h k hk
  rwa [loOf_none hn, ofHi_none hn] at this
theorem atC_none_iff {L : List C} {k : ByteArray} (h : ∀ x ∈ L, x.key ≠ k) : atC L k = none := by
  cases e : atC L k with
  | none => rfl
  | some x => obtain ⟨h1, h2⟩ := atC_some e; exact absurd h2 (h x h1)

/-- The least count does not fall. -/
theorem least_mono {cap : Nat} {L M : List C} (ok : OkL cap L) (okM : OkL cap M) (hl : L.length ≤ M.length) (hm : ∀ x ∈ M, leastC cap L ≤ x.hi) : leastC cap L ≤ leastC cap M := by
  by_cases h : M.length < cap
  · rw [leastC_zero h, leastC_zero (by omega)]; exact Int.le_refl _
  · exact le_leastC okM h hm

theorem Bd.add {cap : Nat} {L : List C} {c : ByteArray → Int} (h : Bd cap L c) (ok : OkL cap L) {key : ByteArray} (hk : key ∈ nms) (hks : key.size ≤ maxLen) {n : Int} (hn : 1 ≤ n) (hs : sumH L + n ≤ 4611686018427387903) : Bd cap (addC cap L key n) (plus c key n) := by
  have okM := addC_ok ok hks hn hs
  have hlen := addC_len ok key n
  have hle0 := ok.least
  have hmem : ∀ x ∈ addC cap L key n, (x.key = key ∧ ((∃ y ∈ L, y.key = key ∧ x.lo = y.lo + n ∧ x.hi = y.hi + n) ∨ (atC L key = none ∧ x.lo = n ∧ x.hi = leastC cap L + n))) ∨ (x.key ≠ key ∧ x ∈ L) := by
    intro x hx
    unfold addC at hx
    cases e : atC L key with
    | some y =>
      rw [e] at hx
      obtain ⟨hy, hyk⟩ := atC_some e
      rcases List.mem_cons.1 ((insC_perm _ _).mem_iff.1 hx) with rfl | hx
      · exact .inl ⟨rfl, .inl ⟨y, hy, hyk, rfl, rfl⟩⟩
      · exact .inr ⟨(mem_delC.1 hx).2, (mem_delC.1 hx).1⟩
    | none =>
      rw [e] at hx
      simp only [] at hx
      have hne := atC_none e
      split at hx
      · rcases List.mem_cons.1 ((insC_perm _ _).mem_iff.1 hx) with rfl | hx
        · exact .inl ⟨rfl, .inr ⟨rfl, rfl, rfl⟩⟩
        · have := (List.dropLast_sublist L).mem hx
          exact .inr ⟨hne x this, this⟩
      · rename_i hl
        rcases List.mem_cons.1 ((insC_perm _ _).mem_iff.1 hx) with rfl | hx
        · have h3 := ok.len
          exact .inl ⟨rfl, .inr ⟨rfl, rfl, by simp only []; rw [leastC_zero (by omega)]; omega⟩⟩
        · exact .inr ⟨hne x hx, hx⟩
  have hlm : leastC cap L ≤ leastC cap (addC cap L key n) := least_mono ok okM hlen (fun x hx => by
    rcases hmem x hx with ⟨_, ⟨y, hy, _, _, e⟩ | ⟨_, _, e⟩⟩ | ⟨_, hxL⟩
    · have := leastC_le ok hy; omega
    · omega
    · exact leastC_le ok hxL)
  refine Bd.step (L := L) (c := c) okM.keys okM (fun x hx hxn => ?_) (fun k hkn hno => ?_)
  · unfold plus
    rcases hmem x hx with ⟨hxk, ⟨y, hy, hyk, e1, e2⟩ | ⟨hnone, e1, e2⟩⟩ | ⟨hxk, hxL⟩
    · rw [if_pos hxk]
      have := h.of_mem ok hy (by rw [hyk]; exact hk)
      rw [hyk, ← hxk] at this
      omega
    · rw [if_pos hxk]
      have := h.of_none hk hnone
      rw [← hxk] at this
      omega
    · rw [if_neg hxk]
      exact h.of_mem ok hxL hxn
  · unfold plus
    have hkk : k ≠ key := fun e => by
      -- the key has a counter
      subst e
      have : ∃ x ∈ addC cap L k n, x.key = k := by
        unfold addC
        cases e : atC L k with
        | some y => exact ⟨_, (insC_perm _ _).mem_iff.2 List.mem_cons_self, rfl⟩
        | none =>
          simp only []
          split
          · exact ⟨_, (insC_perm _ _).mem_iff.2 List.mem_cons_self, rfl⟩
          · exact ⟨_, (insC_perm _ _).mem_iff.2 List.mem_cons_self, rfl⟩
      obtain ⟨x, hx, hxk⟩ := this
      exact hno x hx hxk
    rw [if_neg hkk]
    cases e : atC L k with
    | none => have := h.of_none hkn e; omega
    | some y =>
      obtain ⟨hy, hyk⟩ := atC_some e
      have hb := h.of_mem ok hy (by rw [hyk]; exact hkn)
      rw [hyk] at hb
      have hp := ok.pos y hy
      -- it has been dropped: it was the last one
      have hlast : y.hi = leastC cap L := by
        cases e2 : atC L key with
        | some z =>
          exfalso
          refine hno y ?_ hyk
          unfold addC; rw [e2]
          exact (insC_perm _ _).mem_iff.2 (List.mem_cons_of_mem _ (mem_delC.2 ⟨hy, by rw [hyk]; exact hkk⟩))
        | none =>
          by_cases hl : L.length = cap
          · cases e3 : L.getLast? with
            | none => rw [List.getLast?_eq_none_iff] at e3; rw [e3] at hy; cases hy
            | some z =>
              unfold leastC
              rw [if_neg (by omega), e3]
              obtain ⟨X, hX⟩ := List.getLast?_eq_some_iff.1 e3
              by_cases hyz : y = z
              · rw [hyz]
              · exfalso
                refine hno y ?_ hyk
                unfold addC; rw [e2]; simp only []; rw [if_pos hl]
                refine (insC_perm _ _).mem_iff.2 (List.mem_cons_of_mem _ ?_)
                rw [hX] at hy ⊢
                rw [List.dropLast_concat]
                rcases List.mem_append.1 hy with h | h
                · exact h
                · rw [List.mem_singleton] at h; exact absurd h hyz
          · exfalso
            refine hno y ?_ hyk
            unfold addC; rw [e2]; simp only []; rw [if_neg hl]
            exact (insC_perm _ _).mem_iff.2 (List.mem_cons_of_mem _ hy)
      omega

theorem Bd.halve {cap : Nat} {L : List C} {c d : ByteArray → Int} (h : Bd cap L c) (ok : OkL cap L) (hd : ∀ k ∈ nms, ∃ r, 0 ≤ r ∧ r ≤ 1 ∧ d k = (c k + r) / 2) : Bd cap (halveC L) d := by
  have okM := halveC_ok ok
  have hp := ordC_perm (L.map halfC)
  refine Bd.step (L := L) (c := c) okM.keys okM (fun x hx hxn => ?_) (fun k hkn hno => ?_)
  · obtain ⟨y, hy, rfl⟩ := List.mem_map.1 (hp.mem_iff.1 hx)
    have hb := h.of_mem ok hy hxn
    obtain ⟨r, r0, r1, e⟩ := hd _ hxn
    have hpos := ok.pos y hy
    show y.lo / 2 ≤ d y.key ∧ d y.key ≤ (y.hi + 1) / 2
    have e' : d y.key = (c y.key + r) / 2 := e
    rw [e']
    omega
  · have hn : atC L k = none := atC_none_iff (fun x hx e => hno (halfC x) (hp.mem_iff.2 (List.mem_map_of_mem hx)) e)
    have hb := h.of_none hkn hn
    obtain ⟨r, r0, r1, e⟩ := hd _ hkn
    rw [e]
    have hlen : (halveC L).length = L.length := by unfold halveC; rw [hp.length_eq, List.length_map]
    refine ⟨by omega, ?_⟩
    by_cases hl : L.length < cap
    · rw [leastC_zero hl] at hb
      rw [leastC_zero (by omega)]
      omega
    · refine le_leastC okM (by omega) (fun x hx => ?_)
      obtain ⟨y, hy, rfl⟩ := List.mem_map.1 (hp.mem_iff.1 hx)
      have := leastC_le ok hy
      show (c k + r) / 2 ≤ (y.hi + 1) / 2
      omega
end Go.Proofs.Ytogkkghliogpeaa
