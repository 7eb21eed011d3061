/-
  Numerals that are read back; lines that are divided at their spaces.
-/
import Derived.Lib.AtoiAll
import Derived.Lib.ItoaNum
import Derived.Lib.SplitLaws
namespace Go.Proofs.YtmndjicaofciiaaGreatDoor
open Go.Lib

/-! ## Numerals -/
theorem dec_ne (u : Nat) : decDigits u ≠ [] := by
  rw [decDigits]
  split <;> simp
theorem digit_lt (d : Nat) (h : d < 10) : (UInt8.ofNat (48 + d)).toNat = 48 + d := by
  rw [UInt8.toNat_ofNat']
  exact Nat.mod_eq_of_lt (by omega)
theorem dec_digit (u : Nat) : ∀ c ∈ decDigits u, 48 ≤ c.toNat ∧ c.toNat ≤ 57 := by
  induction u using Nat.strongRecOn with
  | _ u ih =>
    intro c hc
    rw [decDigits] at hc
    split at hc
    · rename_i h
      simp only [List.mem_singleton] at hc
      subst hc
      rw [digit_lt u h]
      omega
    · rename_i h
      rcases List.mem_append.1 hc with hc | hc
      · exact ih (u / 10) (by omega) c hc
      · simp only [List.mem_singleton] at hc
        subst hc
        rw [digit_lt (u % 10) (Nat.mod_lt _ (by decide))]
        have := Nat.mod_lt u (show 10 > 0 by decide)
        omega
theorem parse_app (l : List UInt8) (c : UInt8) (acc v : Nat) (h : parseUint10 acc l = .ok v) (hc : 48 ≤ c.toNat ∧ c.toNat ≤ 57) (hv : v * 10 + (c.toNat - 48) < 1000000000000000000) : parseUint10 acc (l ++ [c]) = .ok (v * 10 + (c.toNat - 48)) := by
  induction l generalizing acc with
  | nil =>
    simp only [parseUint10] at h
    injection h with h
    subst h
    simp only [List.nil_append, parseUint10]
    rw [if_pos hc, if_neg (by omega), if_neg (by omega)]
  | cons x l ih =>
    simp only [parseUint10] at h
    split at h
    · rename_i hx
      split at h
      · cases h
      · rename_i h1
        split at h
        · cases h
        · rename_i h2
          simp only [List.cons_append, parseUint10]
          rw [if_pos hx, if_neg h1, if_neg h2]
          exact ih _ h
    · cases h
theorem parse_dec (u : Nat) (h : u < 100000000000000000) : parseUint10 0 (decDigits u) = .ok u := by
  induction u using Nat.strongRecOn with
  | _ u ih =>
    rw [decDigits]
    split
    · rename_i h1
      simp only [parseUint10]
      rw [digit_lt u h1, if_pos (by omega), if_neg (by omega), if_neg (by omega)]
      congr 1
      omega
    · rename_i h1
      have h2 := Nat.mod_lt u (show 10 > 0 by decide)
      have h3 := digit_lt (u % 10) h2
      have h4 := parse_app _ (UInt8.ofNat (48 + u % 10)) 0 _ (ih (u / 10) (by omega) (by omega)) (by rw [h3]; omega) (by rw [h3]; omega)
      rw [h4, h3]
      congr 1
      omega
/-- A number that is written is read back. -/
theorem atoi_itoa (n : Int) (h : -10000000000000000 < n ∧ n < 10000000000000000) : atoiAll (itoa n) = .ok n := by
  unfold itoa
  by_cases hn : n < 0
  · rw [if_pos hn]
    unfold atoiAll
    have e : (45 : UInt8).toNat = 45 := rfl
    simp only [e]
    rw [if_pos (by simp)]
    unfold parseMag
    rw [if_neg (dec_ne _), parse_dec _ (by omega)]
    simp only []
    rw [if_neg (by rintro ⟨h2, -⟩; exact h2 trivial), if_neg (by rintro ⟨-, h2⟩; omega), if_pos trivial]
    congr 1
    omega
  · rw [if_neg hn]
    have h1 := dec_ne n.toNat
    have h2 := parse_dec n.toNat (by omega)
    have h3 := dec_digit n.toNat
    cases hd : decDigits n.toNat with
    | nil => exact absurd hd h1
    | cons c r =>
      rw [hd] at h2 h3
      have hc := h3 c (by simp)
      unfold atoiAll
      simp only []
      rw [if_neg (by omega)]
      unfold parseMag
      rw [if_neg (by simp), h2]
      simp only []
      rw [if_neg (by omega), if_neg (by omega), if_neg (by omega)]
      congr 1
      omega
theorem itoa_mem {n : Int} {c : UInt8} (h : c ∈ itoa n) : c.toNat = 45 ∨ 48 ≤ c.toNat ∧ c.toNat ≤ 57 := by
  unfold itoa at h
  split at h
  · rcases List.mem_cons.1 h with rfl | h
    · exact .inl rfl
    · exact .inr (dec_digit _ c h)
  · exact .inr (dec_digit _ c h)
theorem itoa_free (n : Int) : ∀ c ∈ itoa n, c ≠ 32 := fun c hc e => by
  subst e
  rcases itoa_mem hc with h | h
  · exact absurd h (by decide)
  · exact absurd h (by decide)
theorem itoa_ne (n : Int) : itoa n ≠ [] := by
  unfold itoa
  split
  · simp
  · exact dec_ne _

/-! ## Lines -/
/-- Words with spaces between them. -/
def joinW : List (List UInt8) → List UInt8
  | [] => []
  | [w] => w
  | w :: v :: r => w ++ 32 :: joinW (v :: r)
theorem joinW_cons (w v : List UInt8) (r : List (List UInt8)) : joinW (w :: v :: r) = w ++ 32 :: joinW (v :: r) := rfl
theorem joinW_snoc (l : List (List UInt8)) (w : List UInt8) (h : l ≠ []) : joinW (l ++ [w]) = joinW l ++ 32 :: w := by
  induction l with
  | nil => exact absurd rfl h
  | cons x l ih =>
    cases l with
    | nil => rfl
    | cons y l =>
      show x ++ 32 :: joinW (y :: l ++ [w]) = (x ++ 32 :: joinW (y :: l)) ++ 32 :: w
      rw [ih (by simp)]
      simp
theorem index_free (w r : List UInt8) (h : ∀ c ∈ w, c ≠ 32) : index (w ++ 32 :: r) [32] = w.length := by
  refine index_first (by simp) ?_ ?_
  · rw [occAt_iff_take _ _ _ (by simp)]
    simp
  · intro j hj
    rw [occAt_iff_take _ _ _ (by simp; omega), List.drop_append_of_le_length (by omega)]
    obtain ⟨x, hx⟩ : ∃ x, w[j]? = some x := ⟨_, List.getElem?_eq_getElem hj⟩
    have e : w.drop j = x :: w.drop (j + 1) := by
      rw [List.drop_eq_getElem_cons hj]
      congr 1
      rw [List.getElem?_eq_getElem hj] at hx
      exact Option.some.inj hx
    rw [e]
    have := h x (List.mem_of_getElem? hx)
    simp [this]
theorem index_none' (w : List UInt8) (h : ∀ c ∈ w, c ≠ 32) : index w [32] = -1 := by
  refine index_none fun j hj => ?_
  by_cases hl : j + 1 ≤ w.length
  · have h2 := h _ (List.getElem_mem (by omega : j < w.length))
    rw [occAt_iff_take _ _ _ (by simpa using hl), List.drop_eq_getElem_cons (by omega)]
    simp only [List.length_cons, List.length_nil, List.take_succ_cons, Nat.zero_add, List.take_zero]
    exact beq_eq_false_iff_ne.2 (fun e => h2 (List.cons.inj e).1)
  · cases e : occAt w [32] j with
    | false => rfl
    | true =>
      rcases occAt_room e with h1 | h1
      · simp at h1; omega
      · cases h1
theorem split_join (w : List UInt8) (r : List (List UInt8)) (h : ∀ x ∈ w :: r, ∀ c ∈ x, c ≠ 32) : split (joinW (w :: r)) [32] = w :: r := by
  induction r generalizing w with
  | nil =>
    have h1 := index_none' w (h w (by simp))
    show splitK [32] 0 (count w [32]) w = [w]
    rw [count_miss h1]
    rfl
  | cons v r ih =>
    have h1 := index_free w (joinW (v :: r)) (h w (by simp))
    have h2 := ih v (fun x hx => h x (by simp at hx ⊢; exact .inr hx))
    rw [joinW_cons]
    unfold split at h2 ⊢
    have hd : (w ++ 32 :: joinW (v :: r)).drop (w.length + [(32 : UInt8)].length) = joinW (v :: r) := by
      rw [show w ++ 32 :: joinW (v :: r) = (w ++ [32]) ++ joinW (v :: r) by simp, List.drop_append_of_le_length (by simp), List.drop_of_length_le (by simp)]
      rfl
    rw [count_hit (by simp) h1, hd, Nat.add_comm]
    unfold splitK
    rw [h1, if_neg (by simp only [beq_iff_eq]; omega), Int.toNat_natCast, hd, h2]
    simp
end Go.Proofs.YtmndjicaofciiaaGreatDoor
