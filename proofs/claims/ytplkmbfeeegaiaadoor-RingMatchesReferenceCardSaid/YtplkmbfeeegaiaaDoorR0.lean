/-
  Rows of elements of k cells, written out.
-/
import Derived.WalkKit
namespace Go.Proofs.YtplkmbfeeegaiaaDoor
section
variable {α : Type} {enc : α → List Value} {k : Nat}
theorem flat_len (hk : ∀ x, (enc x).length = k) : ∀ l : List α, (l.flatMap enc).length = l.length * k
  | [] => by simp
  | x :: l => by rw [List.flatMap_cons, List.length_append, hk, flat_len hk l, List.length_cons, Nat.add_mul]; omega
theorem flat_get (hk : ∀ x, (enc x).length = k) : ∀ (l : List α) (q : Nat) (x : α) (r : Nat), l[q]? = some x → r < k → (l.flatMap enc)[q * k + r]? = (enc x)[r]?
  | [], _, _, _, h, _ => by simp at h
  | y :: l, 0, x, r, h, hr => by
    simp only [List.getElem?_cons_zero, Option.some.injEq] at h
    subst h
    rw [List.flatMap_cons, List.getElem?_append_left (by rw [hk]; omega), Nat.zero_mul, Nat.zero_add]
  | y :: l, q + 1, x, r, h, hr => by
    simp only [List.getElem?_cons_succ] at h
    rw [List.flatMap_cons, List.getElem?_append_right (by rw [hk, Nat.add_mul]; omega), hk, ← flat_get hk l q x r h hr]
    congr 1
    rw [Nat.add_mul]; omega
theorem flat_take (hk : ∀ x, (enc x).length = k) : ∀ (l : List α) (q : Nat), (l.flatMap enc).take (q * k) = (l.take q).flatMap enc
  | [], q => by simp
  | y :: l, 0 => by simp
  | y :: l, q + 1 => by
    rw [List.flatMap_cons, List.take_succ_cons, List.flatMap_cons, ← flat_take hk l q, List.take_append, hk, List.take_of_length_le (by rw [hk, Nat.add_mul]; omega), Nat.add_mul, Nat.one_mul, Nat.add_sub_cancel]
theorem flat_drop (hk : ∀ x, (enc x).length = k) : ∀ (l : List α) (q : Nat), (l.flatMap enc).drop (q * k) = (l.drop q).flatMap enc
  | [], q => by simp
  | y :: l, 0 => by simp
  | y :: l, q + 1 => by
    rw [List.flatMap_cons, List.drop_succ_cons, ← flat_drop hk l q, List.drop_append, hk, List.drop_of_length_le (by rw [hk, Nat.add_mul]; omega), Nat.add_mul, Nat.one_mul, Nat.add_sub_cancel, List.nil_append]
theorem flat_set (hk : ∀ x, (enc x).length = k) {r : Nat} {u : Value} (hr : r < k) : ∀ (l : List α) (q : Nat) (x y : α), l[q]? = some x → (enc x).set r u = enc y → (l.flatMap enc).set (q * k + r) u = (l.set q y).flatMap enc
  | [], _, _, _, h, _ => by simp at h
  | z :: l, 0, x, y, h, he => by
    simp only [List.getElem?_cons_zero, Option.some.injEq] at h
    subst h
    rw [List.flatMap_cons, List.set_cons_zero, List.flatMap_cons, ← he, Nat.zero_mul, Nat.zero_add, List.set_append_left _ _ (by rw [hk]; omega)]
  | z :: l, q + 1, x, y, h, he => by
    simp only [List.getElem?_cons_succ] at h
    rw [List.flatMap_cons, List.set_cons_succ, List.flatMap_cons, ← flat_set hk hr l q x y h he, List.set_append_right _ _ (by rw [hk, Nat.add_mul]; omega), hk]
    congr 2
    rw [Nat.add_mul]; omega
end
/-- An element is put into its place: room behind, the tail moved, the element stored. -/
theorem ins_moved {α : Type} (S : List α) (x : α) {j : Nat} (hj : j ≤ S.length) : (((S ++ [x]).take (j + 1) ++ S.drop j).set j x) = S.take j ++ x :: S.drop j := by
  have hl : ((S ++ [x]).take (j + 1)).length = j + 1 := by rw [List.length_take, List.length_append]; simp; omega
  rw [List.set_append_left _ _ (by rw [hl]; omega)]
  have e : ((S ++ [x]).take (j + 1)).set j x = S.take j ++ [x] := by
    rw [List.take_add_one, List.take_append_of_le_length hj]
    obtain ⟨y, hy⟩ : ∃ y, (S ++ [x])[j]? = some y := ⟨_, List.getElem?_eq_getElem (by simp; omega)⟩
    rw [hy, List.set_append_right _ _ (by simp; omega)]
    simp [Nat.min_eq_left hj]
  rw [e]
  simp
theorem moved_eq {α : Type} (S : List α) (x : α) {j : Nat} (hj : j ≤ S.length) : ((S ++ [x]).drop j).take (S.length - j) = S.drop j := by
  rw [List.drop_append_of_le_length hj, List.take_append_of_le_length (by simp), List.take_of_length_le (by simp)]
end Go.Proofs.YtplkmbfeeegaiaaDoor
