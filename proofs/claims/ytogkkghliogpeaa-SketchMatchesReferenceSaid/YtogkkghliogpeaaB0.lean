/-
  The order of keys.
-/
import Derived.Test.YtogkkghliogpeaaB1
import Derived.Sort.Walk0
namespace Go.Proofs.Ytogkkghliogpeaa
open Go.RowKit

theorem toList_inj {s t : ByteArray} (e : s.toList = t.toList) : s = t := by
  rw [ByteArray.toList_eq, ByteArray.toList_eq] at e
  cases s; cases t
  simp at e
  rw [e]

theorem less_iff (a b : List UInt8) : Op.bytesLess a b = true ↔ a < b := by rw [bytesLess_eq]; simp
theorem lt_total (a b : List UInt8) : a < b ∨ a = b ∨ b < a := by
  by_cases h : a < b
  · exact .inl h
  · by_cases h2 : b < a
    · exact .inr (.inr h2)
    · exact .inr (.inl (List.le_antisymm (List.not_lt.1 h2) (List.not_lt.1 h)))
theorem lt_irr (a : List UInt8) : ¬ a < a := List.lt_irrefl a
theorem lt_tr {a b c : List UInt8} (h1 : a < b) (h2 : b < c) : a < c := List.lt_trans h1 h2

/-- a comes before b. -/
def Bef (L : List C) (a b : ByteArray) : Prop := hiOf L b < hiOf L a ∨ (hiOf L b = hiOf L a ∧ a.toList < b.toList)

theorem cmpS_cases (a b : ByteArray) : (cmpS a b = -1 ∧ a.toList < b.toList) ∨ (cmpS a b = 0 ∧ a = b) ∨ (cmpS a b = 1 ∧ b.toList < a.toList) := by
  unfold cmpS
  by_cases h1 : Op.bytesLess a.toList b.toList = true
  · rw [if_pos h1]; exact .inl ⟨rfl, (less_iff _ _).1 h1⟩
  · rw [if_neg h1]
    have h1' : ¬ a.toList < b.toList := fun h => h1 ((less_iff _ _).2 h)
    by_cases h2 : (a.toList == b.toList) = true
    · rw [if_pos h2]; exact .inr (.inl ⟨rfl, toList_inj (by simpa using h2)⟩)
    · rw [if_neg h2]
      have h2' : a.toList ≠ b.toList := by simpa using h2
      rcases lt_total a.toList b.toList with h | h | h
      · exact absurd h h1'
      · exact absurd h h2'
      · exact .inr (.inr ⟨rfl, h⟩)
theorem cmpI_cases (a b : Int) : (cmpI a b = -1 ∧ a < b) ∨ (cmpI a b = 0 ∧ a = b) ∨ (cmpI a b = 1 ∧ b < a) := by
  unfold cmpI
  split
  · exact .inl ⟨rfl, by assumption⟩
  · split
    · exact .inr (.inr ⟨rfl, by assumption⟩)
    · exact .inr (.inl ⟨rfl, by omega⟩)
theorem cmpK_cases (L : List C) (a b : ByteArray) : (cmpK L a b = -1 ∧ Bef L a b) ∨ (cmpK L a b = 0 ∧ a = b) ∨ (cmpK L a b = 1 ∧ Bef L b a) := by
  unfold cmpK orI Bef
  rcases cmpI_cases (hiOf L b) (hiOf L a) with ⟨e, h⟩ | ⟨e, h⟩ | ⟨e, h⟩
  · rw [e]; exact .inl ⟨rfl, .inl h⟩
  · rw [e, if_pos rfl]
    rcases cmpS_cases a b with ⟨e2, h2⟩ | ⟨e2, h2⟩ | ⟨e2, h2⟩
    · rw [e2]; exact .inl ⟨rfl, .inr ⟨h, h2⟩⟩
    · rw [e2]; exact .inr (.inl ⟨rfl, h2⟩)
    · rw [e2]; exact .inr (.inr ⟨rfl, .inr ⟨h.symm, h2⟩⟩)
  · rw [e]; exact .inr (.inr ⟨rfl, .inl h⟩)
theorem Bef.trans {L : List C} {a b c : ByteArray} (h1 : Bef L a b) (h2 : Bef L b c) : Bef L a c := by
  unfold Bef at *
  rcases h1 with h1 | ⟨h1, g1⟩
  · rcases h2 with h2 | ⟨h2, g2⟩
    · left; omega
    · left; omega
  · rcases h2 with h2 | ⟨h2, g2⟩
    · left; omega
    · right; exact ⟨by omega, lt_tr g1 g2⟩
theorem Bef.irrefl {L : List C} {a : ByteArray} (h : Bef L a a) : False := by
  unfold Bef at h
  rcases h with h | ⟨_, h⟩
  · omega
  · exact lt_irr _ h
theorem cmpK_neg {L : List C} {a b : ByteArray} : cmpK L a b < 0 ↔ Bef L a b := by
  rcases cmpK_cases L a b with ⟨e, h⟩ | ⟨e, h⟩ | ⟨e, h⟩
  · rw [e]; exact ⟨fun _ => h, fun _ => by decide⟩
  · rw [e]; exact ⟨fun h => by omega, fun h' => by rw [h] at h'; exact absurd h' (fun h => h.irrefl)⟩
  · rw [e]; exact ⟨fun h => by omega, fun h' => absurd (h.trans h') (fun h => h.irrefl)⟩
theorem cmpK_pos {L : List C} {a b : ByteArray} : 0 < cmpK L a b ↔ Bef L b a := by
  rcases cmpK_cases L a b with ⟨e, h⟩ | ⟨e, h⟩ | ⟨e, h⟩
  · rw [e]; exact ⟨fun h => by omega, fun h' => absurd (h.trans h') (fun h => h.irrefl)⟩
  · rw [e]; exact ⟨fun h => by omega, fun h' => by rw [h] at h'; exact absurd h' (fun h => h.irrefl)⟩
  · rw [e]; exact ⟨fun _ => h, fun _ => by decide⟩
theorem cmpK_zero {L : List C} {a b : ByteArray} : cmpK L a b = 0 ↔ a = b := by
  rcases cmpK_cases L a b with ⟨e, h⟩ | ⟨e, h⟩ | ⟨e, h⟩
  · rw [e]; exact ⟨fun h => by omega, fun h' => by rw [h'] at h; exact absurd h (fun h => h.irrefl)⟩
  · exact ⟨fun _ => h, fun _ => e⟩
  · rw [e]; exact ⟨fun h => by omega, fun h' => by rw [h'] at h; exact absurd h (fun h => h.irrefl)⟩
end Go.Proofs.Ytogkkghliogpeaa
