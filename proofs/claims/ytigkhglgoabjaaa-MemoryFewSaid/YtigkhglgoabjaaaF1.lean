/-
  What Put removes, and how it is undone: plain.
-/
import Derived.Test.YtigkhglgoabjaaaE1
namespace Go.Proofs.Ytigkhglgoabjaaa
open Go.RowKit Go.Shelf

abbrev esOf (L : List Ent) : List E := L.map Ent.e

/-- One removal. -/
def Step1 (S : List Int) (cap : Int) (t : Nat) (z : Int) (L : List Ent) (x : Ent) (L' : List Ent) : Prop :=
  cap - tot (esOf L) < z ∧ ∃ X Y, L = X ++ x :: Y ∧ L' = X ++ Y ∧ (∀ y ∈ X, fitsB S (esOf L) t z y.e = false) ∧ fitsB S (esOf L) t z x.e = true

/-- The removals of T, one after the other, lead from L to L'. -/
def Ev (S : List Int) (cap : Int) (t : Nat) (z : Int) : List Ent → List Ent → List Ent → Prop
  | L, [], L' => L' = L
  | L, x :: T, L' => ∃ M, Step1 S cap t z L x M ∧ Ev S cap t z M T L'

theorem Ev.snoc {S : List Int} {cap : Int} {t : Nat} {z : Int} : ∀ {T L L' L'' : List Ent} {x : Ent}, Ev S cap t z L T L' → Step1 S cap t z L' x L'' → Ev S cap t z L (T ++ [x]) L''
  | [], _, _, _, _, h, hs => by cases h; exact ⟨_, hs, rfl⟩
  | _ :: _, _, _, _, _, ⟨M, h1, h2⟩, hs => ⟨M, h1, Ev.snoc h2 hs⟩

/-- The entries R, the last one first, can be put back: that leads from L to Lo. -/
def Hooks (W : World) (bp : Nat) (Lo : List Ent) : List Ent → List Ent → Prop
  | [], L => L = Lo
  | x :: R, L => ∃ X Y, L = X ++ Y ∧ Hook W bp X x Y ∧ Hooks W bp Lo R (X ++ x :: Y)

theorem Hooks.keep {W W' : World} {bp : Nat} {Lo : List Ent} {A : Nat → Prop} (k : Keep A W W') : ∀ {R L : List Ent}, Hooks W bp Lo R L → (∀ x ∈ R, ¬ A x.b) → Hooks W' bp Lo R L
  | [], _, h, _ => h
  | x :: R, _, ⟨X, Y, h1, h2, h3⟩, hA => ⟨X, Y, h1, h2.keep k (hA x (by simp)), Hooks.keep k h3 (fun y hy => hA y (by simp [hy]))⟩

theorem Hooks.perm {W : World} {bp : Nat} {Lo : List Ent} : ∀ {R L : List Ent}, Hooks W bp Lo R L → Lo.Perm (R ++ L)
  | [], _, h => by cases h; exact .refl _
  | x :: R, _, ⟨X, Y, h1, h2, h3⟩ => by
    subst h1
    refine (Hooks.perm h3).trans ?_
    have : (R ++ (X ++ x :: Y)).Perm (x :: (R ++ (X ++ Y))) := by
      rw [← List.append_assoc, ← List.append_assoc]
      exact List.perm_middle
    exact this

theorem tot_perm {A B : List E} (h : A.Perm B) : tot A = tot B := by
  induction h with
  | nil => rfl
  | cons x _ ih => rw [tot_cons, tot_cons, ih]
  | swap x y l => simp only [tot_cons]; omega
  | trans _ _ ih1 ih2 => exact ih1.trans ih2

end Go.Proofs.Ytigkhglgoabjaaa
