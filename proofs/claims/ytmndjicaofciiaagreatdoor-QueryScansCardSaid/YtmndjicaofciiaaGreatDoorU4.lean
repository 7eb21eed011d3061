/-
  A line's beginning, field by field.
-/
import Derived.Test.YtmndjicaofciiaaGreatDoorU3
namespace Go.Proofs.YtmndjicaofciiaaGreatDoor
open Go.Lib

theorem pieces_snoc (q : Qy) (k : Int) (f : Nat) (fs : List Nat) : ∀ i, pieces q k i (fs ++ [f]) = pieces q k i fs ++ (glueL k (i + fs.length) ++ [itoa (q.get f)]) := by
  induction fs with
  | nil => intro i; simp [pieces]
  | cons x fs ih =>
    intro i
    show glueL k i ++ itoa (q.get x) :: pieces q k (i + 1) (fs ++ [f]) = _
    rw [ih (i + 1)]
    show _ = (glueL k i ++ itoa (q.get x) :: pieces q k (i + 1) fs) ++ _
    rw [List.length_cons, show i + 1 + fs.length = i + (fs.length + 1) by omega]
    simp
/-- The line up to field k. -/
def linePre (q : Qy) (k : Nat) : List UInt8 := joinW (wordK q.kd :: pieces q q.kd 0 ((flds q.kd).take k))
theorem linePre_zero (q : Qy) : linePre q 0 = wordK q.kd := rfl
theorem linePre_all (q : Qy) {k : Nat} (h : (flds q.kd).length ≤ k) : linePre q k = lineL q := by
  unfold linePre lineL lineWs
  rw [List.take_of_length_le h]
/-- The line with the word in front of field k. -/
def lineGl (q : Qy) (k : Nat) : List UInt8 := match glueK q.kd k with | some g => linePre q k ++ 32 :: g | none => linePre q k
theorem linePre_next (q : Qy) {k f : Nat} (h : (flds q.kd)[k]? = some f) : linePre q (k + 1) = lineGl q k ++ 32 :: itoa (q.get f) := by
  have hk : k < (flds q.kd).length := (List.getElem?_eq_some_iff.1 h).1
  have e : (flds q.kd).take (k + 1) = (flds q.kd).take k ++ [f] := by rw [List.take_add_one, h]; rfl
  unfold lineGl linePre
  rw [e, pieces_snoc, List.length_take, Nat.min_eq_left (by omega), Nat.zero_add]
  unfold glueL
  cases glueK q.kd k with
  | none =>
    simp only [List.nil_append]
    rw [show wordK q.kd :: (pieces q q.kd 0 ((flds q.kd).take k) ++ [itoa (q.get f)]) = (wordK q.kd :: pieces q q.kd 0 ((flds q.kd).take k)) ++ [itoa (q.get f)] by simp, joinW_snoc _ _ (by simp)]
  | some g =>
    simp only []
    rw [show wordK q.kd :: (pieces q q.kd 0 ((flds q.kd).take k) ++ ([g] ++ [itoa (q.get f)])) = ((wordK q.kd :: pieces q q.kd 0 ((flds q.kd).take k)) ++ [g]) ++ [itoa (q.get f)] by simp, joinW_snoc _ _ (by simp), joinW_snoc _ _ (by simp)]
theorem wordK_len (k : Int) : (wordK k).length ≤ 5 := by
  unfold wordK
  repeat' split
  all_goals decide
theorem glueK_len {k : Int} {i : Nat} {g : List UInt8} (h : glueK k i = some g) : g.length = 2 := by
  unfold glueK at h
  split at h
  · split at h
    · cases Option.some.inj h; rfl
    · cases h
  · split at h
    · split at h
      · cases Option.some.inj h; rfl
      · split at h
        · cases Option.some.inj h; rfl
        · cases h
    · cases h
theorem lineGl_len (q : Qy) (k : Nat) : (lineGl q k).length ≤ (linePre q k).length + 3 := by
  unfold lineGl
  cases e : glueK q.kd k with
  | none => simp
  | some g =>
    have := glueK_len e
    simp
    omega
theorem flds_len (k : Int) : 2 ≤ (flds k).length ∧ (flds k).length ≤ 6 := by
  unfold flds
  repeat' split
  all_goals decide
theorem flds_lt {k : Int} {j f : Nat} (h : (flds k)[j]? = some f) : f < 7 := by
  have hm := List.mem_of_getElem? h
  unfold flds at hm
  repeat' split at hm
  all_goals (simp only [List.mem_cons, List.not_mem_nil, or_false] at hm; omega)
theorem linePre_len (q : Qy) (hq : ∀ f, -9223372036854775808 ≤ q.get f ∧ q.get f ≤ 9223372036854775807) : ∀ k, (linePre q k).length ≤ 5 + 25 * k := by
  intro k
  induction k with
  | zero => rw [linePre_zero]; have := wordK_len q.kd; omega
  | succ k ih =>
    cases e : (flds q.kd)[k]? with
    | none =>
      have h1 : (flds q.kd).length ≤ k := List.getElem?_eq_none_iff.1 e
      rw [linePre_all q (by omega), ← linePre_all q h1]
      omega
    | some f =>
      have h1 := itoa_length_le (q.get f) (hq f).1 (hq f).2
      have h2 := lineGl_len q k
      rw [linePre_next q e, List.length_append, List.length_cons]
      omega
end Go.Proofs.YtmndjicaofciiaaGreatDoor
