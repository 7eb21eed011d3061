/-
  Queries and their lines: which are valid, what a line is, how it is read.
-/
import Derived.Test.YtmndjicaofciiaaGreatDoorU1
namespace Go.Proofs.YtmndjicaofciiaaGreatDoor
open Go.Lib

/-- A query. -/
structure Qy where
  kd : Int
  tb : Int
  cl : Int
  lo : Int
  hi : Int
  bb : Int
  ot : Int
  deriving DecidableEq
def Qy.get (q : Qy) : Nat → Int
  | 0 => q.kd
  | 1 => q.tb
  | 2 => q.cl
  | 3 => q.lo
  | 4 => q.hi
  | 5 => q.bb
  | _ => q.ot
def Qy.set (q : Qy) (v : Int) : Nat → Qy
  | 0 => { q with kd := v }
  | 1 => { q with tb := v }
  | 2 => { q with cl := v }
  | 3 => { q with lo := v }
  | 4 => { q with hi := v }
  | 5 => { q with bb := v }
  | _ => { q with ot := v }
/-- What every valid query meets. -/
def Qy.base (q : Qy) : Prop := 0 ≤ q.tb ∧ q.tb ≤ 3 ∧ 0 ≤ q.cl ∧ q.cl ≤ 3 ∧ -1000000000 ≤ q.lo ∧ q.lo ≤ q.hi ∧ q.hi ≤ 1000000000
instance (q : Qy) : Decidable q.base := by unfold Qy.base; exact inferInstance
def Qy.form (q : Qy) : Prop := (q.kd = 1 ∧ q.cl = 0 ∧ q.lo = q.hi ∧ 1 ≤ q.lo ∧ q.lo ≤ 1000000 ∧ q.bb = 0 ∧ q.ot = 0) ∨ ((q.kd = 2 ∨ q.kd = 3) ∧ q.bb = 0 ∧ q.ot = 0) ∨ ((q.kd = 4 ∨ q.kd = 5 ∨ q.kd = 6) ∧ 1 ≤ q.bb ∧ q.bb ≤ 3 ∧ q.ot = 0) ∨ (q.kd = 7 ∧ 1 ≤ q.bb ∧ q.bb ≤ 3 ∧ 0 ≤ q.ot ∧ q.ot ≤ 3)
instance (q : Qy) : Decidable q.form := by unfold Qy.form; exact inferInstance
def Qy.ok (q : Qy) : Prop := q.base ∧ q.form
instance (q : Qy) : Decidable q.ok := by unfold Qy.ok; exact inferInstance

/-! ## Lines -/
def wRow : List UInt8 := [114, 111, 119]
def wRows : List UInt8 := [114, 111, 119, 115]
def wCount : List UInt8 := [99, 111, 117, 110, 116]
def wSum : List UInt8 := [115, 117, 109]
def wMin : List UInt8 := [109, 105, 110]
def wMax : List UInt8 := [109, 97, 120]
def wJoin : List UInt8 := [106, 111, 105, 110]
def wTo : List UInt8 := [116, 111]
def wOf : List UInt8 := [111, 102]
/-- The word of a kind. -/
def wordK (k : Int) : List UInt8 := if k = 1 then wRow else if k = 2 then wRows else if k = 3 then wCount else if k = 4 then wSum else if k = 5 then wMin else if k = 6 then wMax else wJoin
/-- The fields of a kind, in the order of its line. -/
def flds (k : Int) : List Nat := if k = 1 then [1, 3] else if k = 2 ∨ k = 3 then [1, 2, 3, 4] else if k = 4 ∨ k = 5 ∨ k = 6 then [5, 1, 2, 3, 4] else [5, 6, 1, 2, 3, 4]
/-- The words in front of fields. -/
def glueK (k : Int) (i : Nat) : Option (List UInt8) := if k = 4 ∨ k = 5 ∨ k = 6 then (if i = 1 then some wOf else none) else if k = 7 then (if i = 1 then some wTo else if i = 2 then some wOf else none) else none
def glueL (k : Int) (i : Nat) : List (List UInt8) := match glueK k i with | some g => [g] | none => []
def pieces (q : Qy) (k : Int) (i : Nat) : List Nat → List (List UInt8)
  | [] => []
  | f :: fs => glueL k i ++ itoa (q.get f) :: pieces q k (i + 1) fs
def lineWs (q : Qy) : List (List UInt8) := wordK q.kd :: pieces q q.kd 0 (flds q.kd)
/-- The line of a query. -/
def lineL (q : Qy) : List UInt8 := joinW (lineWs q)

/-! ## Reading -/
def kindOf (w : List UInt8) : Option Int := if w = wRow then some 1 else if w = wRows then some 2 else if w = wCount then some 3 else if w = wSum then some 4 else if w = wMin then some 5 else if w = wMax then some 6 else if w = wJoin then some 7 else none
def skipG (k : Int) (i : Nat) (ws : List (List UInt8)) : Option (List (List UInt8)) :=
  match glueK k i with
  | none => some ws
  | some g => match ws with
    | [] => none
    | w :: r => if w = g then some r else none
def readF (k : Int) (i : Nat) : List Nat → List (List UInt8) → Qy → Option Qy
  | [], _, q => some q
  | f :: fs, ws, q => match skipG k i ws with
    | some (w :: r) => match atoiAll w with
      | .ok v => readF k (i + 1) fs r (q.set v f)
      | _ => none
    | _ => none
def endQ (q : Qy) : Qy := if q.kd = 1 then { q with hi := q.lo } else q
def readW (ws : List (List UInt8)) : Option Qy :=
  match ws with
  | [] => none
  | w :: r => match kindOf w with
    | none => none
    | some k => (readF k 0 (flds k) r ⟨k, 0, 0, 0, 0, 0, 0⟩).map endQ
/-- Numbers within the bounds. -/
def Qy.near (q : Qy) : Prop := (-1000000000 ≤ q.tb ∧ q.tb ≤ 1000000000) ∧ (-1000000000 ≤ q.cl ∧ q.cl ≤ 1000000000) ∧ (-1000000000 ≤ q.lo ∧ q.lo ≤ 1000000000) ∧ (-1000000000 ≤ q.hi ∧ q.hi ≤ 1000000000) ∧ (-1000000000 ≤ q.bb ∧ q.bb ≤ 1000000000) ∧ (-1000000000 ≤ q.ot ∧ q.ot ≤ 1000000000)
theorem Qy.ok.near {q : Qy} (h : q.ok) : q.near := by
  obtain ⟨hb, hf⟩ := h
  unfold Qy.base at hb
  unfold Qy.form at hf
  unfold Qy.near
  omega
/-- Reading the line of a query that has its kind's form. -/
theorem read_near {q : Qy} (hb : q.near) (hf : q.form) : readW (lineWs q) = some q := by
  obtain ⟨kd, tb, cl, lo, hi, bb, ot⟩ := q
  unfold Qy.near at hb
  unfold Qy.form at hf
  simp only at hb hf
  have a1 := atoi_itoa tb (by omega)
  have a2 := atoi_itoa cl (by omega)
  have a3 := atoi_itoa lo (by omega)
  have a4 := atoi_itoa hi (by omega)
  have a5 := atoi_itoa bb (by omega)
  have a6 := atoi_itoa ot (by omega)
  have k1 : kindOf wRow = some 1 := rfl
  have k2 : kindOf wRows = some 2 := rfl
  have k3 : kindOf wCount = some 3 := rfl
  have k4 : kindOf wSum = some 4 := rfl
  have k5 : kindOf wMin = some 5 := rfl
  have k6 : kindOf wMax = some 6 := rfl
  have k7 : kindOf wJoin = some 7 := rfl
  rcases hf with ⟨rfl, h1, h2, h3, h4, h5, h6⟩ | ⟨rfl | rfl, h1, h2⟩ | ⟨rfl | rfl | rfl, h1, h2, h3⟩ | ⟨rfl, h1, h2, h3, h4⟩
  · subst h1 h5 h6
    simp [lineWs, readW, wordK, k1, flds, pieces, glueL, glueK, Qy.get, readF, skipG, a1, a4, Qy.set, endQ, h2]
  · subst h1 h2
    simp [lineWs, readW, wordK, k2, flds, pieces, glueL, glueK, Qy.get, readF, skipG, a1, a2, a3, a4, Qy.set, endQ]
  · subst h1 h2
    simp [lineWs, readW, wordK, k3, flds, pieces, glueL, glueK, Qy.get, readF, skipG, a1, a2, a3, a4, Qy.set, endQ]
  · subst h3
    simp [lineWs, readW, wordK, k4, flds, pieces, glueL, glueK, Qy.get, readF, skipG, a1, a2, a3, a4, a5, Qy.set, endQ]
  · subst h3
    simp [lineWs, readW, wordK, k5, flds, pieces, glueL, glueK, Qy.get, readF, skipG, a1, a2, a3, a4, a5, Qy.set, endQ]
  · subst h3
    simp [lineWs, readW, wordK, k6, flds, pieces, glueL, glueK, Qy.get, readF, skipG, a1, a2, a3, a4, a5, Qy.set, endQ]
  · simp [lineWs, readW, wordK, k7, flds, pieces, glueL, glueK, Qy.get, readF, skipG, a1, a2, a3, a4, a5, a6, Qy.set, endQ]
theorem read_line {q : Qy} (h : q.ok) : readW (lineWs q) = some q := read_near h.near h.2

/-! ## What the words are made of -/
theorem wordK_mem (k : Int) : ∀ c ∈ wordK k, 97 ≤ c.toNat ∧ c.toNat ≤ 122 := by
  unfold wordK
  repeat' split
  all_goals (intro c hc; simp only [wRow, wRows, wCount, wSum, wMin, wMax, wJoin, List.mem_cons, List.not_mem_nil, or_false] at hc; rcases hc with rfl | rfl | rfl | rfl | rfl <;> decide) <;> skip
theorem glueL_mem (k : Int) (i : Nat) : ∀ w ∈ glueL k i, ∀ c ∈ w, 97 ≤ c.toNat ∧ c.toNat ≤ 122 := by
  intro w hw c hc
  have h : w = wOf ∨ w = wTo := by
    unfold glueL at hw
    cases e : glueK k i with
    | none => rw [e] at hw; cases hw
    | some g =>
      rw [e] at hw
      have hw2 : w = g := by simpa using hw
      subst hw2
      unfold glueK at e
      split at e
      · split at e
        · exact .inl (Option.some.inj e).symm
        · cases e
      · split at e
        · split at e
          · exact .inr (Option.some.inj e).symm
          · split at e
            · exact .inl (Option.some.inj e).symm
            · cases e
        · cases e
  rcases h with rfl | rfl
  · simp only [wOf, List.mem_cons, List.not_mem_nil, or_false] at hc
    rcases hc with rfl | rfl <;> decide
  · simp only [wTo, List.mem_cons, List.not_mem_nil, or_false] at hc
    rcases hc with rfl | rfl <;> decide
/-- Letters, digits, minus. -/
def okC (c : UInt8) : Prop := c.toNat = 45 ∨ 48 ≤ c.toNat ∧ c.toNat ≤ 57 ∨ 97 ≤ c.toNat ∧ c.toNat ≤ 122
theorem pieces_mem (q : Qy) (k : Int) (fs : List Nat) : ∀ i, ∀ w ∈ pieces q k i fs, ∀ c ∈ w, okC c := by
  induction fs with
  | nil => intro i w hw; cases hw
  | cons f fs ih =>
    intro i w hw c hc
    unfold pieces at hw
    rcases List.mem_append.1 hw with hw | hw
    · exact .inr (.inr (glueL_mem k i w hw c hc))
    · rcases List.mem_cons.1 hw with rfl | hw
      · rcases itoa_mem hc with h | h
        · exact .inl h
        · exact .inr (.inl h)
      · exact ih (i + 1) w hw c hc
theorem lineWs_mem (q : Qy) : ∀ w ∈ lineWs q, ∀ c ∈ w, okC c := by
  intro w hw c hc
  rcases List.mem_cons.1 hw with rfl | hw
  · exact .inr (.inr (wordK_mem _ c hc))
  · exact pieces_mem q q.kd _ 0 w hw c hc
theorem okC_ne {c : UInt8} (h : okC c) : c ≠ 32 ∧ c ≠ 10 := by
  constructor <;> rintro rfl <;> rcases h with h | h | h <;> revert h <;> decide
theorem split_line (q : Qy) : split (lineL q) [32] = lineWs q := by
  unfold lineL lineWs
  refine split_join _ _ fun x hx c hc => ?_
  exact (okC_ne (lineWs_mem q x hx c hc)).1
theorem line_inj {q p : Qy} (hq : q.ok) (hp : p.ok) (h : lineL q = lineL p) : q = p := by
  have h1 := read_line hq
  have h2 := read_line hp
  rw [← split_line] at h1 h2
  rw [h] at h1
  exact Option.some.inj (h1.symm.trans h2)
theorem joinW_mem {c : UInt8} : ∀ (l : List (List UInt8)), c ∈ joinW l → c = 32 ∨ ∃ w ∈ l, c ∈ w
  | [], h => by cases h
  | [w], h => .inr ⟨w, by simp, h⟩
  | w :: v :: r, h => by
    rcases List.mem_append.1 h with h | h
    · exact .inr ⟨w, by simp, h⟩
    · rcases List.mem_cons.1 h with h | h
      · exact .inl h
      · rcases joinW_mem (v :: r) h with h | ⟨x, hx, hc⟩
        · exact .inl h
        · exact .inr ⟨x, List.mem_cons_of_mem _ hx, hc⟩
theorem line_no10 (q : Qy) : ∀ c ∈ lineL q, c ≠ 10 := by
  intro c hc
  rcases joinW_mem _ hc with rfl | ⟨w, hw, h⟩
  · decide
  · exact (okC_ne (lineWs_mem q w hw c h)).2
end Go.Proofs.YtmndjicaofciiaaGreatDoor
