/-
  How long lines are, how they begin; what reading accepts; the reference's reading.
-/
import Derived.Test.YtmndjicaofciiaaGreatDoorU2
import Derived.Lib.ItoaLen
namespace Go.Proofs.YtmndjicaofciiaaGreatDoor
open Go.Lib

theorem nDigits_le (k : Nat) (hk : 1 ≤ k) : ∀ u : Nat, u < 10 ^ k → nDigits u ≤ k := by
  induction k with
  | zero => omega
  | succ k ih =>
    intro u hu
    by_cases h : u < 10
    · rw [nDigits_small h]; omega
    · rw [nDigits_big h]
      have h1 : 1 ≤ k := by
        cases k with
        | zero => simp at hu; omega
        | succ k => omega
      have h2 := ih h1 (u / 10) (by rw [Nat.pow_succ] at hu; omega)
      omega
theorem itoa_len1 {n : Int} (h : 0 ≤ n ∧ n ≤ 9) : (itoa n).length = 1 := by
  unfold itoa
  rw [if_neg (by omega), decDigits_length, nDigits_small (by omega)]
theorem itoa_len7 {n : Int} (h : 0 ≤ n ∧ n ≤ 1000000) : (itoa n).length ≤ 7 := by
  unfold itoa
  rw [if_neg (by omega), decDigits_length]
  exact nDigits_le 7 (by decide) _ (by omega)
theorem itoa_len11 {n : Int} (h : -1000000000 ≤ n ∧ n ≤ 1000000000) : (itoa n).length ≤ 11 := by
  unfold itoa
  split
  · rw [List.length_cons, decDigits_length]
    have := nDigits_le 10 (by decide) n.natAbs (by omega)
    omega
  · rw [decDigits_length]
    have := nDigits_le 10 (by decide) n.toNat (by omega)
    omega
theorem joinW_len : ∀ (l : List (List UInt8)), l ≠ [] → (joinW l).length + 1 = (l.map (fun w => w.length + 1)).sum
  | [], h => absurd rfl h
  | [w], _ => by simp [joinW]
  | w :: v :: r, _ => by
    have := joinW_len (v :: r) (by simp)
    rw [joinW_cons, List.length_append, List.length_cons, List.map_cons, List.sum_cons, ← this]
    omega
theorem line_len {q : Qy} (h : q.ok) : (lineL q).length ≤ 42 := by
  obtain ⟨hb, hf⟩ := h
  have hj := joinW_len (lineWs q) (by simp [lineWs])
  show (joinW (lineWs q)).length ≤ 42
  obtain ⟨kd, tb, cl, lo, hi, bb, ot⟩ := q
  unfold Qy.base at hb
  unfold Qy.form at hf
  simp only at hb hf
  have a1 := itoa_len1 (n := tb) (by omega)
  have a2 := itoa_len1 (n := cl) (by omega)
  have a3 := itoa_len11 (n := lo) (by omega)
  have a4 := itoa_len11 (n := hi) (by omega)
  rcases hf with ⟨rfl, h1, h2, h3, h4, h5, h6⟩ | ⟨rfl | rfl, h1, h2⟩ | ⟨rfl | rfl | rfl, h1, h2, h3⟩ | ⟨rfl, h1, h2, h3, h4⟩
  · have a5 := itoa_len7 (n := lo) (by omega)
    simp [lineWs, wordK, flds, pieces, glueL, glueK, Qy.get, wRow] at hj ⊢
    omega
  · simp [lineWs, wordK, flds, pieces, glueL, glueK, Qy.get, wRows] at hj ⊢
    omega
  · simp [lineWs, wordK, flds, pieces, glueL, glueK, Qy.get, wCount] at hj ⊢
    omega
  · have a5 := itoa_len1 (n := bb) (by omega)
    simp [lineWs, wordK, flds, pieces, glueL, glueK, Qy.get, wSum, wOf] at hj ⊢
    omega
  · have a5 := itoa_len1 (n := bb) (by omega)
    simp [lineWs, wordK, flds, pieces, glueL, glueK, Qy.get, wMin, wOf] at hj ⊢
    omega
  · have a5 := itoa_len1 (n := bb) (by omega)
    simp [lineWs, wordK, flds, pieces, glueL, glueK, Qy.get, wMax, wOf] at hj ⊢
    omega
  · have a5 := itoa_len1 (n := bb) (by omega)
    have a6 := itoa_len1 (n := ot) (by omega)
    simp [lineWs, wordK, flds, pieces, glueL, glueK, Qy.get, wJoin, wOf, wTo] at hj ⊢
    omega
/-- A line begins with its word and a space. -/
theorem line_head (q : Qy) : ∃ r, lineL q = wordK q.kd ++ 32 :: r := by
  obtain ⟨x, y, e⟩ : ∃ x y, pieces q q.kd 0 (flds q.kd) = x :: y := by
    have hl : 0 < (pieces q q.kd 0 (flds q.kd)).length := by
      have : ∃ f fs, flds q.kd = f :: fs := by
        unfold flds
        repeat' split
        all_goals exact ⟨_, _, rfl⟩
      obtain ⟨f, fs, e⟩ := this
      rw [e]
      unfold pieces
      simp
      omega
    match pieces q q.kd 0 (flds q.kd), hl with
    | x :: y, _ => exact ⟨x, y, rfl⟩
  refine ⟨joinW (x :: y), ?_⟩
  unfold lineL lineWs
  rw [e]
  rfl

/-! ## What reading accepts -/
def parseS (s : List UInt8) : Option Qy := match readW (split s [32]) with
  | some q => if q.ok ∧ lineL q = s then some q else none
  | none => none
theorem parseS_iff (s : List UInt8) (q : Qy) : parseS s = some q ↔ q.ok ∧ lineL q = s := by
  constructor
  · intro h
    unfold parseS at h
    split at h
    · split at h
      · rename_i h1
        cases Option.some.inj h
        exact h1
      · cases h
    · cases h
  · rintro ⟨h1, h2⟩
    subst h2
    unfold parseS
    rw [split_line, read_line h1]
    simp [h1]
theorem parse_bad {q : Qy} (hb : q.near) (hf : q.form) (h : ¬ q.ok) : parseS (lineL q) = none := by
  unfold parseS
  rw [split_line, read_near hb hf]
  simp [h]
/-- The fixed examples. -/
theorem itoa_one (n : Nat) (h : n < 10) : itoa (n : Int) = [UInt8.ofNat (48 + n)] := by
  unfold itoa
  rw [if_neg (by omega), Int.toNat_natCast, decDigits_one h]
theorem itoa0 : itoa 0 = [48] := itoa_one 0 (by decide)
theorem itoa1 : itoa 1 = [49] := itoa_one 1 (by decide)
theorem itoa2 : itoa 2 = [50] := itoa_one 2 (by decide)
theorem itoa3 : itoa 3 = [51] := itoa_one 3 (by decide)
theorem dec10 : decDigits 10 = [49, 48] := decDigits_two (by decide) (by decide)
theorem dec20 : decDigits 20 = [50, 48] := decDigits_two (by decide) (by decide)
theorem itoa10 : itoa 10 = [49, 48] := by unfold itoa; rw [if_neg (by decide)]; exact dec10
theorem itoa20 : itoa 20 = [50, 48] := by unfold itoa; rw [if_neg (by decide)]; exact dec20
theorem itoaN10 : itoa (-10) = [45, 49, 48] := by unfold itoa; rw [if_pos (by decide)]; exact congrArg (45 :: ·) dec10
theorem line_ex1 : lineL ⟨7, 0, 3, 0, 0, 1, 2⟩ = [106, 111, 105, 110, 32, 49, 32, 116, 111, 32, 50, 32, 111, 102, 32, 48, 32, 51, 32, 48, 32, 48] := by
  simp [lineL, lineWs, wordK, flds, pieces, glueL, glueK, Qy.get, itoa0, itoa1, itoa2, itoa3, joinW, wJoin, wTo, wOf]
theorem line_ex2 : lineL ⟨2, 1, 2, -10, 20, 0, 0⟩ = [114, 111, 119, 115, 32, 49, 32, 50, 32, 45, 49, 48, 32, 50, 48] := by
  simp [lineL, lineWs, wordK, flds, pieces, glueL, glueK, Qy.get, itoa1, itoa2, itoa20, itoaN10, joinW, wRows]
theorem line_ex3 : lineL ⟨2, 1, 2, 20, 10, 0, 0⟩ = [114, 111, 119, 115, 32, 49, 32, 50, 32, 50, 48, 32, 49, 48] := by
  simp [lineL, lineWs, wordK, flds, pieces, glueL, glueK, Qy.get, itoa1, itoa2, itoa20, itoa10, joinW, wRows]
theorem ok_ex1 : (⟨7, 0, 3, 0, 0, 1, 2⟩ : Qy).ok := by decide
theorem ok_ex2 : (⟨2, 1, 2, -10, 20, 0, 0⟩ : Qy).ok := by decide
theorem parse_ex2 : parseS [114, 111, 119, 115, 32, 49, 32, 50, 32, 45, 49, 48, 32, 50, 48] = some ⟨2, 1, 2, -10, 20, 0, 0⟩ := (parseS_iff _ _).2 ⟨ok_ex2, line_ex2⟩
theorem parse_ex3 : parseS [114, 111, 119, 115, 32, 49, 32, 50, 32, 50, 48, 32, 49, 48] = none := by
  rw [← line_ex3]
  exact parse_bad (by unfold Qy.near; decide) (by decide) (by decide)
/-! ## The reference's reading -/
def wStep (a : List (List UInt8) × List UInt8) (c : UInt8) : List (List UInt8) × List UInt8 := if c = 32 then (a.1 ++ [a.2], []) else (a.1, a.2 ++ [c])
def wFold (s : List UInt8) : List (List UInt8) × List UInt8 := s.foldl wStep ([], [])
def wordsR (s : List UInt8) : List (List UInt8) := (wFold s).1 ++ [(wFold s).2]
theorem wFold_free (w : List UInt8) (h : ∀ c ∈ w, c ≠ 32) : ∀ a, w.foldl wStep a = (a.1, a.2 ++ w) := by
  induction w with
  | nil => intro a; simp
  | cons c w ih =>
    intro a
    rw [List.foldl_cons, ih (fun x hx => h x (by simp [hx]))]
    unfold wStep
    rw [if_neg (h c (by simp))]
    simp
theorem wFold_join (w : List UInt8) (r : List (List UInt8)) (h : ∀ x ∈ w :: r, ∀ c ∈ x, c ≠ 32) : ∀ d, (joinW (w :: r)).foldl wStep (d, []) = (d ++ (w :: r).dropLast, (w :: r).getLast (by simp)) := by
  induction r generalizing w with
  | nil =>
    intro d
    show w.foldl wStep (d, []) = _
    rw [wFold_free w (h w (by simp))]
    simp
  | cons v r ih =>
    intro d
    rw [joinW_cons, List.foldl_append, wFold_free w (h w (by simp)), List.foldl_cons]
    show (joinW (v :: r)).foldl wStep (wStep (d, [] ++ w) 32) = _
    unfold wStep
    rw [if_pos rfl]
    rw [show (d, [] ++ w).1 ++ [(d, [] ++ w).2] = d ++ [w] by simp]
    have := ih v (fun x hx => h x (by simp at hx ⊢; exact .inr hx)) (d ++ [w])
    unfold wStep at this
    rw [this]
    simp
theorem words_line (q : Qy) : wordsR (lineL q) = lineWs q := by
  have h := wFold_join (wordK q.kd) (pieces q q.kd 0 (flds q.kd)) (fun x hx c hc => (okC_ne (lineWs_mem q x hx c hc)).1) []
  unfold wordsR
  have h2 : wFold (lineL q) = ([] ++ (lineWs q).dropLast, (lineWs q).getLast (by simp [lineWs])) := h
  rw [h2]
  rw [List.nil_append]
  exact List.dropLast_concat_getLast _
/-- A number as the reference reads it. -/
def rdStep (n : Int) (c : UInt8) : Int := 10 * n + ((c.toNat : Int) - 48)
def rdL (s : List UInt8) : Int := match s with
  | [] => 0
  | c :: r => if c.toNat = 45 then -((r.take 10).foldl rdStep 0) else (s.take 11).foldl rdStep 0
theorem rd_dec (u : Nat) : (decDigits u).foldl rdStep 0 = u := by
  induction u using Nat.strongRecOn with
  | _ u ih =>
    rw [decDigits]
    split
    · rename_i h
      simp only [List.foldl_cons, List.foldl_nil, rdStep]
      rw [digit_lt u h]
      omega
    · rename_i h
      rw [List.foldl_append, ih (u / 10) (by omega)]
      simp only [List.foldl_cons, List.foldl_nil, rdStep]
      rw [digit_lt _ (Nat.mod_lt u (by decide))]
      omega
theorem rd_itoa (n : Int) (h : -1000000000 ≤ n ∧ n ≤ 1000000000) : rdL (itoa n) = n := by
  unfold itoa
  by_cases hn : n < 0
  · rw [if_pos hn]
    have h1 := nDigits_le 10 (by decide) n.natAbs (by omega)
    rw [← decDigits_length] at h1
    show -(((decDigits n.natAbs).take 10).foldl rdStep 0) = n
    rw [List.take_of_length_le h1, rd_dec]
    omega
  · rw [if_neg hn]
    have h1 := nDigits_le 10 (by decide) n.toNat (by omega)
    rw [← decDigits_length] at h1
    have h2 := dec_ne n.toNat
    have h3 := dec_digit n.toNat
    have h4 := rd_dec n.toNat
    cases e : decDigits n.toNat with
    | nil => exact absurd e h2
    | cons c r =>
      rw [e] at h1 h3 h4
      have := h3 c (by simp)
      show (if c.toNat = 45 then -((r.take 10).foldl rdStep 0) else ((c :: r).take 11).foldl rdStep 0) = n
      rw [if_neg (by omega), List.take_of_length_le (by omega), h4]
      omega
/-- The reference's query of a list of words. -/
def refQ (w : List (List UInt8)) : Option Qy :=
  match (kindOf (w.getD 0 [])).getD 0 with
  | 1 => if w.length = 3 then some ⟨1, rdL (w.getD 1 []), 0, rdL (w.getD 2 []), rdL (w.getD 2 []), 0, 0⟩ else none
  | 2 => if w.length = 5 then some ⟨2, rdL (w.getD 1 []), rdL (w.getD 2 []), rdL (w.getD 3 []), rdL (w.getD 4 []), 0, 0⟩ else none
  | 3 => if w.length = 5 then some ⟨3, rdL (w.getD 1 []), rdL (w.getD 2 []), rdL (w.getD 3 []), rdL (w.getD 4 []), 0, 0⟩ else none
  | 4 => if w.length = 7 then some ⟨4, rdL (w.getD 3 []), rdL (w.getD 4 []), rdL (w.getD 5 []), rdL (w.getD 6 []), rdL (w.getD 1 []), 0⟩ else none
  | 5 => if w.length = 7 then some ⟨5, rdL (w.getD 3 []), rdL (w.getD 4 []), rdL (w.getD 5 []), rdL (w.getD 6 []), rdL (w.getD 1 []), 0⟩ else none
  | 6 => if w.length = 7 then some ⟨6, rdL (w.getD 3 []), rdL (w.getD 4 []), rdL (w.getD 5 []), rdL (w.getD 6 []), rdL (w.getD 1 []), 0⟩ else none
  | 7 => if w.length = 9 then some ⟨7, rdL (w.getD 5 []), rdL (w.getD 6 []), rdL (w.getD 7 []), rdL (w.getD 8 []), rdL (w.getD 1 []), rdL (w.getD 3 [])⟩ else none
  | _ => none
theorem ref_line {q : Qy} (h : q.ok) : refQ (lineWs q) = some q := by
  obtain ⟨hb, hf⟩ := h
  obtain ⟨kd, tb, cl, lo, hi, bb, ot⟩ := q
  unfold Qy.base at hb
  unfold Qy.form at hf
  simp only at hb hf
  have a1 := rd_itoa tb (by omega)
  have a2 := rd_itoa cl (by omega)
  have a3 := rd_itoa lo (by omega)
  have a4 := rd_itoa hi (by omega)
  have a5 := rd_itoa bb (by omega)
  have a6 := rd_itoa ot (by omega)
  have k1 : kindOf wRow = some 1 := rfl
  have k2 : kindOf wRows = some 2 := rfl
  have k3 : kindOf wCount = some 3 := rfl
  have k4 : kindOf wSum = some 4 := rfl
  have k5 : kindOf wMin = some 5 := rfl
  have k6 : kindOf wMax = some 6 := rfl
  have k7 : kindOf wJoin = some 7 := rfl
  rcases hf with ⟨rfl, h1, h2, h3, h4, h5, h6⟩ | ⟨rfl | rfl, h1, h2⟩ | ⟨rfl | rfl | rfl, h1, h2, h3⟩ | ⟨rfl, h1, h2, h3, h4⟩
  · subst h1 h5 h6
    simp [lineWs, refQ, wordK, k1, flds, pieces, glueL, glueK, Qy.get, a1, a4, h2]
  · subst h1 h2
    simp [lineWs, refQ, wordK, k2, flds, pieces, glueL, glueK, Qy.get, a1, a2, a3, a4]
  · subst h1 h2
    simp [lineWs, refQ, wordK, k3, flds, pieces, glueL, glueK, Qy.get, a1, a2, a3, a4]
  · subst h3
    simp [lineWs, refQ, wordK, k4, flds, pieces, glueL, glueK, Qy.get, a1, a2, a3, a4, a5]
  · subst h3
    simp [lineWs, refQ, wordK, k5, flds, pieces, glueL, glueK, Qy.get, a1, a2, a3, a4, a5]
  · subst h3
    simp [lineWs, refQ, wordK, k6, flds, pieces, glueL, glueK, Qy.get, a1, a2, a3, a4, a5]
  · simp [lineWs, refQ, wordK, k7, flds, pieces, glueL, glueK, Qy.get, a1, a2, a3, a4, a5, a6]
def refS (s : List UInt8) : Option Qy := if 100 < s.length then none else match refQ (wordsR s) with
  | some q => if q.ok ∧ lineL q = s then some q else none
  | none => none
theorem refS_eq (s : List UInt8) : refS s = parseS s := by
  have h1 : ∀ q, refS s = some q ↔ q.ok ∧ lineL q = s := fun q => by
    constructor
    · intro h
      unfold refS at h
      split at h
      · cases h
      · split at h
        · split at h
          · rename_i h1
            cases Option.some.inj h
            exact h1
          · cases h
        · cases h
    · rintro ⟨h1, h2⟩
      subst h2
      unfold refS
      have := line_len h1
      rw [if_neg (by omega), words_line, ref_line h1]
      simp [h1]
  cases e : parseS s with
  | none =>
    cases e2 : refS s with
    | none => rfl
    | some q => rw [(parseS_iff s q).2 ((h1 q).1 e2)] at e; cases e
  | some q => exact (h1 q).2 ((parseS_iff s q).1 e)
end Go.Proofs.YtmndjicaofciiaaGreatDoor
