/-
  Rows of a store: plain laws.
-/
namespace Go.Proofs.YtmndjicaofciiaaGreatDoor

/-- A row. -/
structure R5 where
  tb : Int
  ky : Int
  a : Int
  b : Int
  c : Int
  deriving DecidableEq
def R5.rid (r : R5) : Int × Int := (r.tb, r.ky)
/-- The value of a column. -/
def R5.val (r : R5) (c : Int) : Int := if c = 0 then r.ky else if c = 1 then r.a else if c = 2 then r.b else if c = 3 then r.c else 0
def inR (t c lo hi : Int) (r : R5) : Bool := decide (r.tb = t) && decide (lo ≤ r.val c) && decide (r.val c ≤ hi)
def ofT (t : Int) (r : R5) : Bool := decide (r.tb = t)
def betw (c lo hi : Int) (r : R5) : Bool := decide (lo ≤ r.val c) && decide (r.val c ≤ hi)
/-- A row that is put into rows in which there is none of its key. -/
def putR (l : List R5) (r : R5) : List R5 := if r.rid ∈ l.map R5.rid then l else l ++ [r]
theorem putR_nodup {l : List R5} {r : R5} (h : (l.map R5.rid).Nodup) : ((putR l r).map R5.rid).Nodup := by
  unfold putR
  split
  · exact h
  · rename_i hn
    rw [List.map_append, List.nodup_append]
    refine ⟨h, by simp, ?_⟩
    intro x hx y hy
    simp only [List.map_cons, List.map_nil, List.mem_cons, List.not_mem_nil, or_false] at hy
    subst hy
    intro e
    subst e
    exact hn hx
theorem putR_len (l : List R5) (r : R5) : (putR l r).length ≤ l.length + 1 := by
  unfold putR
  split <;> simp
theorem scan_count {l R A : List R5} {t c lo hi : Int} (hR : R.Perm (l.filter (inR t c lo hi))) (hA : A.Perm (l.filter (ofT t))) : (A.filter (betw c lo hi)).length = R.length := by
  rw [(hA.filter (betw c lo hi)).length_eq, hR.length_eq, List.filter_filter]
  congr 1
  apply List.filter_congr
  intro r _
  unfold inR ofT betw
  cases decide (r.tb = t) <;> simp
theorem row_in {l : List R5} {r : R5} (h : (l.map R5.rid).Nodup) (hr : r ∈ l) : l.filter (inR r.tb 0 r.ky r.ky) = [r] := by
  induction l with
  | nil => cases hr
  | cons x l ih =>
    simp only [List.map_cons, List.nodup_cons] at h
    rcases List.mem_cons.1 hr with rfl | hr
    · have h1 : inR r.tb 0 r.ky r.ky r = true := by simp [inR, R5.val]
      have h2 : l.filter (inR r.tb 0 r.ky r.ky) = [] := by
        rw [List.filter_eq_nil_iff]
        intro y hy hc
        apply h.1
        have h3 : y.tb = r.tb ∧ y.ky = r.ky := by
          simp [inR, R5.val] at hc
          omega
        have : y.rid = r.rid := by
          unfold R5.rid
          rw [h3.1, h3.2]
        rw [← this]
        exact List.mem_map_of_mem hy
      rw [List.filter_cons, if_pos h1, h2]
    · have h1 : inR r.tb 0 r.ky r.ky x = false := by
        cases hc : inR r.tb 0 r.ky r.ky x with
        | false => rfl
        | true =>
          exfalso
          apply h.1
          have h3 : x.tb = r.tb ∧ x.ky = r.ky := by
            simp [inR, R5.val] at hc
            omega
          have : x.rid = r.rid := by
            unfold R5.rid
            rw [h3.1, h3.2]
          rw [this]
          exact List.mem_map_of_mem hr
      rw [List.filter_cons, h1]
      exact ih h.2 hr
theorem row_out {l : List R5} {t k : Int} (h : (t, k) ∉ l.map R5.rid) : l.filter (inR t 0 k k) = [] := by
  rw [List.filter_eq_nil_iff]
  intro y hy hc
  apply h
  have h3 : y.tb = t ∧ y.ky = k := by
    simp [inR, R5.val] at hc
    omega
  have : y.rid = (t, k) := by
    unfold R5.rid
    rw [h3.1, h3.2]
  rw [← this]
  exact List.mem_map_of_mem hy
/-- The row of a key. -/
def getR (l : List R5) (t k : Int) : Option R5 := l.find? (fun r => decide (r.rid = (t, k)))
theorem getR_some {l : List R5} {t k : Int} {r : R5} (h : getR l t k = some r) : r ∈ l ∧ r.tb = t ∧ r.ky = k := by
  unfold getR at h
  have h1 := List.mem_of_find?_eq_some h
  have h2 := List.find?_some h
  simp [R5.rid] at h2
  exact ⟨h1, h2⟩
theorem getR_none {l : List R5} {t k : Int} (h : getR l t k = none) : (t, k) ∉ l.map R5.rid := by
  unfold getR at h
  rw [List.find?_eq_none] at h
  intro hm
  obtain ⟨r, hr, e⟩ := List.mem_map.1 hm
  exact h r hr (by simpa using e)
/-- What a query of one row scans. -/
theorem row_one {l R : List R5} {t k : Int} (hn : (l.map R5.rid).Nodup) (hR : R.Perm (l.filter (inR t 0 k k))) : R = (getR l t k).toList := by
  cases e : getR l t k with
  | none =>
    rw [row_out (getR_none e)] at hR
    exact List.perm_nil.1 hR
  | some r =>
    obtain ⟨h1, h2, h3⟩ := getR_some e
    subst h2 h3
    rw [row_in hn h1] at hR
    exact List.perm_singleton.1 hR

/-! ### changes -/
/-- A change of a row. -/
structure Chg where
  tb : Int
  ky : Int
  had : Bool
  o0 : Int
  o1 : Int
  o2 : Int
  has : Bool
  n0 : Int
  n1 : Int
  n2 : Int
  deriving DecidableEq
def Chg.old (c : Chg) : R5 := ⟨c.tb, c.ky, c.o0, c.o1, c.o2⟩
def Chg.new (c : Chg) : R5 := ⟨c.tb, c.ky, c.n0, c.n1, c.n2⟩
/-- All numbers are from lo to hi. -/
def wiB (lo hi : Int) (l : List Int) : Bool := !(l.any fun n => decide (n < lo) || decide (n > hi))
def okRow (r : R5) : Bool := wiB 0 3 [r.tb] && (wiB 1 1000000 [r.ky] && wiB (-1000000000) 1000000000 [r.a, r.b, r.c])
def soundC (r : R5) (there : Bool) : Bool := there && okRow r || !there && (r.a == 0 && (r.b == 0 && r.c == 0))
def sameV (r s : R5) : Bool := r.a == s.a && (r.b == s.b && r.c == s.c)
def okCh (c : Chg) : Bool := (c.had != c.has || c.had && !(sameV c.old c.new)) && (soundC c.old c.had && soundC c.new c.has)
/-- Changes that are valid and ascend. -/
def ascC : Int → Int → List Chg → Bool
  | _, _, [] => true
  | t, k, c :: l => okCh c && (!(decide (c.tb < t)) && (!(c.tb == t && decide (c.ky ≤ k)) && ascC c.tb c.ky l))
def okRec (pos : Int) (l : List Chg) : Bool := wiB 1 10000 [pos] && (wiB 1 8 [(l.length : Int)] && ascC (-1) 0 l)
/-- A change meets the rows. -/
def fit1 (l : List R5) (c : Chg) : Bool := match getR l c.tb c.ky with
  | none => !c.had
  | some r => c.had && sameV r c.old
def sizeC (n : Int) (cs : List Chg) : Int := cs.foldl (fun n c => n - (if c.had then 1 else 0) + (if c.has then 1 else 0)) n
def fitsB (l : List R5) (p r : Int) (cs : List Chg) : Bool := okRec r cs && (r == p + 1 && (cs.all (fit1 l) && decide (sizeC l.length cs ≤ 2000)))
/-- A change is made. -/
def stepR (l : List R5) (c : Chg) : List R5 := l.filter (fun r => !(decide (r.rid = (c.tb, c.ky)))) ++ if c.has then [c.new] else []
theorem stepR_nodup {l : List R5} (h : (l.map R5.rid).Nodup) (c : Chg) : ((stepR l c).map R5.rid).Nodup := by
  unfold stepR
  rw [List.map_append, List.nodup_append]
  refine ⟨h.sublist ((List.filter_sublist).map _), by split <;> simp, ?_⟩
  intro x hx y hy e
  subst e
  split at hy
  · simp only [List.map_cons, List.map_nil, List.mem_cons, List.not_mem_nil, or_false] at hy
    obtain ⟨r, hr, rfl⟩ := List.mem_map.1 hx
    have h2 := (List.mem_filter.1 hr).2
    simp only [Bool.not_eq_true', decide_eq_false_iff_not] at h2
    exact h2 hy
  · simp at hy
theorem steps_nodup {cs : List Chg} : ∀ {l : List R5}, (l.map R5.rid).Nodup → ((cs.foldl stepR l).map R5.rid).Nodup := by
  induction cs with
  | nil => intro l h; exact h
  | cons c cs ih => intro l h; exact ih (stepR_nodup h c)
theorem sizeC_le (cs : List Chg) : ∀ n : Int, n - cs.length ≤ sizeC n cs ∧ sizeC n cs ≤ n + cs.length := by
  induction cs with
  | nil => intro n; simp [sizeC]
  | cons c cs ih =>
    intro n
    have h := ih (n - (if c.had then 1 else 0) + (if c.has then 1 else 0))
    have e : sizeC n (c :: cs) = sizeC (n - (if c.had then 1 else 0) + (if c.has then 1 else 0)) cs := rfl
    rw [e, List.length_cons]
    generalize sizeC (n - (if c.had then 1 else 0) + (if c.has then 1 else 0)) cs = z at *
    cases c.had <;> cases c.has <;> simp at h ⊢ <;> omega
theorem sizeC_snoc (n : Int) (cs : List Chg) (c : Chg) : sizeC n (cs ++ [c]) = sizeC n cs - (if c.had then 1 else 0) + (if c.has then 1 else 0) := by
  unfold sizeC
  rw [List.foldl_append]
  rfl
theorem getR_of {l : List R5} (h : (l.map R5.rid).Nodup) {r : R5} (hr : r ∈ l) : getR l r.tb r.ky = some r := by
  cases e : getR l r.tb r.ky with
  | none => exact absurd (List.mem_map_of_mem hr) (getR_none e)
  | some s =>
    obtain ⟨h1, h2, h3⟩ := getR_some e
    have : s.rid = r.rid := by unfold R5.rid; rw [h2, h3]
    congr 1
    induction l with
    | nil => cases hr
    | cons x l ih =>
      simp only [List.map_cons, List.nodup_cons] at h
      rcases List.mem_cons.1 hr with rfl | hr'
      · rcases List.mem_cons.1 h1 with rfl | h1'
        · rfl
        · exact absurd (this ▸ List.mem_map_of_mem h1') h.1
      · rcases List.mem_cons.1 h1 with rfl | h1'
        · exact absurd (this.symm ▸ List.mem_map_of_mem hr') h.1
        · by_cases hx : x.rid = r.rid
          · exact absurd (hx ▸ List.mem_map_of_mem hr') h.1
          · refine ih h.2 hr' ?_ h1'
            unfold getR at e ⊢
            rw [List.find?_cons] at e
            have : decide (x.rid = (r.tb, r.ky)) = false := by simpa [R5.rid] using hx
            rw [this] at e
            exact e
/-- One row that comes into rows: the change fits exactly if there is none of its key. -/
theorem fits_put {l : List R5} {p : Int} {r : R5} (hr : okRow r = true) (hp0 : 0 ≤ p) (hp1 : p < 10000) (hl : l.length < 2000) :
    fitsB l p (p + 1) [⟨r.tb, r.ky, false, 0, 0, 0, true, r.a, r.b, r.c⟩] = !(decide (r.rid ∈ l.map R5.rid)) := by
  have hn : Chg.new ⟨r.tb, r.ky, false, 0, 0, 0, true, r.a, r.b, r.c⟩ = r := rfl
  have h1 : wiB 1 10000 [p + 1] = true := by simp [wiB]; omega
  have h0 := hr
  simp only [okRow, Bool.and_eq_true] at h0
  have h2 : wiB 0 3 [r.tb] = true := h0.1
  have h3 : ¬ r.tb < -1 ∧ ¬ (r.tb = -1) := by
    simp [wiB] at h2
    omega
  have h4 : okCh ⟨r.tb, r.ky, false, 0, 0, 0, true, r.a, r.b, r.c⟩ = true := by
    unfold okCh
    rw [hn]
    simp [soundC, hr, Chg.old]
  have h5 : okRec (p + 1) [⟨r.tb, r.ky, false, 0, 0, 0, true, r.a, r.b, r.c⟩] = true := by
    unfold okRec
    rw [h1]
    simp [ascC, h4, h3, wiB]
  have h6 : decide (sizeC l.length [⟨r.tb, r.ky, false, 0, 0, 0, true, r.a, r.b, r.c⟩] ≤ 2000) = true := by
    simp [sizeC]
    omega
  unfold fitsB
  rw [h5, h6]
  simp only [beq_self_eq_true, Bool.true_and, List.all_cons, List.all_nil, Bool.and_true]
  unfold fit1
  simp only []
  cases e : getR l r.tb r.ky with
  | none =>
    have := getR_none e
    simp only [Bool.not_false]
    rw [decide_eq_false (show ¬ r.rid ∈ l.map R5.rid from this)]
    rfl
  | some s =>
    obtain ⟨h1, h2, h3⟩ := getR_some e
    have : r.rid ∈ l.map R5.rid := by
      have h7 : r.rid = s.rid := by unfold R5.rid; rw [h2, h3]
      rw [h7]
      exact List.mem_map_of_mem h1
    rw [decide_eq_true this]
    rfl
theorem stepR_put {l : List R5} {r : R5} (h : r.rid ∉ l.map R5.rid) : stepR l ⟨r.tb, r.ky, false, 0, 0, 0, true, r.a, r.b, r.c⟩ = putR l r := by
  unfold stepR putR
  rw [if_neg h, List.filter_eq_self.2]
  · rfl
  · intro x hx
    have : x.rid ≠ r.rid := fun e => h (e ▸ List.mem_map_of_mem hx)
    simp only [Bool.not_eq_true', decide_eq_false_iff_not]
    exact this
end Go.Proofs.YtmndjicaofciiaaGreatDoor
