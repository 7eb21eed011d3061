/-
  Several texts in one, each under its own heading below (merged by a program of ours): the contracts of the functions that the law reaches, part 1 of 5.
-/
import Derived.Lib.AtoiAll
import Derived.Lib.ItoaNum
import Derived.Lib.SplitLaws
import Derived.Lib.ItoaLen
import Derived.RangeFuncRecord
import Derived.RangeFuncOwn
import Derived.WalkKit
import Derived.Maps.Keyed
import Derived.Maps.Range
import Derived.Deep.QuietTactic
import Derived.StillTail
import Derived.Test.YtcnpncndecjahaaGreatDoorProg
import Derived.WalkMore
import Derived.WalkSpells
import Derived.WalkLawsBesides
import Derived.LoopTactic
import Derived.StillTailTactics
import Derived.BigQuiet
import Derived.Below
import Derived.Shelf.Abstract
import Derived.Lib.Hide
import Derived.Laws.BitsAll
import Derived.Deep.DeepCutAuto
import Derived.Deep.LoopGhost
import Derived.Laws.StructEq
import Derived.DeepKeys4
import Derived.ChangeKeysEq
import Derived.Shelf.SlGeneric
import Derived.Shelf.SlSortCmp.WholeK
import Derived.Ground.SlsfProg
import Derived.Maps.AppendAt
import Derived.OwnWalk
import Derived.RangeFuncBox

/-
  Rows of a store: plain laws.
-/
namespace Go.Proofs.YtcnpncndecjahaaGreatDoor

/-- A row. -/
structure R5 where
  tb : Int
  ky : Int
  a : Int
  b : Int
  c : Int
  deriving DecidableEq
def R5.rid (r : R5) : Int × Int := (r.tb, r.ky)
/-- The value of a column. -/
def R5.val (r : R5) (c : Int) : Int := if c = 0 then r.ky else if c = 1 then r.a else if c = 2 then r.b else if c = 3 then r.c else 0
def inR (t c lo hi : Int) (r : R5) : Bool := decide (r.tb = t) && decide (lo ≤ r.val c) && decide (r.val c ≤ hi)
def ofT (t : Int) (r : R5) : Bool := decide (r.tb = t)
def betw (c lo hi : Int) (r : R5) : Bool := decide (lo ≤ r.val c) && decide (r.val c ≤ hi)
/-- A row that is put into rows in which there is none of its key. -/
def putR (l : List R5) (r : R5) : List R5 := if r.rid ∈ l.map R5.rid then l else l ++ [r]
theorem putR_nodup {l : List R5} {r : R5} (h : (l.map R5.rid).Nodup) : ((putR l r).map R5.rid).Nodup := by
  unfold putR
  split
  · exact h
  · rename_i hn
    rw [List.map_append, List.nodup_append]
    refine ⟨h, by simp, ?_⟩
    intro x hx y hy
    simp only [List.map_cons, List.map_nil, List.mem_cons, List.not_mem_nil, or_false] at hy
    subst hy
    intro e
    subst e
    exact hn hx
theorem putR_len (l : List R5) (r : R5) : (putR l r).length ≤ l.length + 1 := by
  unfold putR
  split <;> simp
theorem scan_count {l R A : List R5} {t c lo hi : Int} (hR : R.Perm (l.filter (inR t c lo hi))) (hA : A.Perm (l.filter (ofT t))) : (A.filter (betw c lo hi)).length = R.length := by
  rw [(hA.filter (betw c lo hi)).length_eq, hR.length_eq, List.filter_filter]
  congr 1
  apply List.filter_congr
  intro r _
  unfold inR ofT betw
  cases decide (r.tb = t) <;> simp
theorem row_in {l : List R5} {r : R5} (h : (l.map R5.rid).Nodup) (hr : r ∈ l) : l.filter (inR r.tb 0 r.ky r.ky) = [r] := by
  induction l with
  | nil => cases hr
  | cons x l ih =>
    simp only [List.map_cons, List.nodup_cons] at h
    rcases List.mem_cons.1 hr with rfl | hr
    · have h1 : inR r.tb 0 r.ky r.ky r = true := by simp [inR, R5.val]
      have h2 : l.filter (inR r.tb 0 r.ky r.ky) = [] := by
        rw [List.filter_eq_nil_iff]
        intro y hy hc
        apply h.1
        have h3 : y.tb = r.tb ∧ y.ky = r.ky := by
          simp [inR, R5.val] at hc
          omega
        have : y.rid = r.rid := by
          unfold R5.rid
          rw [h3.1, h3.2]
        rw [← this]
        exact List.mem_map_of_mem hy
      rw [List.filter_cons, if_pos h1, h2]
    · have h1 : inR r.tb 0 r.ky r.ky x = false := by
        cases hc : inR r.tb 0 r.ky r.ky x with
        | false => rfl
        | true =>
          exfalso
          apply h.1
          have h3 : x.tb = r.tb ∧ x.ky = r.ky := by
            simp [inR, R5.val] at hc
            omega
          have : x.rid = r.rid := by
            unfold R5.rid
            rw [h3.1, h3.2]
          rw [this]
          exact List.mem_map_of_mem hr
      rw [List.filter_cons, h1]
      exact ih h.2 hr
theorem row_out {l : List R5} {t k : Int} (h : (t, k) ∉ l.map R5.rid) : l.filter (inR t 0 k k) = [] := by
  rw [List.filter_eq_nil_iff]
  intro y hy hc
  apply h
  have h3 : y.tb = t ∧ y.ky = k := by
    simp [inR, R5.val] at hc
    omega
  have : y.rid = (t, k) := by
    unfold R5.rid
    rw [h3.1, h3.2]
  rw [← this]
  exact List.mem_map_of_mem hy
/-- The row of a key. -/
def getR (l : List R5) (t k : Int) : Option R5 := l.find? (fun r => decide (r.rid = (t, k)))
theorem getR_some {l : List R5} {t k : Int} {r : R5} (h : getR l t k = some r) : r ∈ l ∧ r.tb = t ∧ r.ky = k := by
  unfold getR at h
  have h1 := List.mem_of_find?_eq_some h
  have h2 := List.find?_some h
  simp [R5.rid] at h2
  exact ⟨h1, h2⟩
theorem getR_none {l : List R5} {t k : Int} (h : getR l t k = none) : (t, k) ∉ l.map R5.rid := by
  unfold getR at h
  rw [List.find?_eq_none] at h
  intro hm
  obtain ⟨r, hr, e⟩ := List.mem_map.1 hm
  exact h r hr (by simpa using e)
/-- What a query of one row scans. -/
theorem row_one {l R : List R5} {t k : Int} (hn : (l.map R5.rid).Nodup) (hR : R.Perm (l.filter (inR t 0 k k))) : R = (getR l t k).toList := by
  cases e : getR l t k with
  | none =>
    rw [row_out (getR_none e)] at hR
    exact List.perm_nil.1 hR
  | some r =>
    obtain ⟨h1, h2, h3⟩ := getR_some e
    subst h2 h3
    rw [row_in hn h1] at hR
    exact List.perm_singleton.1 hR

/-! ### changes -/
/-- A change of a row. -/
structure Chg where
  tb : Int
  ky : Int
  had : Bool
  o0 : Int
  o1 : Int
  o2 : Int
  has : Bool
  n0 : Int
  n1 : Int
  n2 : Int
  deriving DecidableEq
def Chg.old (c : Chg) : R5 := ⟨c.tb, c.ky, c.o0, c.o1, c.o2⟩
def Chg.new (c : Chg) : R5 := ⟨c.tb, c.ky, c.n0, c.n1, c.n2⟩
/-- All numbers are from lo to hi. -/
def wiB (lo hi : Int) (l : List Int) : Bool := !(l.any fun n => decide (n < lo) || decide (n > hi))
def okRow (r : R5) : Bool := wiB 0 3 [r.tb] && (wiB 1 1000000 [r.ky] && wiB (-1000000000) 1000000000 [r.a, r.b, r.c])
def soundC (r : R5) (there : Bool) : Bool := there && okRow r || !there && (r.a == 0 && (r.b == 0 && r.c == 0))
def sameV (r s : R5) : Bool := r.a == s.a && (r.b == s.b && r.c == s.c)
def okCh (c : Chg) : Bool := (c.had != c.has || c.had && !(sameV c.old c.new)) && (soundC c.old c.had && soundC c.new c.has)
/-- Changes that are valid and ascend. -/
def ascC : Int → Int → List Chg → Bool
  | _, _, [] => true
  | t, k, c :: l => okCh c && (!(decide (c.tb < t)) && (!(c.tb == t && decide (c.ky ≤ k)) && ascC c.tb c.ky l))
def okRec (pos : Int) (l : List Chg) : Bool := wiB 1 10000 [pos] && (wiB 1 8 [(l.length : Int)] && ascC (-1) 0 l)
/-- A change meets the rows. -/
def fit1 (l : List R5) (c : Chg) : Bool := match getR l c.tb c.ky with
  | none => !c.had
  | some r => c.had && sameV r c.old
def sizeC (n : Int) (cs : List Chg) : Int := cs.foldl (fun n c => n - (if c.had then 1 else 0) + (if c.has then 1 else 0)) n
def fitsB (l : List R5) (p r : Int) (cs : List Chg) : Bool := okRec r cs && (r == p + 1 && (cs.all (fit1 l) && decide (sizeC l.length cs ≤ 2000)))
/-- A change is made. -/
def stepR (l : List R5) (c : Chg) : List R5 := l.filter (fun r => !(decide (r.rid = (c.tb, c.ky)))) ++ if c.has then [c.new] else []
theorem stepR_nodup {l : List R5} (h : (l.map R5.rid).Nodup) (c : Chg) : ((stepR l c).map R5.rid).Nodup := by
  unfold stepR
  rw [List.map_append, List.nodup_append]
  refine ⟨h.sublist ((List.filter_sublist).map _), by split <;> simp, ?_⟩
  intro x hx y hy e
  subst e
  split at hy
  · simp only [List.map_cons, List.map_nil, List.mem_cons, List.not_mem_nil, or_false] at hy
    obtain ⟨r, hr, rfl⟩ := List.mem_map.1 hx
    have h2 := (List.mem_filter.1 hr).2
    simp only [Bool.not_eq_true', decide_eq_false_iff_not] at h2
    exact h2 hy
  · simp at hy
theorem steps_nodup {cs : List Chg} : ∀ {l : List R5}, (l.map R5.rid).Nodup → ((cs.foldl stepR l).map R5.rid).Nodup := by
  induction cs with
  | nil => intro l h; exact h
  | cons c cs ih => intro l h; exact ih (stepR_nodup h c)
theorem sizeC_le (cs : List Chg) : ∀ n : Int, n - cs.length ≤ sizeC n cs ∧ sizeC n cs ≤ n + cs.length := by
  induction cs with
  | nil => intro n; simp [sizeC]
  | cons c cs ih =>
    intro n
    have h := ih (n - (if c.had then 1 else 0) + (if c.has then 1 else 0))
    have e : sizeC n (c :: cs) = sizeC (n - (if c.had then 1 else 0) + (if c.has then 1 else 0)) cs := rfl
    rw [e, List.length_cons]
    generalize sizeC (n - (if c.had then 1 else 0) + (if c.has then 1 else 0)) cs = z at *
    cases c.had <;> cases c.has <;> simp at h ⊢ <;> omega
theorem sizeC_snoc (n : Int) (cs : List Chg) (c : Chg) : sizeC n (cs ++ [c]) = sizeC n cs - (if c.had then 1 else 0) + (if c.has then 1 else 0) := by
  unfold sizeC
  rw [List.foldl_append]
  rfl
theorem getR_of {l : List R5} (h : (l.map R5.rid).Nodup) {r : R5} (hr : r ∈ l) : getR l r.tb r.ky = some r := by
  cases e : getR l r.tb r.ky with
  | none => exact absurd (List.mem_map_of_mem hr) (getR_none e)
  | some s =>
    obtain ⟨h1, h2, h3⟩ := getR_some e
    have : s.rid = r.rid := by unfold R5.rid; rw [h2, h3]
    congr 1
    induction l with
    | nil => cases hr
    | cons x l ih =>
      simp only [List.map_cons, List.nodup_cons] at h
      rcases List.mem_cons.1 hr with rfl | hr'
      · rcases List.mem_cons.1 h1 with rfl | h1'
        · rfl
        · exact absurd (this ▸ List.mem_map_of_mem h1') h.1
      · rcases List.mem_cons.1 h1 with rfl | h1'
        · exact absurd (this.symm ▸ List.mem_map_of_mem hr') h.1
        · by_cases hx : x.rid = r.rid
          · exact absurd (hx ▸ List.mem_map_of_mem hr') h.1
          · refine ih h.2 hr' ?_ h1'
            unfold getR at e ⊢
            rw [List.find?_cons] at e
            have : decide (x.rid = (r.tb, r.ky)) = false := by simpa [R5.rid] using hx
            rw [this] at e
            exact e
/-- One row that comes into rows: the change fits exactly if there is none of its key. -/
theorem fits_put {l : List R5} {p : Int} {r : R5} (hr : okRow r = true) (hp0 : 0 ≤ p) (hp1 : p < 10000) (hl : l.length < 2000) :
    fitsB l p (p + 1) [⟨r.tb, r.ky, false, 0, 0, 0, true, r.a, r.b, r.c⟩] = !(decide (r.rid ∈ l.map R5.rid)) := by
  have hn : Chg.new ⟨r.tb, r.ky, false, 0, 0, 0, true, r.a, r.b, r.c⟩ = r := rfl
  have h1 : wiB 1 10000 [p + 1] = true := by simp [wiB]; omega
  have h0 := hr
  simp only [okRow, Bool.and_eq_true] at h0
  have h2 : wiB 0 3 [r.tb] = true := h0.1
  have h3 : ¬ r.tb < -1 ∧ ¬ (r.tb = -1) := by
    simp [wiB] at h2
    omega
  have h4 : okCh ⟨r.tb, r.ky, false, 0, 0, 0, true, r.a, r.b, r.c⟩ = true := by
    unfold okCh
    rw [hn]
    simp [soundC, hr, Chg.old]
  have h5 : okRec (p + 1) [⟨r.tb, r.ky, false, 0, 0, 0, true, r.a, r.b, r.c⟩] = true := by
    unfold okRec
    rw [h1]
    simp [ascC, h4, h3, wiB]
  have h6 : decide (sizeC l.length [⟨r.tb, r.ky, false, 0, 0, 0, true, r.a, r.b, r.c⟩] ≤ 2000) = true := by
    simp [sizeC]
    omega
  unfold fitsB
  rw [h5, h6]
  simp only [beq_self_eq_true, Bool.true_and, List.all_cons, List.all_nil, Bool.and_true]
  unfold fit1
  simp only []
  cases e : getR l r.tb r.ky with
  | none =>
    have := getR_none e
    simp only [Bool.not_false]
    rw [decide_eq_false (show ¬ r.rid ∈ l.map R5.rid from this)]
    rfl
  | some s =>
    obtain ⟨h1, h2, h3⟩ := getR_some e
    have : r.rid ∈ l.map R5.rid := by
      have h7 : r.rid = s.rid := by unfold R5.rid; rw [h2, h3]
      rw [h7]
      exact List.mem_map_of_mem h1
    rw [decide_eq_true this]
    rfl
theorem stepR_put {l : List R5} {r : R5} (h : r.rid ∉ l.map R5.rid) : stepR l ⟨r.tb, r.ky, false, 0, 0, 0, true, r.a, r.b, r.c⟩ = putR l r := by
  unfold stepR putR
  rw [if_neg h, List.filter_eq_self.2]
  · rfl
  · intro x hx
    have : x.rid ≠ r.rid := fun e => h (e ▸ List.mem_map_of_mem hx)
    simp only [Bool.not_eq_true', decide_eq_false_iff_not]
    exact this
end Go.Proofs.YtcnpncndecjahaaGreatDoor

/-
  Logs: plain laws. Rows by ascending tables and keys, kept by a search of halves; records that come one after the other.
-/
namespace Go.Proofs.YtcnpncndecjahaaGreatDoor

/-! ### what does not depend on the order of rows -/
theorem getR_perm {l m : List R5} (h : l.Perm m) (hn : (l.map R5.rid).Nodup) (t k : Int) : getR l t k = getR m t k := by
  have hm : (m.map R5.rid).Nodup := (h.map R5.rid).nodup_iff.1 hn
  cases e : getR l t k with
  | none =>
    cases e2 : getR m t k with
    | none => rfl
    | some r =>
      obtain ⟨h1, h2, h3⟩ := getR_some e2
      exact absurd (by rw [← h2, ← h3]; exact List.mem_map_of_mem (h.mem_iff.2 h1)) (getR_none e)
  | some r =>
    obtain ⟨h1, h2, h3⟩ := getR_some e
    rw [← h2, ← h3]
    exact (getR_of hm (h.mem_iff.1 h1)).symm
theorem fit1_perm {l m : List R5} (h : l.Perm m) (hn : (l.map R5.rid).Nodup) (c : Chg) : fit1 l c = fit1 m c := by
  unfold fit1
  rw [getR_perm h hn]
theorem stepR_perm {l m : List R5} (h : l.Perm m) (c : Chg) : (stepR l c).Perm (stepR m c) := by
  unfold stepR
  exact (h.filter _).append_right _
theorem steps_perm (cs : List Chg) : ∀ {l m : List R5}, l.Perm m → (cs.foldl stepR l).Perm (cs.foldl stepR m) := by
  induction cs with
  | nil => intro l m h; exact h
  | cons c cs ih => intro l m h; exact ih (stepR_perm h c)
theorem fitsB_perm {l m : List R5} (h : l.Perm m) (hn : (l.map R5.rid).Nodup) (p r : Int) (cs : List Chg) : fitsB l p r cs = fitsB m p r cs := by
  unfold fitsB
  rw [h.length_eq]
  have : fit1 l = fit1 m := funext (fit1_perm h hn)
  rw [this]
theorem getR_step {l : List R5} {c : Chg} {t k : Int} (hne : (t, k) ≠ (c.tb, c.ky)) : getR (stepR l c) t k = getR l t k := by
  unfold stepR getR
  rw [List.find?_append]
  have h1 : (l.filter (fun r => !(decide (r.rid = (c.tb, c.ky))))).find? (fun r => decide (r.rid = (t, k))) = l.find? (fun r => decide (r.rid = (t, k))) := by
    rw [List.find?_filter]
    congr 1
    funext r
    by_cases h : r.rid = (t, k)
    · have : r.rid ≠ (c.tb, c.ky) := by rw [h]; exact hne
      simp [h, hne]
    · simp [h]
  rw [h1]
  have h2 : (if c.has then [c.new] else []).find? (fun r => decide (r.rid = (t, k))) = none := by
    split
    · rw [List.find?_cons]
      have : decide (c.new.rid = (t, k)) = false := decide_eq_false (fun e => hne (by rw [← e]; rfl))
      rw [this]
      rfl
    · rfl
  rw [h2]
  cases l.find? (fun r => decide (r.rid = (t, k))) <;> rfl

/-! ### rows by ascending tables and keys -/
def befR (t k : Int) (r : R5) : Bool := decide (r.tb < t) || (r.tb == t && decide (r.ky < k))
theorem befR_iff {t k : Int} {r : R5} : befR t k r = true ↔ r.tb < t ∨ (r.tb = t ∧ r.ky < k) := by
  unfold befR
  simp
theorem befR_not {t k : Int} {r : R5} : befR t k r = false ↔ ¬ (r.tb < t ∨ (r.tb = t ∧ r.ky < k)) := by
  rw [← befR_iff]
  simp
def AscR (l : List R5) : Prop := l.Pairwise (fun a b => befR b.tb b.ky a = true)
theorem AscR.nodup {l : List R5} (h : AscR l) : (l.map R5.rid).Nodup := by
  rw [List.nodup_iff_pairwise_ne, List.pairwise_map]
  refine h.imp ?_
  intro a b hab e
  rw [befR_iff] at hab
  unfold R5.rid at e
  rw [Prod.mk.injEq] at e
  omega
theorem nodup_rid_idx {l : List R5} (h : AscR l) {i j : Nat} {a b : R5} (hi : l[i]? = some a) (hj : l[j]? = some b) (e : a.rid = b.rid) : i = j := by
  unfold R5.rid at e
  rw [Prod.mk.injEq] at e
  rcases Nat.lt_trichotomy i j with hij | hij | hij
  · have h5 := List.pairwise_iff_getElem.1 h i j (List.getElem?_eq_some_iff.1 hi).1 (List.getElem?_eq_some_iff.1 hj).1 hij
    rw [(List.getElem?_eq_some_iff.1 hi).2, (List.getElem?_eq_some_iff.1 hj).2, befR_iff] at h5
    omega
  · exact hij
  · have h5 := List.pairwise_iff_getElem.1 h j i (List.getElem?_eq_some_iff.1 hj).1 (List.getElem?_eq_some_iff.1 hi).1 hij
    rw [(List.getElem?_eq_some_iff.1 hi).2, (List.getElem?_eq_some_iff.1 hj).2, befR_iff] at h5
    omega
/-- k is the place of a table and a key. -/
def PlaceIs (l : List R5) (t k : Int) (p : Nat) : Prop := p ≤ l.length ∧ (∀ i r, l[i]? = some r → i < p → befR t k r = true) ∧ (∀ i r, l[i]? = some r → p ≤ i → befR t k r = false)
theorem PlaceIs.get {l : List R5} (hs : AscR l) {t k : Int} {p : Nat} (h : PlaceIs l t k p) : getR l t k = match l[p]? with | some r => if r.tb = t ∧ r.ky = k then some r else none | none => none := by
  cases e : l[p]? with
  | none =>
    simp only []
    cases e2 : getR l t k with
    | none => rfl
    | some r =>
      exfalso
      obtain ⟨h1, h2, h3⟩ := getR_some e2
      obtain ⟨i, hi⟩ := List.mem_iff_getElem?.1 h1
      have hil := (List.getElem?_eq_some_iff.1 hi).1
      rw [List.getElem?_eq_none_iff] at e
      have := h.2.1 i r hi (by omega)
      rw [befR_iff] at this
      omega
  | some r =>
    simp only []
    split
    · rename_i hr
      rw [← hr.1, ← hr.2]
      exact getR_of hs.nodup (List.mem_of_getElem? e)
    · rename_i hr
      cases e2 : getR l t k with
      | none => rfl
      | some x =>
        exfalso
        obtain ⟨h1, h2, h3⟩ := getR_some e2
        obtain ⟨i, hi⟩ := List.mem_iff_getElem?.1 h1
        rcases Nat.lt_trichotomy i p with hip | hip | hip
        · have := h.2.1 i x hi hip
          rw [befR_iff] at this
          omega
        · subst hip
          rw [e] at hi
          cases hi
          exact hr ⟨h2, h3⟩
        · have h4 := h.2.2 p r e (Nat.le_refl _)
          rw [befR_not] at h4
          have h5 := List.pairwise_iff_getElem.1 hs p i (List.getElem?_eq_some_iff.1 e).1 (List.getElem?_eq_some_iff.1 hi).1 hip
          rw [(List.getElem?_eq_some_iff.1 e).2, (List.getElem?_eq_some_iff.1 hi).2, befR_iff] at h5
          omega
/-- The rows behind a change at its place. -/
def spliceR (l : List R5) (p : Nat) (c : Chg) : List R5 := l.take p ++ ((if c.has then [c.new] else []) ++ l.drop (if c.had then p + 1 else p))
theorem splice_perm {l : List R5} (hs : AscR l) {c : Chg} {p : Nat} (h : PlaceIs l c.tb c.ky p) (hf : (getR l c.tb c.ky).isSome = c.had) : (spliceR l p c).Perm (stepR l c) := by
  have hg := h.get hs
  have e : l.filter (fun r => !(decide (r.rid = (c.tb, c.ky)))) = l.take p ++ l.drop (if c.had then p + 1 else p) := by
    cases hh : c.had with
    | true =>
      rw [hh] at hf
      obtain ⟨r, hr⟩ := Option.isSome_iff_exists.1 hf
      rw [hr] at hg
      cases e : l[p]? with
      | none => rw [e] at hg; cases hg
      | some x =>
        rw [e] at hg
        simp only [] at hg
        split at hg
        · rename_i hx
          have hpl := (List.getElem?_eq_some_iff.1 e).1
          have hsplit : l = l.take p ++ (x :: l.drop (p + 1)) := by
            have h9 := List.take_append_drop p l
            rw [List.drop_eq_getElem_cons hpl, (List.getElem?_eq_some_iff.1 e).2] at h9
            exact h9.symm
          have hn := hs.nodup
          rw [hsplit] at hn
          rw [List.map_append, List.map_cons, List.nodup_append, List.nodup_cons] at hn
          have hxid : x.rid = (c.tb, c.ky) := by unfold R5.rid; rw [hx.1, hx.2]
          have f1 : ∀ Z : List R5, (∀ z ∈ Z, z.rid ≠ (c.tb, c.ky)) → Z.filter (fun r => !(decide (r.rid = (c.tb, c.ky)))) = Z := fun Z hZ => List.filter_eq_self.2 (fun z hz => by simpa using hZ z hz)
          have e1 := f1 (l.take p) (fun z hz e => hn.2.2 z.rid (List.mem_map_of_mem hz) x.rid (by simp) (by rw [e, hxid]))
          have e2 := f1 (l.drop (p + 1)) (fun z hz e => hn.2.1.1 (by rw [hxid, ← e]; exact List.mem_map_of_mem hz))
          have e0 : l.filter (fun r => !(decide (r.rid = (c.tb, c.ky)))) = (l.take p ++ (x :: l.drop (p + 1))).filter (fun r => !(decide (r.rid = (c.tb, c.ky)))) := congrArg (List.filter (fun r => !(decide (r.rid = (c.tb, c.ky))))) hsplit
          rw [e0, List.filter_append, List.filter_cons, e1, e2, hxid]
          simp
        · cases hg
    | false =>
      rw [hh] at hf
      have hnone : getR l c.tb c.ky = none := by
        cases e : getR l c.tb c.ky with
        | none => rfl
        | some r => rw [e] at hf; cases hf
      have := getR_none hnone
      simp only [Bool.false_eq_true, if_false, List.take_append_drop]
      refine List.filter_eq_self.2 (fun z hz => ?_)
      simp only [Bool.not_eq_true', decide_eq_false_iff_not]
      exact fun e => this (by rw [← e]; exact List.mem_map_of_mem hz)
  unfold spliceR stepR
  rw [e, List.append_assoc]
  exact List.Perm.append_left _ List.perm_append_comm
theorem splice_asc {l : List R5} (hs : AscR l) {c : Chg} {p : Nat} (h : PlaceIs l c.tb c.ky p) (hf : (getR l c.tb c.ky).isSome = c.had) : AscR (spliceR l p c) := by
  have hg := h.get hs
  have hdrop : (l.drop (if c.had then p + 1 else p)).Sublist (l.drop p) := by
    split
    · exact List.drop_sublist_drop_left l (Nat.le_succ p)
    · exact List.Sublist.refl _
  unfold spliceR AscR
  rw [List.pairwise_append]
  refine ⟨hs.sublist (List.take_sublist _ _), ?_, ?_⟩
  · rw [List.pairwise_append]
    refine ⟨by split <;> simp, hs.sublist (List.drop_sublist _ _), ?_⟩
    intro a ha b hb
    split at ha
    · rw [List.mem_singleton] at ha
      subst ha
      obtain ⟨i, hi⟩ := List.mem_iff_getElem?.1 hb
      rw [List.getElem?_drop] at hi
      have h1 := h.2.2 _ b hi (by split <;> omega)
      rw [befR_not] at h1
      rw [befR_iff]
      show c.tb < b.tb ∨ (c.tb = b.tb ∧ c.ky < b.ky)
      have hne : ¬ (b.tb = c.tb ∧ b.ky = c.ky) := by
        rintro ⟨e1, e2⟩
        have hm : b ∈ l := List.mem_of_getElem? hi
        have hgb := getR_of hs.nodup hm
        rw [e1, e2] at hgb
        cases hh : c.had with
        | false => rw [hgb, hh] at hf; cases hf
        | true =>
          rw [hh] at hi
          simp only [if_true] at hi
          rw [hgb] at hg
          cases e : l[p]? with
          | none => rw [e] at hg; cases hg
          | some x =>
            rw [e] at hg
            simp only [] at hg
            split at hg
            · cases hg
              have := nodup_rid_idx hs e hi rfl
              omega
            · cases hg
      omega
    · cases ha
  · intro a ha b hb
    obtain ⟨i, hi⟩ := List.mem_iff_getElem?.1 ha
    rw [List.getElem?_take] at hi
    split at hi
    · rename_i hip
      rcases List.mem_append.1 hb with hb | hb
      · split at hb
        · rw [List.mem_singleton] at hb
          subst hb
          exact h.2.1 i a hi hip
        · cases hb
      · obtain ⟨j, hj⟩ := List.mem_iff_getElem?.1 hb
        rw [List.getElem?_drop] at hj
        have hij : i < (if c.had then p + 1 else p) + j := by split <;> omega
        have h5 := List.pairwise_iff_getElem.1 hs i _ (List.getElem?_eq_some_iff.1 hi).1 (List.getElem?_eq_some_iff.1 hj).1 hij
        rwa [(List.getElem?_eq_some_iff.1 hi).2, (List.getElem?_eq_some_iff.1 hj).2] at h5
    · cases hi
end Go.Proofs.YtcnpncndecjahaaGreatDoor

/-
  Records that come one after the other: plain laws.
-/
namespace Go.Proofs.YtcnpncndecjahaaGreatDoor

structure Rc where
  pos : Int
  chs : List Chg
/-- The rows behind some records. -/
def rowsOf (L : List Rc) : List R5 := L.foldl (fun l r => r.chs.foldl stepR l) []
theorem rowsOf_snoc (L : List Rc) (r : Rc) : rowsOf (L ++ [r]) = r.chs.foldl stepR (rowsOf L) := by
  unfold rowsOf
  rw [List.foldl_append]
  rfl
/-- Each record can be applied behind those before it. -/
def LogOk (L : List Rc) : Prop := ∀ (i : Nat) (r : Rc), L[i]? = some r → r.pos = (i : Int) + 1 ∧ fitsB (rowsOf (L.take i)) i ((i : Int) + 1) r.chs = true
theorem LogOk.nil : LogOk [] := fun i r h => by simp at h
theorem LogOk.snoc {L : List Rc} (h : LogOk L) {p : Int} {cs : List Chg} (hp : p = (L.length : Int) + 1) (hf : fitsB (rowsOf L) L.length ((L.length : Int) + 1) cs = true) : LogOk (L ++ [⟨p, cs⟩]) := by
  intro i r hi
  rcases Nat.lt_trichotomy i L.length with h1 | h1 | h1
  · rw [List.getElem?_append_left h1] at hi
    have := h i r hi
    rwa [List.take_append_of_le_length (by omega)]
  · subst h1
    rw [List.getElem?_append_right (Nat.le_refl _), Nat.sub_self] at hi
    simp only [List.getElem?_cons_zero, Option.some.injEq] at hi
    subst hi
    rw [List.take_left]
    exact ⟨hp, hf⟩
  · rw [List.getElem?_eq_none (by rw [List.length_append]; simp; omega)] at hi
    cases hi
theorem LogOk.take {L : List Rc} (h : LogOk L) (n : Nat) : LogOk (L.take n) := by
  intro i r hi
  rw [List.getElem?_take] at hi
  split at hi
  · rename_i hin
    have := h i r hi
    rwa [List.take_take, Nat.min_eq_left (by omega)]
  · cases hi
theorem rowsOf_nodup (L : List Rc) : ((rowsOf L).map R5.rid).Nodup := by
  unfold rowsOf
  have key : ∀ (L : List Rc) (l : List R5), (l.map R5.rid).Nodup → ((L.foldl (fun l r => r.chs.foldl stepR l) l).map R5.rid).Nodup := by
    intro L
    induction L with
    | nil => intro l h; exact h
    | cons r L ih => intro l h; exact ih _ (steps_nodup h)
  exact key L [] (by simp)
theorem sizeC_len {cs : List Chg} : ∀ {l : List R5}, (l.map R5.rid).Nodup → (∀ (i : Nat) (c : Chg), cs[i]? = some c → fit1 ((cs.take i).foldl stepR l) c = true) → ((cs.foldl stepR l).length : Int) = sizeC l.length cs := by
  induction cs with
  | nil => intro l _ _; simp [sizeC]
  | cons c cs ih =>
    intro l hn hf
    have h0 : fit1 l c = true := hf 0 c rfl
    have h1 : ((stepR l c).length : Int) = (l.length : Int) - (if c.had then 1 else 0) + (if c.has then 1 else 0) := by
      have e : (l.filter (fun r => !(decide (r.rid = (c.tb, c.ky))))).length + (if c.had then 1 else 0) = l.length := by
        unfold fit1 at h0
        cases hg : getR l c.tb c.ky with
        | none =>
          rw [hg] at h0
          have hh : c.had = false := by simpa using h0
          have hno := getR_none hg
          rw [hh, List.filter_eq_self.2]
          · simp
          · intro z hz
            simp only [Bool.not_eq_true', decide_eq_false_iff_not]
            exact fun e => hno (by rw [← e]; exact List.mem_map_of_mem hz)
        | some r =>
          rw [hg] at h0
          have hh : c.had = true := by simp at h0; exact h0.1
          obtain ⟨hm, ht, hk⟩ := getR_some hg
          obtain ⟨X, Y, rfl⟩ := List.append_of_mem hm
          rw [List.map_append, List.map_cons, List.nodup_append, List.nodup_cons] at hn
          have hid : r.rid = (c.tb, c.ky) := by unfold R5.rid; rw [ht, hk]
          have f1 : ∀ Z : List R5, (∀ z ∈ Z, z.rid ≠ (c.tb, c.ky)) → Z.filter (fun r => !(decide (r.rid = (c.tb, c.ky)))) = Z := fun Z hZ => List.filter_eq_self.2 (fun z hz => by simpa using hZ z hz)
          rw [List.filter_append, List.filter_cons, f1 X (fun z hz e => hn.2.2 z.rid (List.mem_map_of_mem hz) r.rid (by simp) (by rw [e, hid])), f1 Y (fun z hz e => hn.2.1.1 (by rw [hid, ← e]; exact List.mem_map_of_mem hz)), hid, hh]
          simp
          omega
      unfold stepR
      rw [List.length_append]
      generalize (l.filter (fun r => !(decide (r.rid = (c.tb, c.ky))))).length = fl at e ⊢
      have e2 : (if c.has then [c.new] else ([] : List R5)).length = if c.has then 1 else 0 := by cases c.has <;> rfl
      rw [e2]
      by_cases q1 : c.had = true <;> by_cases q2 : c.has = true <;> simp only [q1, q2, if_true, if_false, Bool.false_eq_true] at e ⊢ <;> omega
    have h2 := ih (stepR_nodup hn c) (fun i d hd => by
      have := hf (i + 1) d (by simpa using hd)
      rwa [List.take_succ_cons] at this)
    rw [List.foldl_cons, h2, h1]
    rfl
/-- A slice of two hundred rows at most stays small. -/
theorem rowsOf_len {L : List Rc} (h : ∀ r ∈ L, r.chs.length ≤ 8) : (rowsOf L).length ≤ 8 * L.length := by
  have key : ∀ (L : List Rc), (∀ r ∈ L, r.chs.length ≤ 8) → ∀ l : List R5, (L.foldl (fun l r => r.chs.foldl stepR l) l).length ≤ l.length + 8 * L.length := by
    intro L
    induction L with
    | nil => intro _ l; simp
    | cons r L ih =>
      intro hr l
      have h1 := ih (fun r hr' => hr r (List.mem_cons_of_mem _ hr')) (r.chs.foldl stepR l)
      have h2 : (r.chs.foldl stepR l).length ≤ l.length + r.chs.length := by
        have key2 : ∀ (cs : List Chg) (l : List R5), (cs.foldl stepR l).length ≤ l.length + cs.length := by
          intro cs
          induction cs with
          | nil => intro l; simp
          | cons c cs ih =>
            intro l
            have h1 := ih (stepR l c)
            have h2 : (stepR l c).length ≤ l.length + 1 := by
              unfold stepR
              rw [List.length_append]
              have := List.length_filter_le (fun r : R5 => !(decide (r.rid = (c.tb, c.ky)))) l
              split <;> simp <;> omega
            rw [List.foldl_cons, List.length_cons]
            omega
        exact key2 r.chs l
      have h3 := hr r (by simp)
      rw [List.foldl_cons, List.length_cons]
      omega
  have := key L h []
  simpa [rowsOf] using this
theorem fits_len {l : List R5} {p q : Int} {cs : List Chg} (h : fitsB l p q cs = true) : 1 ≤ cs.length ∧ cs.length ≤ 8 := by
  unfold fitsB okRec at h
  simp only [Bool.and_eq_true] at h
  have h1 := h.1.2.1
  unfold wiB at h1
  simp at h1
  omega
theorem LogOk.len8 {L : List Rc} (h : LogOk L) : ∀ r ∈ L, 1 ≤ r.chs.length ∧ r.chs.length ≤ 8 := by
  intro r hr
  obtain ⟨i, hi⟩ := List.mem_iff_getElem?.1 hr
  exact fits_len (h i r hi).2
end Go.Proofs.YtcnpncndecjahaaGreatDoor

/-
  Numerals that are read back; lines that are divided at their spaces.
-/
namespace Go.Proofs.YtcnpncndecjahaaGreatDoor
open Go.Lib

/-! ## Numerals -/
theorem dec_ne (u : Nat) : decDigits u ≠ [] := by
  rw [decDigits]
  split <;> simp
theorem digit_lt (d : Nat) (h : d < 10) : (UInt8.ofNat (48 + d)).toNat = 48 + d := by
  rw [UInt8.toNat_ofNat']
  exact Nat.mod_eq_of_lt (by omega)
theorem dec_digit (u : Nat) : ∀ c ∈ decDigits u, 48 ≤ c.toNat ∧ c.toNat ≤ 57 := by
  induction u using Nat.strongRecOn with
  | _ u ih =>
    intro c hc
    rw [decDigits] at hc
    split at hc
    · rename_i h
      simp only [List.mem_singleton] at hc
      subst hc
      rw [digit_lt u h]
      omega
    · rename_i h
      rcases List.mem_append.1 hc with hc | hc
      · exact ih (u / 10) (by omega) c hc
      · simp only [List.mem_singleton] at hc
        subst hc
        rw [digit_lt (u % 10) (Nat.mod_lt _ (by decide))]
        have := Nat.mod_lt u (show 10 > 0 by decide)
        omega
theorem parse_app (l : List UInt8) (c : UInt8) (acc v : Nat) (h : parseUint10 acc l = .ok v) (hc : 48 ≤ c.toNat ∧ c.toNat ≤ 57) (hv : v * 10 + (c.toNat - 48) < 1000000000000000000) : parseUint10 acc (l ++ [c]) = .ok (v * 10 + (c.toNat - 48)) := by
  induction l generalizing acc with
  | nil =>
    simp only [parseUint10] at h
    injection h with h
    subst h
    simp only [List.nil_append, parseUint10]
    rw [if_pos hc, if_neg (by omega), if_neg (by omega)]
  | cons x l ih =>
    simp only [parseUint10] at h
    split at h
    · rename_i hx
      split at h
      · cases h
      · rename_i h1
        split at h
        · cases h
        · rename_i h2
          simp only [List.cons_append, parseUint10]
          rw [if_pos hx, if_neg h1, if_neg h2]
          exact ih _ h
    · cases h
theorem parse_dec (u : Nat) (h : u < 100000000000000000) : parseUint10 0 (decDigits u) = .ok u := by
  induction u using Nat.strongRecOn with
  | _ u ih =>
    rw [decDigits]
    split
    · rename_i h1
      simp only [parseUint10]
      rw [digit_lt u h1, if_pos (by omega), if_neg (by omega), if_neg (by omega)]
      congr 1
      omega
    · rename_i h1
      have h2 := Nat.mod_lt u (show 10 > 0 by decide)
      have h3 := digit_lt (u % 10) h2
      have h4 := parse_app _ (UInt8.ofNat (48 + u % 10)) 0 _ (ih (u / 10) (by omega) (by omega)) (by rw [h3]; omega) (by rw [h3]; omega)
      rw [h4, h3]
      congr 1
      omega
/-- A number that is written is read back. -/
theorem atoi_itoa (n : Int) (h : -10000000000000000 < n ∧ n < 10000000000000000) : atoiAll (itoa n) = .ok n := by
  unfold itoa
  by_cases hn : n < 0
  · rw [if_pos hn]
    unfold atoiAll
    have e : (45 : UInt8).toNat = 45 := rfl
    simp only [e]
    rw [if_pos (by simp)]
    unfold parseMag
    rw [if_neg (dec_ne _), parse_dec _ (by omega)]
    simp only []
    rw [if_neg (by rintro ⟨h2, -⟩; exact h2 trivial), if_neg (by rintro ⟨-, h2⟩; omega), if_pos trivial]
    congr 1
    omega
  · rw [if_neg hn]
    have h1 := dec_ne n.toNat
    have h2 := parse_dec n.toNat (by omega)
    have h3 := dec_digit n.toNat
    cases hd : decDigits n.toNat with
    | nil => exact absurd hd h1
    | cons c r =>
      rw [hd] at h2 h3
      have hc := h3 c (by simp)
      unfold atoiAll
      simp only []
      rw [if_neg (by omega)]
      unfold parseMag
      rw [if_neg (by simp), h2]
      simp only []
      rw [if_neg (by omega), if_neg (by omega), if_neg (by omega)]
      congr 1
      omega
theorem itoa_mem {n : Int} {c : UInt8} (h : c ∈ itoa n) : c.toNat = 45 ∨ 48 ≤ c.toNat ∧ c.toNat ≤ 57 := by
  unfold itoa at h
  split at h
  · rcases List.mem_cons.1 h with rfl | h
    · exact .inl rfl
    · exact .inr (dec_digit _ c h)
  · exact .inr (dec_digit _ c h)
theorem itoa_free (n : Int) : ∀ c ∈ itoa n, c ≠ 32 := fun c hc e => by
  subst e
  rcases itoa_mem hc with h | h
  · exact absurd h (by decide)
  · exact absurd h (by decide)
theorem itoa_ne (n : Int) : itoa n ≠ [] := by
  unfold itoa
  split
  · simp
  · exact dec_ne _

/-! ## Lines -/
/-- Words with spaces between them. -/
def joinW : List (List UInt8) → List UInt8
  | [] => []
  | [w] => w
  | w :: v :: r => w ++ 32 :: joinW (v :: r)
theorem joinW_cons (w v : List UInt8) (r : List (List UInt8)) : joinW (w :: v :: r) = w ++ 32 :: joinW (v :: r) := rfl
theorem joinW_snoc (l : List (List UInt8)) (w : List UInt8) (h : l ≠ []) : joinW (l ++ [w]) = joinW l ++ 32 :: w := by
  induction l with
  | nil => exact absurd rfl h
  | cons x l ih =>
    cases l with
    | nil => rfl
    | cons y l =>
      show x ++ 32 :: joinW (y :: l ++ [w]) = (x ++ 32 :: joinW (y :: l)) ++ 32 :: w
      rw [ih (by simp)]
      simp
theorem index_free (w r : List UInt8) (h : ∀ c ∈ w, c ≠ 32) : index (w ++ 32 :: r) [32] = w.length := by
  refine index_first (by simp) ?_ ?_
  · rw [occAt_iff_take _ _ _ (by simp)]
    simp
  · intro j hj
    rw [occAt_iff_take _ _ _ (by simp; omega), List.drop_append_of_le_length (by omega)]
    obtain ⟨x, hx⟩ : ∃ x, w[j]? = some x := ⟨_, List.getElem?_eq_getElem hj⟩
    have e : w.drop j = x :: w.drop (j + 1) := by
      rw [List.drop_eq_getElem_cons hj]
      congr 1
      rw [List.getElem?_eq_getElem hj] at hx
      exact Option.some.inj hx
    rw [e]
    have := h x (List.mem_of_getElem? hx)
    simp [this]
theorem index_none' (w : List UInt8) (h : ∀ c ∈ w, c ≠ 32) : index w [32] = -1 := by
  refine index_none fun j hj => ?_
  by_cases hl : j + 1 ≤ w.length
  · have h2 := h _ (List.getElem_mem (by omega : j < w.length))
    rw [occAt_iff_take _ _ _ (by simpa using hl), List.drop_eq_getElem_cons (by omega)]
    simp only [List.length_cons, List.length_nil, List.take_succ_cons, Nat.zero_add, List.take_zero]
    exact beq_eq_false_iff_ne.2 (fun e => h2 (List.cons.inj e).1)
  · cases e : occAt w [32] j with
    | false => rfl
    | true =>
      rcases occAt_room e with h1 | h1
      · simp at h1; omega
      · cases h1
theorem split_join (w : List UInt8) (r : List (List UInt8)) (h : ∀ x ∈ w :: r, ∀ c ∈ x, c ≠ 32) : split (joinW (w :: r)) [32] = w :: r := by
  induction r generalizing w with
  | nil =>
    have h1 := index_none' w (h w (by simp))
    show splitK [32] 0 (count w [32]) w = [w]
    rw [count_miss h1]
    rfl
  | cons v r ih =>
    have h1 := index_free w (joinW (v :: r)) (h w (by simp))
    have h2 := ih v (fun x hx => h x (by simp at hx ⊢; exact .inr hx))
    rw [joinW_cons]
    unfold split at h2 ⊢
    have hd : (w ++ 32 :: joinW (v :: r)).drop (w.length + [(32 : UInt8)].length) = joinW (v :: r) := by
      rw [show w ++ 32 :: joinW (v :: r) = (w ++ [32]) ++ joinW (v :: r) by simp, List.drop_append_of_le_length (by simp), List.drop_of_length_le (by simp)]
      rfl
    rw [count_hit (by simp) h1, hd, Nat.add_comm]
    unfold splitK
    rw [h1, if_neg (by simp only [beq_iff_eq]; omega), Int.toNat_natCast, hd, h2]
    simp
end Go.Proofs.YtcnpncndecjahaaGreatDoor

/-
  Queries and their lines: which are valid, what a line is, how it is read.
-/
namespace Go.Proofs.YtcnpncndecjahaaGreatDoor
open Go.Lib

/-- A query. -/
structure Qy where
  kd : Int
  tb : Int
  cl : Int
  lo : Int
  hi : Int
  bb : Int
  ot : Int
  deriving DecidableEq
def Qy.get (q : Qy) : Nat → Int
  | 0 => q.kd
  | 1 => q.tb
  | 2 => q.cl
  | 3 => q.lo
  | 4 => q.hi
  | 5 => q.bb
  | _ => q.ot
def Qy.set (q : Qy) (v : Int) : Nat → Qy
  | 0 => { q with kd := v }
  | 1 => { q with tb := v }
  | 2 => { q with cl := v }
  | 3 => { q with lo := v }
  | 4 => { q with hi := v }
  | 5 => { q with bb := v }
  | _ => { q with ot := v }
/-- What every valid query meets. -/
def Qy.base (q : Qy) : Prop := 0 ≤ q.tb ∧ q.tb ≤ 3 ∧ 0 ≤ q.cl ∧ q.cl ≤ 3 ∧ -1000000000 ≤ q.lo ∧ q.lo ≤ q.hi ∧ q.hi ≤ 1000000000
instance (q : Qy) : Decidable q.base := by unfold Qy.base; exact inferInstance
def Qy.form (q : Qy) : Prop := (q.kd = 1 ∧ q.cl = 0 ∧ q.lo = q.hi ∧ 1 ≤ q.lo ∧ q.lo ≤ 1000000 ∧ q.bb = 0 ∧ q.ot = 0) ∨ ((q.kd = 2 ∨ q.kd = 3) ∧ q.bb = 0 ∧ q.ot = 0) ∨ ((q.kd = 4 ∨ q.kd = 5 ∨ q.kd = 6) ∧ 1 ≤ q.bb ∧ q.bb ≤ 3 ∧ q.ot = 0) ∨ (q.kd = 7 ∧ 1 ≤ q.bb ∧ q.bb ≤ 3 ∧ 0 ≤ q.ot ∧ q.ot ≤ 3)
instance (q : Qy) : Decidable q.form := by unfold Qy.form; exact inferInstance
def Qy.ok (q : Qy) : Prop := q.base ∧ q.form
instance (q : Qy) : Decidable q.ok := by unfold Qy.ok; exact inferInstance

/-! ## Lines -/
def wRow : List UInt8 := [114, 111, 119]
def wRows : List UInt8 := [114, 111, 119, 115]
def wCount : List UInt8 := [99, 111, 117, 110, 116]
def wSum : List UInt8 := [115, 117, 109]
def wMin : List UInt8 := [109, 105, 110]
def wMax : List UInt8 := [109, 97, 120]
def wJoin : List UInt8 := [106, 111, 105, 110]
def wTo : List UInt8 := [116, 111]
def wOf : List UInt8 := [111, 102]
/-- The word of a kind. -/
def wordK (k : Int) : List UInt8 := if k = 1 then wRow else if k = 2 then wRows else if k = 3 then wCount else if k = 4 then wSum else if k = 5 then wMin else if k = 6 then wMax else wJoin
/-- The fields of a kind, in the order of its line. -/
def flds (k : Int) : List Nat := if k = 1 then [1, 3] else if k = 2 ∨ k = 3 then [1, 2, 3, 4] else if k = 4 ∨ k = 5 ∨ k = 6 then [5, 1, 2, 3, 4] else [5, 6, 1, 2, 3, 4]
/-- The words in front of fields. -/
def glueK (k : Int) (i : Nat) : Option (List UInt8) := if k = 4 ∨ k = 5 ∨ k = 6 then (if i = 1 then some wOf else none) else if k = 7 then (if i = 1 then some wTo else if i = 2 then some wOf else none) else none
def glueL (k : Int) (i : Nat) : List (List UInt8) := match glueK k i with | some g => [g] | none => []
def pieces (q : Qy) (k : Int) (i : Nat) : List Nat → List (List UInt8)
  | [] => []
  | f :: fs => glueL k i ++ itoa (q.get f) :: pieces q k (i + 1) fs
def lineWs (q : Qy) : List (List UInt8) := wordK q.kd :: pieces q q.kd 0 (flds q.kd)
/-- The line of a query. -/
def lineL (q : Qy) : List UInt8 := joinW (lineWs q)

/-! ## Reading -/
def kindOf (w : List UInt8) : Option Int := if w = wRow then some 1 else if w = wRows then some 2 else if w = wCount then some 3 else if w = wSum then some 4 else if w = wMin then some 5 else if w = wMax then some 6 else if w = wJoin then some 7 else none
def skipG (k : Int) (i : Nat) (ws : List (List UInt8)) : Option (List (List UInt8)) :=
  match glueK k i with
  | none => some ws
  | some g => match ws with
    | [] => none
    | w :: r => if w = g then some r else none
def readF (k : Int) (i : Nat) : List Nat → List (List UInt8) → Qy → Option Qy
  | [], _, q => some q
  | f :: fs, ws, q => match skipG k i ws with
    | some (w :: r) => match atoiAll w with
      | .ok v => readF k (i + 1) fs r (q.set v f)
      | _ => none
    | _ => none
def endQ (q : Qy) : Qy := if q.kd = 1 then { q with hi := q.lo } else q
def readW (ws : List (List UInt8)) : Option Qy :=
  match ws with
  | [] => none
  | w :: r => match kindOf w with
    | none => none
    | some k => (readF k 0 (flds k) r ⟨k, 0, 0, 0, 0, 0, 0⟩).map endQ
/-- Numbers within the bounds. -/
def Qy.near (q : Qy) : Prop := (-1000000000 ≤ q.tb ∧ q.tb ≤ 1000000000) ∧ (-1000000000 ≤ q.cl ∧ q.cl ≤ 1000000000) ∧ (-1000000000 ≤ q.lo ∧ q.lo ≤ 1000000000) ∧ (-1000000000 ≤ q.hi ∧ q.hi ≤ 1000000000) ∧ (-1000000000 ≤ q.bb ∧ q.bb ≤ 1000000000) ∧ (-1000000000 ≤ q.ot ∧ q.ot ≤ 1000000000)
theorem Qy.ok.near {q : Qy} (h : q.ok) : q.near := by
  obtain ⟨hb, hf⟩ := h
  unfold Qy.base at hb
  unfold Qy.form at hf
  unfold Qy.near
  omega
/-- Reading the line of a query that has its kind's form. -/
theorem read_near {q : Qy} (hb : q.near) (hf : q.form) : readW (lineWs q) = some q := by
  obtain ⟨kd, tb, cl, lo, hi, bb, ot⟩ := q
  unfold Qy.near at hb
  unfold Qy.form at hf
  simp only at hb hf
  have a1 := atoi_itoa tb (by omega)
  have a2 := atoi_itoa cl (by omega)
  have a3 := atoi_itoa lo (by omega)
  have a4 := atoi_itoa hi (by omega)
  have a5 := atoi_itoa bb (by omega)
  have a6 := atoi_itoa ot (by omega)
  have k1 : kindOf wRow = some 1 := rfl
  have k2 : kindOf wRows = some 2 := rfl
  have k3 : kindOf wCount = some 3 := rfl
  have k4 : kindOf wSum = some 4 := rfl
  have k5 : kindOf wMin = some 5 := rfl
  have k6 : kindOf wMax = some 6 := rfl
  have k7 : kindOf wJoin = some 7 := rfl
  rcases hf with ⟨rfl, h1, h2, h3, h4, h5, h6⟩ | ⟨rfl | rfl, h1, h2⟩ | ⟨rfl | rfl | rfl, h1, h2, h3⟩ | ⟨rfl, h1, h2, h3, h4⟩
  · subst h1 h5 h6
    simp [lineWs, readW, wordK, k1, flds, pieces, glueL, glueK, Qy.get, readF, skipG, a1, a4, Qy.set, endQ, h2]
  · subst h1 h2
    simp [lineWs, readW, wordK, k2, flds, pieces, glueL, glueK, Qy.get, readF, skipG, a1, a2, a3, a4, Qy.set, endQ]
  · subst h1 h2
    simp [lineWs, readW, wordK, k3, flds, pieces, glueL, glueK, Qy.get, readF, skipG, a1, a2, a3, a4, Qy.set, endQ]
  · subst h3
    simp [lineWs, readW, wordK, k4, flds, pieces, glueL, glueK, Qy.get, readF, skipG, a1, a2, a3, a4, a5, Qy.set, endQ]
  · subst h3
    simp [lineWs, readW, wordK, k5, flds, pieces, glueL, glueK, Qy.get, readF, skipG, a1, a2, a3, a4, a5, Qy.set, endQ]
  · subst h3
    simp [lineWs, readW, wordK, k6, flds, pieces, glueL, glueK, Qy.get, readF, skipG, a1, a2, a3, a4, a5, Qy.set, endQ]
  · simp [lineWs, readW, wordK, k7, flds, pieces, glueL, glueK, Qy.get, readF, skipG, a1, a2, a3, a4, a5, a6, Qy.set, endQ]
theorem read_line {q : Qy} (h : q.ok) : readW (lineWs q) = some q := read_near h.near h.2

/-! ## What the words are made of -/
theorem wordK_mem (k : Int) : ∀ c ∈ wordK k, 97 ≤ c.toNat ∧ c.toNat ≤ 122 := by
  unfold wordK
  repeat' split
  all_goals (intro c hc; simp only [wRow, wRows, wCount, wSum, wMin, wMax, wJoin, List.mem_cons, List.not_mem_nil, or_false] at hc; rcases hc with rfl | rfl | rfl | rfl | rfl <;> decide) <;> skip
theorem glueL_mem (k : Int) (i : Nat) : ∀ w ∈ glueL k i, ∀ c ∈ w, 97 ≤ c.toNat ∧ c.toNat ≤ 122 := by
  intro w hw c hc
  have h : w = wOf ∨ w = wTo := by
    unfold glueL at hw
    cases e : glueK k i with
    | none => rw [e] at hw; cases hw
    | some g =>
      rw [e] at hw
      have hw2 : w = g := by simpa using hw
      subst hw2
      unfold glueK at e
      split at e
      · split at e
        · exact .inl (Option.some.inj e).symm
        · cases e
      · split at e
        · split at e
          · exact .inr (Option.some.inj e).symm
          · split at e
            · exact .inl (Option.some.inj e).symm
            · cases e
        · cases e
  rcases h with rfl | rfl
  · simp only [wOf, List.mem_cons, List.not_mem_nil, or_false] at hc
    rcases hc with rfl | rfl <;> decide
  · simp only [wTo, List.mem_cons, List.not_mem_nil, or_false] at hc
    rcases hc with rfl | rfl <;> decide
/-- Letters, digits, minus. -/
def okC (c : UInt8) : Prop := c.toNat = 45 ∨ 48 ≤ c.toNat ∧ c.toNat ≤ 57 ∨ 97 ≤ c.toNat ∧ c.toNat ≤ 122
theorem pieces_mem (q : Qy) (k : Int) (fs : List Nat) : ∀ i, ∀ w ∈ pieces q k i fs, ∀ c ∈ w, okC c := by
  induction fs with
  | nil => intro i w hw; cases hw
  | cons f fs ih =>
    intro i w hw c hc
    unfold pieces at hw
    rcases List.mem_append.1 hw with hw | hw
    · exact .inr (.inr (glueL_mem k i w hw c hc))
    · rcases List.mem_cons.1 hw with rfl | hw
      · rcases itoa_mem hc with h | h
        · exact .inl h
        · exact .inr (.inl h)
      · exact ih (i + 1) w hw c hc
theorem lineWs_mem (q : Qy) : ∀ w ∈ lineWs q, ∀ c ∈ w, okC c := by
  intro w hw c hc
  rcases List.mem_cons.1 hw with rfl | hw
  · exact .inr (.inr (wordK_mem _ c hc))
  · exact pieces_mem q q.kd _ 0 w hw c hc
theorem okC_ne {c : UInt8} (h : okC c) : c ≠ 32 ∧ c ≠ 10 := by
  constructor <;> rintro rfl <;> rcases h with h | h | h <;> revert h <;> decide
theorem split_line (q : Qy) : split (lineL q) [32] = lineWs q := by
  unfold lineL lineWs
  refine split_join _ _ fun x hx c hc => ?_
  exact (okC_ne (lineWs_mem q x hx c hc)).1
theorem line_inj {q p : Qy} (hq : q.ok) (hp : p.ok) (h : lineL q = lineL p) : q = p := by
  have h1 := read_line hq
  have h2 := read_line hp
  rw [← split_line] at h1 h2
  rw [h] at h1
  exact Option.some.inj (h1.symm.trans h2)
theorem joinW_mem {c : UInt8} : ∀ (l : List (List UInt8)), c ∈ joinW l → c = 32 ∨ ∃ w ∈ l, c ∈ w
  | [], h => by cases h
  | [w], h => .inr ⟨w, by simp, h⟩
  | w :: v :: r, h => by
    rcases List.mem_append.1 h with h | h
    · exact .inr ⟨w, by simp, h⟩
    · rcases List.mem_cons.1 h with h | h
      · exact .inl h
      · rcases joinW_mem (v :: r) h with h | ⟨x, hx, hc⟩
        · exact .inl h
        · exact .inr ⟨x, List.mem_cons_of_mem _ hx, hc⟩
theorem line_no10 (q : Qy) : ∀ c ∈ lineL q, c ≠ 10 := by
  intro c hc
  rcases joinW_mem _ hc with rfl | ⟨w, hw, h⟩
  · decide
  · exact (okC_ne (lineWs_mem q w hw c h)).2
end Go.Proofs.YtcnpncndecjahaaGreatDoor

/-
  How long lines are, how they begin; what reading accepts; the reference's reading.
-/
namespace Go.Proofs.YtcnpncndecjahaaGreatDoor
open Go.Lib

theorem nDigits_le (k : Nat) (hk : 1 ≤ k) : ∀ u : Nat, u < 10 ^ k → nDigits u ≤ k := by
  induction k with
  | zero => omega
  | succ k ih =>
    intro u hu
    by_cases h : u < 10
    · rw [nDigits_small h]; omega
    · rw [nDigits_big h]
      have h1 : 1 ≤ k := by
        cases k with
        | zero => simp at hu; omega
        | succ k => omega
      have h2 := ih h1 (u / 10) (by rw [Nat.pow_succ] at hu; omega)
      omega
theorem itoa_len1 {n : Int} (h : 0 ≤ n ∧ n ≤ 9) : (itoa n).length = 1 := by
  unfold itoa
  rw [if_neg (by omega), decDigits_length, nDigits_small (by omega)]
theorem itoa_len7 {n : Int} (h : 0 ≤ n ∧ n ≤ 1000000) : (itoa n).length ≤ 7 := by
  unfold itoa
  rw [if_neg (by omega), decDigits_length]
  exact nDigits_le 7 (by decide) _ (by omega)
theorem itoa_len11 {n : Int} (h : -1000000000 ≤ n ∧ n ≤ 1000000000) : (itoa n).length ≤ 11 := by
  unfold itoa
  split
  · rw [List.length_cons, decDigits_length]
    have := nDigits_le 10 (by decide) n.natAbs (by omega)
    omega
  · rw [decDigits_length]
    have := nDigits_le 10 (by decide) n.toNat (by omega)
    omega
theorem joinW_len : ∀ (l : List (List UInt8)), l ≠ [] → (joinW l).length + 1 = (l.map (fun w => w.length + 1)).sum
  | [], h => absurd rfl h
  | [w], _ => by simp [joinW]
  | w :: v :: r, _ => by
    have := joinW_len (v :: r) (by simp)
    rw [joinW_cons, List.length_append, List.length_cons, List.map_cons, List.sum_cons, ← this]
    omega
theorem line_len {q : Qy} (h : q.ok) : (lineL q).length ≤ 42 := by
  obtain ⟨hb, hf⟩ := h
  have hj := joinW_len (lineWs q) (by simp [lineWs])
  show (joinW (lineWs q)).length ≤ 42
  obtain ⟨kd, tb, cl, lo, hi, bb, ot⟩ := q
  unfold Qy.base at hb
  unfold Qy.form at hf
  simp only at hb hf
  have a1 := itoa_len1 (n := tb) (by omega)
  have a2 := itoa_len1 (n := cl) (by omega)
  have a3 := itoa_len11 (n := lo) (by omega)
  have a4 := itoa_len11 (n := hi) (by omega)
  rcases hf with ⟨rfl, h1, h2, h3, h4, h5, h6⟩ | ⟨rfl | rfl, h1, h2⟩ | ⟨rfl | rfl | rfl, h1, h2, h3⟩ | ⟨rfl, h1, h2, h3, h4⟩
  · have a5 := itoa_len7 (n := lo) (by omega)
    simp [lineWs, wordK, flds, pieces, glueL, glueK, Qy.get, wRow] at hj ⊢
    omega
  · simp [lineWs, wordK, flds, pieces, glueL, glueK, Qy.get, wRows] at hj ⊢
    omega
  · simp [lineWs, wordK, flds, pieces, glueL, glueK, Qy.get, wCount] at hj ⊢
    omega
  · have a5 := itoa_len1 (n := bb) (by omega)
    simp [lineWs, wordK, flds, pieces, glueL, glueK, Qy.get, wSum, wOf] at hj ⊢
    omega
  · have a5 := itoa_len1 (n := bb) (by omega)
    simp [lineWs, wordK, flds, pieces, glueL, glueK, Qy.get, wMin, wOf] at hj ⊢
    omega
  · have a5 := itoa_len1 (n := bb) (by omega)
    simp [lineWs, wordK, flds, pieces, glueL, glueK, Qy.get, wMax, wOf] at hj ⊢
    omega
  · have a5 := itoa_len1 (n := bb) (by omega)
    have a6 := itoa_len1 (n := ot) (by omega)
    simp [lineWs, wordK, flds, pieces, glueL, glueK, Qy.get, wJoin, wOf, wTo] at hj ⊢
    omega
/-- A line begins with its word and a space. -/
theorem line_head (q : Qy) : ∃ r, lineL q = wordK q.kd ++ 32 :: r := by
  obtain ⟨x, y, e⟩ : ∃ x y, pieces q q.kd 0 (flds q.kd) = x :: y := by
    have hl : 0 < (pieces q q.kd 0 (flds q.kd)).length := by
      have : ∃ f fs, flds q.kd = f :: fs := by
        unfold flds
        repeat' split
        all_goals exact ⟨_, _, rfl⟩
      obtain ⟨f, fs, e⟩ := this
      rw [e]
      unfold pieces
      simp
      omega
    match pieces q q.kd 0 (flds q.kd), hl with
    | x :: y, _ => exact ⟨x, y, rfl⟩
  refine ⟨joinW (x :: y), ?_⟩
  unfold lineL lineWs
  rw [e]
  rfl

/-! ## What reading accepts -/
def parseS (s : List UInt8) : Option Qy := match readW (split s [32]) with
  | some q => if q.ok ∧ lineL q = s then some q else none
  | none => none
theorem parseS_iff (s : List UInt8) (q : Qy) : parseS s = some q ↔ q.ok ∧ lineL q = s := by
  constructor
  · intro h
    unfold parseS at h
    split at h
    · split at h
      · rename_i h1
        cases Option.some.inj h
        exact h1
      · cases h
    · cases h
  · rintro ⟨h1, h2⟩
    subst h2
    unfold parseS
    rw [split_line, read_line h1]
    simp [h1]
theorem parse_bad {q : Qy} (hb : q.near) (hf : q.form) (h : ¬ q.ok) : parseS (lineL q) = none := by
  unfold parseS
  rw [split_line, read_near hb hf]
  simp [h]
/-- The fixed examples. -/
theorem itoa_one (n : Nat) (h : n < 10) : itoa (n : Int) = [UInt8.ofNat (48 + n)] := by
  unfold itoa
  rw [if_neg (by omega), Int.toNat_natCast, decDigits_one h]
theorem itoa0 : itoa 0 = [48] := itoa_one 0 (by decide)
theorem itoa1 : itoa 1 = [49] := itoa_one 1 (by decide)
theorem itoa2 : itoa 2 = [50] := itoa_one 2 (by decide)
theorem itoa3 : itoa 3 = [51] := itoa_one 3 (by decide)
theorem dec10 : decDigits 10 = [49, 48] := decDigits_two (by decide) (by decide)
theorem dec20 : decDigits 20 = [50, 48] := decDigits_two (by decide) (by decide)
theorem itoa10 : itoa 10 = [49, 48] := by unfold itoa; rw [if_neg (by decide)]; exact dec10
theorem itoa20 : itoa 20 = [50, 48] := by unfold itoa; rw [if_neg (by decide)]; exact dec20
theorem itoaN10 : itoa (-10) = [45, 49, 48] := by unfold itoa; rw [if_pos (by decide)]; exact congrArg (45 :: ·) dec10
theorem line_ex1 : lineL ⟨7, 0, 3, 0, 0, 1, 2⟩ = [106, 111, 105, 110, 32, 49, 32, 116, 111, 32, 50, 32, 111, 102, 32, 48, 32, 51, 32, 48, 32, 48] := by
  simp [lineL, lineWs, wordK, flds, pieces, glueL, glueK, Qy.get, itoa0, itoa1, itoa2, itoa3, joinW, wJoin, wTo, wOf]
theorem line_ex2 : lineL ⟨2, 1, 2, -10, 20, 0, 0⟩ = [114, 111, 119, 115, 32, 49, 32, 50, 32, 45, 49, 48, 32, 50, 48] := by
  simp [lineL, lineWs, wordK, flds, pieces, glueL, glueK, Qy.get, itoa1, itoa2, itoa20, itoaN10, joinW, wRows]
theorem line_ex3 : lineL ⟨2, 1, 2, 20, 10, 0, 0⟩ = [114, 111, 119, 115, 32, 49, 32, 50, 32, 50, 48, 32, 49, 48] := by
  simp [lineL, lineWs, wordK, flds, pieces, glueL, glueK, Qy.get, itoa1, itoa2, itoa20, itoa10, joinW, wRows]
theorem ok_ex1 : (⟨7, 0, 3, 0, 0, 1, 2⟩ : Qy).ok := by decide
theorem ok_ex2 : (⟨2, 1, 2, -10, 20, 0, 0⟩ : Qy).ok := by decide
theorem parse_ex2 : parseS [114, 111, 119, 115, 32, 49, 32, 50, 32, 45, 49, 48, 32, 50, 48] = some ⟨2, 1, 2, -10, 20, 0, 0⟩ := (parseS_iff _ _).2 ⟨ok_ex2, line_ex2⟩
theorem parse_ex3 : parseS [114, 111, 119, 115, 32, 49, 32, 50, 32, 50, 48, 32, 49, 48] = none := by
  rw [← line_ex3]
  exact parse_bad (by unfold Qy.near; decide) (by decide) (by decide)
/-! ## The reference's reading -/
def wStep (a : List (List UInt8) × List UInt8) (c : UInt8) : List (List UInt8) × List UInt8 := if c = 32 then (a.1 ++ [a.2], []) else (a.1, a.2 ++ [c])
def wFold (s : List UInt8) : List (List UInt8) × List UInt8 := s.foldl wStep ([], [])
def wordsR (s : List UInt8) : List (List UInt8) := (wFold s).1 ++ [(wFold s).2]
theorem wFold_free (w : List UInt8) (h : ∀ c ∈ w, c ≠ 32) : ∀ a, w.foldl wStep a = (a.1, a.2 ++ w) := by
  induction w with
  | nil => intro a; simp
  | cons c w ih =>
    intro a
    rw [List.foldl_cons, ih (fun x hx => h x (by simp [hx]))]
    unfold wStep
    rw [if_neg (h c (by simp))]
    simp
theorem wFold_join (w : List UInt8) (r : List (List UInt8)) (h : ∀ x ∈ w :: r, ∀ c ∈ x, c ≠ 32) : ∀ d, (joinW (w :: r)).foldl wStep (d, []) = (d ++ (w :: r).dropLast, (w :: r).getLast (by simp)) := by
  induction r generalizing w with
  | nil =>
    intro d
    show w.foldl wStep (d, []) = _
    rw [wFold_free w (h w (by simp))]
    simp
  | cons v r ih =>
    intro d
    rw [joinW_cons, List.foldl_append, wFold_free w (h w (by simp)), List.foldl_cons]
    show (joinW (v :: r)).foldl wStep (wStep (d, [] ++ w) 32) = _
    unfold wStep
    rw [if_pos rfl]
    rw [show (d, [] ++ w).1 ++ [(d, [] ++ w).2] = d ++ [w] by simp]
    have := ih v (fun x hx => h x (by simp at hx ⊢; exact .inr hx)) (d ++ [w])
    unfold wStep at this
    rw [this]
    simp
theorem words_line (q : Qy) : wordsR (lineL q) = lineWs q := by
  have h := wFold_join (wordK q.kd) (pieces q q.kd 0 (flds q.kd)) (fun x hx c hc => (okC_ne (lineWs_mem q x hx c hc)).1) []
  unfold wordsR
  have h2 : wFold (lineL q) = ([] ++ (lineWs q).dropLast, (lineWs q).getLast (by simp [lineWs])) := h
  rw [h2]
  rw [List.nil_append]
  exact List.dropLast_concat_getLast _
/-- A number as the reference reads it. -/
def rdStep (n : Int) (c : UInt8) : Int := 10 * n + ((c.toNat : Int) - 48)
def rdL (s : List UInt8) : Int := match s with
  | [] => 0
  | c :: r => if c.toNat = 45 then -((r.take 10).foldl rdStep 0) else (s.take 11).foldl rdStep 0
theorem rd_dec (u : Nat) : (decDigits u).foldl rdStep 0 = u := by
  induction u using Nat.strongRecOn with
  | _ u ih =>
    rw [decDigits]
    split
    · rename_i h
      simp only [List.foldl_cons, List.foldl_nil, rdStep]
      rw [digit_lt u h]
      omega
    · rename_i h
      rw [List.foldl_append, ih (u / 10) (by omega)]
      simp only [List.foldl_cons, List.foldl_nil, rdStep]
      rw [digit_lt _ (Nat.mod_lt u (by decide))]
      omega
theorem rd_itoa (n : Int) (h : -1000000000 ≤ n ∧ n ≤ 1000000000) : rdL (itoa n) = n := by
  unfold itoa
  by_cases hn : n < 0
  · rw [if_pos hn]
    have h1 := nDigits_le 10 (by decide) n.natAbs (by omega)
    rw [← decDigits_length] at h1
    show -(((decDigits n.natAbs).take 10).foldl rdStep 0) = n
    rw [List.take_of_length_le h1, rd_dec]
    omega
  · rw [if_neg hn]
    have h1 := nDigits_le 10 (by decide) n.toNat (by omega)
    rw [← decDigits_length] at h1
    have h2 := dec_ne n.toNat
    have h3 := dec_digit n.toNat
    have h4 := rd_dec n.toNat
    cases e : decDigits n.toNat with
    | nil => exact absurd e h2
    | cons c r =>
      rw [e] at h1 h3 h4
      have := h3 c (by simp)
      show (if c.toNat = 45 then -((r.take 10).foldl rdStep 0) else ((c :: r).take 11).foldl rdStep 0) = n
      rw [if_neg (by omega), List.take_of_length_le (by omega), h4]
      omega
/-- The reference's query of a list of words. -/
def refQ (w : List (List UInt8)) : Option Qy :=
  match (kindOf (w.getD 0 [])).getD 0 with
  | 1 => if w.length = 3 then some ⟨1, rdL (w.getD 1 []), 0, rdL (w.getD 2 []), rdL (w.getD 2 []), 0, 0⟩ else none
  | 2 => if w.length = 5 then some ⟨2, rdL (w.getD 1 []), rdL (w.getD 2 []), rdL (w.getD 3 []), rdL (w.getD 4 []), 0, 0⟩ else none
  | 3 => if w.length = 5 then some ⟨3, rdL (w.getD 1 []), rdL (w.getD 2 []), rdL (w.getD 3 []), rdL (w.getD 4 []), 0, 0⟩ else none
  | 4 => if w.length = 7 then some ⟨4, rdL (w.getD 3 []), rdL (w.getD 4 []), rdL (w.getD 5 []), rdL (w.getD 6 []), rdL (w.getD 1 []), 0⟩ else none
  | 5 => if w.length = 7 then some ⟨5, rdL (w.getD 3 []), rdL (w.getD 4 []), rdL (w.getD 5 []), rdL (w.getD 6 []), rdL (w.getD 1 []), 0⟩ else none
  | 6 => if w.length = 7 then some ⟨6, rdL (w.getD 3 []), rdL (w.getD 4 []), rdL (w.getD 5 []), rdL (w.getD 6 []), rdL (w.getD 1 []), 0⟩ else none
  | 7 => if w.length = 9 then some ⟨7, rdL (w.getD 5 []), rdL (w.getD 6 []), rdL (w.getD 7 []), rdL (w.getD 8 []), rdL (w.getD 1 []), rdL (w.getD 3 [])⟩ else none
  | _ => none
theorem ref_line {q : Qy} (h : q.ok) : refQ (lineWs q) = some q := by
  obtain ⟨hb, hf⟩ := h
  obtain ⟨kd, tb, cl, lo, hi, bb, ot⟩ := q
  unfold Qy.base at hb
  unfold Qy.form at hf
  simp only at hb hf
  have a1 := rd_itoa tb (by omega)
  have a2 := rd_itoa cl (by omega)
  have a3 := rd_itoa lo (by omega)
  have a4 := rd_itoa hi (by omega)
  have a5 := rd_itoa bb (by omega)
  have a6 := rd_itoa ot (by omega)
  have k1 : kindOf wRow = some 1 := rfl
  have k2 : kindOf wRows = some 2 := rfl
  have k3 : kindOf wCount = some 3 := rfl
  have k4 : kindOf wSum = some 4 := rfl
  have k5 : kindOf wMin = some 5 := rfl
  have k6 : kindOf wMax = some 6 := rfl
  have k7 : kindOf wJoin = some 7 := rfl
  rcases hf with ⟨rfl, h1, h2, h3, h4, h5, h6⟩ | ⟨rfl | rfl, h1, h2⟩ | ⟨rfl | rfl | rfl, h1, h2, h3⟩ | ⟨rfl, h1, h2, h3, h4⟩
  · subst h1 h5 h6
    simp [lineWs, refQ, wordK, k1, flds, pieces, glueL, glueK, Qy.get, a1, a4, h2]
  · subst h1 h2
    simp [lineWs, refQ, wordK, k2, flds, pieces, glueL, glueK, Qy.get, a1, a2, a3, a4]
  · subst h1 h2
    simp [lineWs, refQ, wordK, k3, flds, pieces, glueL, glueK, Qy.get, a1, a2, a3, a4]
  · subst h3
    simp [lineWs, refQ, wordK, k4, flds, pieces, glueL, glueK, Qy.get, a1, a2, a3, a4, a5]
  · subst h3
    simp [lineWs, refQ, wordK, k5, flds, pieces, glueL, glueK, Qy.get, a1, a2, a3, a4, a5]
  · subst h3
    simp [lineWs, refQ, wordK, k6, flds, pieces, glueL, glueK, Qy.get, a1, a2, a3, a4, a5]
  · simp [lineWs, refQ, wordK, k7, flds, pieces, glueL, glueK, Qy.get, a1, a2, a3, a4, a5, a6]
def refS (s : List UInt8) : Option Qy := if 100 < s.length then none else match refQ (wordsR s) with
  | some q => if q.ok ∧ lineL q = s then some q else none
  | none => none
theorem refS_eq (s : List UInt8) : refS s = parseS s := by
  have h1 : ∀ q, refS s = some q ↔ q.ok ∧ lineL q = s := fun q => by
    constructor
    · intro h
      unfold refS at h
      split at h
      · cases h
      · split at h
        · split at h
          · rename_i h1
            cases Option.some.inj h
            exact h1
          · cases h
        · cases h
    · rintro ⟨h1, h2⟩
      subst h2
      unfold refS
      have := line_len h1
      rw [if_neg (by omega), words_line, ref_line h1]
      simp [h1]
  cases e : parseS s with
  | none =>
    cases e2 : refS s with
    | none => rfl
    | some q => rw [(parseS_iff s q).2 ((h1 q).1 e2)] at e; cases e
  | some q => exact (h1 q).2 ((parseS_iff s q).1 e)
end Go.Proofs.YtcnpncndecjahaaGreatDoor

/-
  Small laws on worlds: what is kept outside a set of blocks; cells behind stores; a map keyed by strings, by its entries.
-/
namespace Go.Proofs.YtcnpncndecjahaaGreatDoor
open Go Go.RowKit

/-- w' is w but for blocks of A and new blocks. -/
structure Keep (A : Nat → Prop) (w w' : World) : Prop where
  os : w'.os = w.os
  tape : w'.tape = w.tape
  output : w'.output = w.output
  size : w.heap.size ≤ w'.heap.size
  block : ∀ k, k < w.heap.size → ¬ A k → w'.heap[k]? = w.heap[k]?

theorem Keep.refl (A : Nat → Prop) (w : World) : Keep A w w := ⟨rfl, rfl, rfl, Nat.le_refl _, fun _ _ _ => rfl⟩
theorem Keep.mono {A B : Nat → Prop} {w w' : World} (h : Keep A w w') (hAB : ∀ k, A k → B k) : Keep B w w' := ⟨h.os, h.tape, h.output, h.size, fun k hk hn => h.block k hk (fun ha => hn (hAB k ha))⟩
/-- Two steps: what the second lets go is new since the first, or of A. -/
theorem Keep.trans' {A B : Nat → Prop} {a b c : World} (h : Keep A a b) (k : Keep B b c) (hB : ∀ i, B i → A i ∨ a.heap.size ≤ i) : Keep A a c :=
  ⟨k.os.trans h.os, k.tape.trans h.tape, k.output.trans h.output, Nat.le_trans h.size k.size, fun i hi hn => (k.block i (Nat.lt_of_lt_of_le hi h.size) (fun hb => (hB i hb).elim hn (fun h' => absurd hi (Nat.not_lt.2 h')))).trans (h.block i hi hn)⟩
theorem Keep.trans {A : Nat → Prop} {a b c : World} (h : Keep A a b) (k : Keep A b c) : Keep A a c := h.trans' k (fun _ => .inl)
theorem Keep.drew {A : Nat → Prop} {a w : World} (h : Keep A a w) : Keep A a w.drew := ⟨h.os, h.tape, h.output, h.size, h.block⟩
theorem Keep.alloc {A : Nat → Prop} {a w : World} (h : Keep A a w) (o : Obj) : Keep A a (w.alloc o) :=
  h.trans ⟨rfl, rfl, rfl, by simp, fun k hk _ => Below.heap_alloc _ _ _ hk⟩
theorem Keep.setCell {A : Nat → Prop} {a w : World} (h : Keep A a w) {p : Addr} (v : Value) (hp : A p.block ∨ a.heap.size ≤ p.block) : Keep A a (w.setCell p v) :=
  h.trans' (B := fun k => k = p.block) ⟨rfl, rfl, rfl, by simp, fun k _ hn => Below.heap_setCell _ _ _ _ hn⟩ (fun i e => e ▸ hp)
theorem Keep.putObj {A : Nat → Prop} {a w : World} (h : Keep A a w) {b : Nat} (o : Obj) (hp : A b ∨ a.heap.size ≤ b) : Keep A a (w.putObj b o) :=
  h.trans' (B := fun k => k = b) ⟨rfl, rfl, rfl, by simp, fun k _ hn => World.putObj_heap_other hn⟩ (fun i e => e ▸ hp)
theorem Keep.grown {A : Nat → Prop} {a w w' : World} {row : Option Nat} (h : Keep A a w) (hg : w.grownBy w' row) (hr : ∀ k, row = some k → A k ∨ a.heap.size ≤ k) : Keep A a w' :=
  h.trans' (B := fun k => row = some k) ⟨hg.os, hg.tape, hg.output, hg.size, fun k hk hn => hg.block k hk (fun e => hn e.symm)⟩ hr
theorem Keep.cell {A : Nat → Prop} {w w' : World} (h : Keep A w w') {b o : Nat} {v : Value} (hc : w.cell? ⟨b, o, none⟩ = some v) (hb : ¬ A b) : w'.cell? ⟨b, o, none⟩ = some v :=
  (World.cell?_of_block (w := w) (a := ⟨b, o, none⟩) (h.block b (World.block_lt_of_cell? _ _ hc) hb)).trans hc
theorem Keep.heap {A : Nat → Prop} {w w' : World} (h : Keep A w w') {b : Nat} {o : Obj} (hc : w.heap[b]? = some o) (hb : ¬ A b) : w'.heap[b]? = some o :=
  (h.block b (Array.getElem?_eq_some_iff.1 hc).1 hb).trans hc
theorem Keep.below {B : Nat} {w w' : World} (h : Keep (fun k => B ≤ k) w w') (hB : B ≤ w.heap.size) : Below B w w' :=
  ⟨h.os, h.tape, h.output, h.size, fun k hk => h.block k (Nat.lt_of_lt_of_le hk hB) (Nat.not_le.2 hk)⟩
theorem Keep.of_below {B : Nat} {w w' : World} (h : Below B w w') : Keep (fun k => B ≤ k) w w' :=
  ⟨h.os, h.tape, h.output, h.size, fun k _ hn => h.block k (Nat.not_le.1 hn)⟩
theorem Keep.of_grown {w w' : World} {row : Option Nat} (hg : w.grownBy w' row) : Keep (fun k => row = some k) w w' :=
  ⟨hg.os, hg.tape, hg.output, hg.size, fun k hk hn => hg.block k hk (fun e => hn e.symm)⟩

theorem cell_set_same {w : World} {b o : Nat} {u v : Value} (h : w.cell? ⟨b, o, none⟩ = some u) : (w.setCell ⟨b, o, none⟩ v).cell? ⟨b, o, none⟩ = some v := World.cell?_setCell_same _ _ _ h
theorem cell_set_ne {w : World} {b o b' o' : Nat} {v : Value} (h : b ≠ b' ∨ o ≠ o') : (w.setCell ⟨b, o, none⟩ v).cell? ⟨b', o', none⟩ = w.cell? ⟨b', o', none⟩ :=
  World.cell?_setCell_other _ _ _ _ (fun e => by cases e; simp at h)
theorem cell_set_off {w : World} {b o b' o' : Nat} {v : Value} (h : o ≠ o') : (w.setCell ⟨b, o, none⟩ v).cell? ⟨b', o', none⟩ = w.cell? ⟨b', o', none⟩ := cell_set_ne (.inr h)
theorem cell_set_blk {w : World} {b o b' o' : Nat} {v : Value} (h : b ≠ b') : (w.setCell ⟨b, o, none⟩ v).cell? ⟨b', o', none⟩ = w.cell? ⟨b', o', none⟩ := cell_set_ne (.inl h)
theorem heap_set_ne {w : World} {a : Addr} {v : Value} {k : Nat} (h : k ≠ a.block) : (w.setCell a v).heap[k]? = w.heap[k]? := Below.heap_setCell _ _ _ _ h
theorem cell_put {w : World} {b r o : Nat} {ob : Obj} (h : b ≠ r) : (w.putObj r ob).cell? ⟨b, o, none⟩ = w.cell? ⟨b, o, none⟩ := World.cell?_of_block (w := w) (a := ⟨b, o, none⟩) (World.putObj_heap_other h)
theorem frozen_put {w : World} {b r o : Nat} {ob : Obj} (h : b ≠ r) : (w.putObj r ob).frozen? ⟨b, o, none⟩ = w.frozen? ⟨b, o, none⟩ := World.frozen?_of_block (w := w) (a := ⟨b, o, none⟩) (World.putObj_heap_other h)

/-! ### a map by the relation of its keys to its elements -/

/-- Block b of w is a map; R says which key has which element. -/
def MapRel (P : Program) (kt : TypeId) (w : World) (b : Nat) (R : Value → Value → Prop) : Prop :=
  ∃ es clock, w.heap[b]? = some (.map es clock) ∧ (∀ e ∈ es.toList, ∃ l, keyOf P kt e.key = some l) ∧ (es.toList.map (·.key)).Nodup ∧
    (∀ k v, R k v ↔ ∃ e ∈ es.toList, e.key = k ∧ e.val = v) ∧ (es.toList.map (·.born)).Nodup ∧ ∀ e ∈ es.toList, e.born < clock

theorem MapRel.of_heap {P : Program} {kt : TypeId} {w w' : World} {b : Nat} {R : Value → Value → Prop} (h : MapRel P kt w b R) (hh : w'.heap[b]? = w.heap[b]?) : MapRel P kt w' b R := by
  obtain ⟨es, clock, hb, r⟩ := h
  exact ⟨es, clock, hh.trans hb, r⟩

theorem MapRel.lt {P : Program} {kt : TypeId} {w : World} {b : Nat} {R : Value → Value → Prop} (h : MapRel P kt w b R) : b < w.heap.size := by
  obtain ⟨es, clock, hb, _⟩ := h
  exact (Array.getElem?_eq_some_iff.1 hb).1

theorem MapRel.not_cell {P : Program} {kt : TypeId} {w : World} {b : Nat} {R : Value → Value → Prop} (h : MapRel P kt w b R) {o : Nat} {v : Value} {b' : Nat} (hc : w.cell? ⟨b', o, none⟩ = some v) : b' ≠ b := by
  obtain ⟨es, clock, hb, _⟩ := h
  rintro rfl
  simp [World.cell?, hb] at hc

theorem MapRel.congr {P : Program} {kt : TypeId} {w : World} {b : Nat} {R R' : Value → Value → Prop} (h : MapRel P kt w b R) (hR : ∀ k v, R' k v ↔ R k v) : MapRel P kt w b R' := by
  obtain ⟨es, clock, hb, hk, hn, hr, hbn, hbc⟩ := h
  exact ⟨es, clock, hb, hk, hn, fun k v => (hR k v).trans (hr k v), hbn, hbc⟩

theorem MapRel.made (P : Program) (kt : TypeId) (w : World) : MapRel P kt (w.alloc (.map #[] 0)) w.heap.size (fun _ _ => False) :=
  ⟨#[], 0, World.alloc_heap_new w _, by simp, by simp, by simp, by simp, by simp⟩

section
variable {P : Program} {kt et t : TypeId} {w : World} {b : Nat} {R : Value → Value → Prop}
open Go.Maps (Keyed)

theorem nodup_idx {α β : Type} {f : α → β} {l : List α} (hn : (l.map f).Nodup) {i j : Nat} {a b : α} (h1 : l[i]? = some a) (h2 : l[j]? = some b) (hab : f a = f b) : i = j := by
  induction l generalizing i j with
  | nil => simp at h1
  | cons x r ih =>
    simp only [List.map_cons, List.nodup_cons, List.mem_map, not_exists, not_and] at hn
    cases i with
    | zero =>
      cases j with
      | zero => rfl
      | succ j =>
        simp only [List.getElem?_cons_zero, Option.some.injEq] at h1
        simp only [List.getElem?_cons_succ] at h2
        subst h1
        exact absurd hab.symm (hn.1 _ (List.mem_of_getElem? h2))
    | succ i =>
      cases j with
      | zero =>
        simp only [List.getElem?_cons_zero, Option.some.injEq] at h2
        simp only [List.getElem?_cons_succ] at h1
        subst h2
        exact absurd hab (hn.1 _ (List.mem_of_getElem? h1))
      | succ j =>
        simp only [List.getElem?_cons_succ] at h1 h2
        exact congrArg (· + 1) (ih hn.2 h1 h2)

theorem nodup_key_eq {es : List MapEntry} (hn : (es.map (·.key)).Nodup) {e e' : MapEntry} (h : e ∈ es) (h' : e' ∈ es) (hk : e.key = e'.key) : e = e' := by
  obtain ⟨i, hi⟩ := List.mem_iff_getElem?.1 h
  obtain ⟨j, hj⟩ := List.mem_iff_getElem?.1 h'
  have := nodup_idx hn hi hj hk
  subst this
  rw [hi] at hj
  exact Option.some.inj hj

theorem MapRel.look (h : MapRel P kt w b R) (K : Keyed P kt) (ht : P.underlying t = some (.map kt et)) {z : Value} (hz : (zeroValue et).run P w = .ok z w) (c : Bool) {key : Value} {kl : Lit} (hkey : keyOf P kt key = some kl) :
    ((∀ v, ¬ R key v) ∧ (Instr.lookup t (.map (some b)) key c).run P w = .ok (if c then .tuple #[z, .bool false] else z) w) ∨
    (∃ v, R key v ∧ (Instr.lookup t (.map (some b)) key c).run P w = .ok (if c then .tuple #[v, .bool true] else v) w) := by
  obtain ⟨es, clock, hb, hk, hn, hr, hbn, hbc⟩ := h
  rcases K.find w hkey es.toList hk with ⟨h1, h2⟩ | ⟨j, e0, h1, h2, h3⟩
  · exact .inl ⟨fun v hv => by obtain ⟨e, he, e1, _⟩ := (hr _ _).1 hv; exact h2 e he e1,
      by simp [Instr.lookup, run_underlying ht, MapKept.run_getObj_map hb, K.check w _ hkey, h1, hz, Result.andThen]⟩
  · exact .inr ⟨e0.val, (hr _ _).2 ⟨e0, List.mem_of_getElem? h2, h3, rfl⟩,
      by simp [Instr.lookup, run_underlying ht, MapKept.run_getObj_map hb, K.check w _ hkey, h1, Result.andThen]⟩

theorem MapRel.fn (h : MapRel P kt w b R) {k v v' : Value} (h1 : R k v) (h2 : R k v') : v = v' := by
  obtain ⟨es, clock, hb, hk, hn, hr, hbn, hbc⟩ := h
  obtain ⟨e, he, e1, rfl⟩ := (hr _ _).1 h1
  obtain ⟨e', he', e1', rfl⟩ := (hr _ _).1 h2
  rw [nodup_key_eq hn he he' (e1.trans e1'.symm)]

theorem MapRel.update (h : MapRel P kt w b R) (K : Keyed P kt) (ht : P.underlying t = some (.map kt et)) {key : Value} {kl : Lit} (hkey : keyOf P kt key = some kl) (val : Value) :
    ∃ es' clock', (Instr.mapUpdate t (.map (some b)) key val).run P w = .ok () (w.putObj b (.map es' clock')) ∧
      MapRel P kt (w.putObj b (.map es' clock')) b (fun k v => (k = key ∧ v = val) ∨ (k ≠ key ∧ R k v)) := by
  obtain ⟨es, clock, hb, hk, hn, hr, hbn, hbc⟩ := h
  have hlt := (Array.getElem?_eq_some_iff.1 hb).1
  rcases K.find w hkey es.toList hk with ⟨h1, h2⟩ | ⟨j, e0, h1, h2, h3⟩
  · refine ⟨es.push ⟨key, val, clock⟩, clock + 1, ?_, es.push ⟨key, val, clock⟩, clock + 1, World.putObj_heap_same hlt, ?_, ?_, ?_, ?_, ?_⟩
    · simp [Instr.mapUpdate, run_underlying ht, MapKept.run_getObj_map hb, K.check w false hkey, h1, MapKept.run_setObj_map _ hb, Result.andThen, World.putObj]
    · intro e he
      simp only [Array.toList_push, List.mem_append, List.mem_singleton] at he
      rcases he with he | rfl
      · exact hk e he
      · exact ⟨kl, hkey⟩
    · simp only [Array.toList_push, List.map_append, List.map_cons, List.map_nil]
      rw [List.nodup_append]
      refine ⟨hn, by simp, ?_⟩
      rintro a ha c hc rfl
      simp only [List.mem_cons, List.not_mem_nil, or_false] at hc
      obtain ⟨e, he, rfl⟩ := List.mem_map.1 ha
      exact h2 e he hc
    · intro k v
      simp only [Array.toList_push, List.mem_append, List.mem_singleton]
      constructor
      · rintro (⟨rfl, rfl⟩ | ⟨hne, hR⟩)
        · exact ⟨_, .inr rfl, rfl, rfl⟩
        · obtain ⟨e, he, r⟩ := (hr _ _).1 hR
          exact ⟨e, .inl he, r⟩
      · rintro ⟨e, he | rfl, rfl, rfl⟩
        · exact .inr ⟨h2 e he, (hr _ _).2 ⟨e, he, rfl, rfl⟩⟩
        · exact .inl ⟨rfl, rfl⟩
    · simp only [Array.toList_push, List.map_append, List.map_cons, List.map_nil]
      rw [List.nodup_append]
      refine ⟨hbn, by simp, ?_⟩
      rintro a ha c hc rfl
      simp only [List.mem_cons, List.not_mem_nil, or_false] at hc
      obtain ⟨e, he, rfl⟩ := List.mem_map.1 ha
      have := hbc e he
      omega
    · intro e he
      simp only [Array.toList_push, List.mem_append, List.mem_singleton] at he
      rcases he with he | rfl
      · have := hbc e he; omega
      · simp
  · have hjl : j < es.toList.length := (List.getElem?_eq_some_iff.1 h2).1
    have hjs : j < es.size := by simpa using hjl
    have hj : es[j]? = some e0 := by simpa using h2
    have hmod : (es.modify j (fun e => { e with key, val := val })).toList = es.toList.modify j (fun e => { e with key, val := val }) := by simp
    have hm0 : e0 ∈ es.toList := List.mem_of_getElem? h2
    have hmem : ∀ e, e ∈ (es.modify j (fun e => { e with key, val := val })).toList ↔ (e = { e0 with key, val := val } ∨ (e ∈ es.toList ∧ e.key ≠ key)) := by
      intro e
      rw [hmod]
      constructor
      · intro he
        obtain ⟨i, hi⟩ := List.mem_iff_getElem?.1 he
        rw [List.getElem?_modify] at hi
        by_cases hij : j = i
        · subst hij
          simp [h2] at hi
          exact .inl hi.symm
        · have hi' : es.toList[i]? = some e := by simpa [hij] using hi
          exact .inr ⟨List.mem_of_getElem? hi', fun hek => hij (nodup_idx hn h2 hi' (h3.trans hek.symm))⟩
      · rintro (rfl | ⟨he, hek⟩)
        · exact List.mem_iff_getElem?.2 ⟨j, by rw [List.getElem?_modify]; simp [h2]⟩
        · obtain ⟨i, hi⟩ := List.mem_iff_getElem?.1 he
          refine List.mem_iff_getElem?.2 ⟨i, ?_⟩
          rw [List.getElem?_modify]
          by_cases hij : j = i
          · subst hij
            rw [h2] at hi
            cases hi
            exact absurd h3 hek
          · simp [hij, hi]
    refine ⟨es.modify j (fun e => { e with key, val := val }), clock, ?_, es.modify j (fun e => { e with key, val := val }), clock, World.putObj_heap_same hlt, ?_, ?_, ?_, ?_, ?_⟩
    · simp [Instr.mapUpdate, run_underlying ht, MapKept.run_getObj_map hb, K.check w false hkey, h1, hj, h3, K.stays w hkey, MapKept.run_setObj_map _ hb, Result.andThen, World.putObj]
    · intro e he
      rcases (hmem e).1 he with rfl | ⟨he, _⟩
      · exact ⟨kl, hkey⟩
      · exact hk e he
    · have : (es.modify j (fun e => { e with key, val := val })).toList.map (·.key) = es.toList.map (·.key) := by
        rw [hmod]
        apply List.ext_getElem?
        intro i
        simp only [List.getElem?_map, List.getElem?_modify]
        by_cases hij : j = i
        · subst hij; simp [h2, h3]
        · simp [hij]
      rw [this]; exact hn
    · intro k v
      constructor
      · rintro (⟨rfl, rfl⟩ | ⟨hne, hR⟩)
        · exact ⟨_, (hmem _).2 (.inl rfl), rfl, rfl⟩
        · obtain ⟨e, he, rfl, rfl⟩ := (hr _ _).1 hR
          exact ⟨e, (hmem _).2 (.inr ⟨he, hne⟩), rfl, rfl⟩
      · rintro ⟨e, he, rfl, rfl⟩
        rcases (hmem e).1 he with rfl | ⟨he, hne⟩
        · exact .inl ⟨rfl, rfl⟩
        · exact .inr ⟨hne, (hr _ _).2 ⟨e, he, rfl, rfl⟩⟩
    · have : (es.modify j (fun e => { e with key, val := val })).toList.map (·.born) = es.toList.map (·.born) := by
        rw [hmod]
        apply List.ext_getElem?
        intro i
        simp only [List.getElem?_map, List.getElem?_modify]
        by_cases hij : j = i
        · subst hij; simp [h2]
        · simp [hij]
      rw [this]; exact hbn
    · intro e he
      rcases (hmem e).1 he with rfl | ⟨he, _⟩
      · exact hbc e0 hm0
      · exact hbc e he

theorem MapRel.delete (h : MapRel P kt w b R) (K : Keyed P kt) (ht : P.underlying t = some (.map kt et)) {key : Value} {kl : Lit} (hkey : keyOf P kt key = some kl) (ty : TypeId) :
    ∃ es' clock', (Builtin.delete_ #[t, kt] ty #[.map (some b), key]).run P w = .ok (.tuple #[]) (w.putObj b (.map es' clock')) ∧
      MapRel P kt (w.putObj b (.map es' clock')) b (fun k v => k ≠ key ∧ R k v) := by
  obtain ⟨es, clock, hb, hk, hn, hr, hbn, hbc⟩ := h
  have hlt := (Array.getElem?_eq_some_iff.1 hb).1
  rcases K.find w hkey es.toList hk with ⟨h1, h2⟩ | ⟨j, e0, h1, h2, h3⟩
  · refine ⟨es, clock, ?_, es, clock, World.putObj_heap_same hlt, hk, hn, ?_, hbn, hbc⟩
    · simp [Builtin.delete_, run_underlying ht, MapKept.run_getObj_map hb, K.check w _ hkey, h1, MapKept.run_setObj_map _ hb, Result.andThen, World.putObj]
    · intro k v
      show k ≠ key ∧ R k v ↔ _
      rw [hr]
      exact ⟨fun h => h.2, fun h => ⟨fun e => by obtain ⟨x, hx, e1, _⟩ := h; exact h2 x hx (e1.trans e), h⟩⟩
  · have hjl : j < es.toList.length := (List.getElem?_eq_some_iff.1 h2).1
    have hjs : j < es.size := by simpa using hjl
    have hsub : (es.eraseIdxIfInBounds j).toList = es.toList.eraseIdx j := by
      unfold Array.eraseIdxIfInBounds
      rw [dif_pos hjs]
      simp
    have hm0 : e0 ∈ es.toList := List.mem_of_getElem? h2
    have hmem : ∀ e, e ∈ (es.eraseIdxIfInBounds j).toList ↔ e ∈ es.toList ∧ e.key ≠ key := by
      intro e
      rw [hsub]
      constructor
      · intro he
        obtain ⟨i, hi⟩ := List.mem_eraseIdx_iff_getElem?.1 he
        exact ⟨List.mem_of_getElem? hi.2, fun hek => hi.1 (nodup_idx hn hi.2 h2 (hek.trans h3.symm))⟩
      · rintro ⟨he, hek⟩
        obtain ⟨i, hi⟩ := List.mem_iff_getElem?.1 he
        refine List.mem_eraseIdx_iff_getElem?.2 ⟨i, fun e => ?_, hi⟩
        subst e
        rw [h2] at hi
        cases hi
        exact hek h3
    refine ⟨es.eraseIdxIfInBounds j, clock, ?_, es.eraseIdxIfInBounds j, clock, World.putObj_heap_same hlt, ?_, ?_, ?_, ?_, ?_⟩
    · simp [Builtin.delete_, run_underlying ht, MapKept.run_getObj_map hb, K.check w _ hkey, h1, MapKept.run_setObj_map _ hb, Result.andThen, World.putObj]
    · intro e he
      exact hk e ((hmem e).1 he).1
    · rw [hsub]
      exact List.Nodup.sublist ((List.eraseIdx_sublist _ _).map _) hn
    · intro k v
      show k ≠ key ∧ R k v ↔ _
      rw [hr]
      constructor
      · rintro ⟨hne, e, he, rfl, rfl⟩
        exact ⟨e, (hmem e).2 ⟨he, hne⟩, rfl, rfl⟩
      · rintro ⟨e, he, rfl, rfl⟩
        exact ⟨((hmem e).1 he).2, e, ((hmem e).1 he).1, rfl, rfl⟩
    · rw [hsub]
      exact List.Nodup.sublist ((List.eraseIdx_sublist _ _).map _) hbn
    · intro e he
      exact hbc e ((hmem e).1 he).1
end

end Go.Proofs.YtcnpncndecjahaaGreatDoor

/-
  A range over a map, by what is still to come.
-/
namespace Go.Proofs.YtcnpncndecjahaaGreatDoor
open Go Go.RowKit
open Go.ChangeMaps (setBlock)

/-- The iterator at r is under way over the map at b: the entries 'left' are still to come (key and value). -/
def Ranging (P : Program) (kt : TypeId) (w : World) (b r : Nat) (R : Value → Value → Prop) (left : List (Value × Value)) : Prop :=
  ∃ es clock since seen c0, w.heap[b]? = some (.map es clock) ∧ (∀ e ∈ es.toList, ∃ l, keyOf P kt e.key = some l) ∧ (es.toList.map (·.key)).Nodup ∧
    (∀ k v, R k v ↔ ∃ e ∈ es.toList, e.key = k ∧ e.val = v) ∧ (es.toList.map (·.born)).Nodup ∧ (∀ e ∈ es.toList, e.born < clock) ∧
    w.heap[r]? = some (.mapIter (some b) since seen c0) ∧ (∀ e ∈ es.toList, e.born < since) ∧ since ≤ c0 ∧ since ≤ clock ∧
    ((leftOf es seen).toList.map (fun e => (e.key, e.val))).Perm left

theorem Ranging.rel {P : Program} {kt : TypeId} {w : World} {b r : Nat} {R : Value → Value → Prop} {left : List (Value × Value)} (h : Ranging P kt w b r R left) : MapRel P kt w b R := by
  obtain ⟨es, clock, since, seen, c0, h1, h2, h3, h4, h5, h6, _⟩ := h
  exact ⟨es, clock, h1, h2, h3, h4, h5, h6⟩
theorem Ranging.of_heap {P : Program} {kt : TypeId} {w w' : World} {b r : Nat} {R : Value → Value → Prop} {left : List (Value × Value)} (h : Ranging P kt w b r R left) (hb : w'.heap[b]? = w.heap[b]?) (hr : w'.heap[r]? = w.heap[r]?) : Ranging P kt w' b r R left := by
  obtain ⟨es, clock, since, seen, c0, h1, h2, h3, h4, h5, h6, h7, r⟩ := h
  exact ⟨es, clock, since, seen, c0, hb.trans h1, h2, h3, h4, h5, h6, hr.trans h7, r⟩
theorem Ranging.lt {P : Program} {kt : TypeId} {w : World} {b r : Nat} {R : Value → Value → Prop} {left : List (Value × Value)} (h : Ranging P kt w b r R left) : r < w.heap.size ∧ b < w.heap.size ∧ r ≠ b := by
  obtain ⟨es, clock, since, seen, c0, h1, h2, h3, h4, h5, h6, h7, _⟩ := h
  refine ⟨(Array.getElem?_eq_some_iff.1 h7).1, (Array.getElem?_eq_some_iff.1 h1).1, fun e => ?_⟩
  subst e
  rw [h1] at h7
  cases h7

theorem Ranging.left_eq {P : Program} {kt : TypeId} {w : World} {b r : Nat} {R : Value → Value → Prop} {left : List (Value × Value)} (h : Ranging P kt w b r R left) : w.rangeLeft b r = left.length := by
  obtain ⟨es, clock, since, seen, c0, h1, h2, h3, h4, h5, h6, h7, h8, h9, h10, h11⟩ := h
  unfold World.rangeLeft
  rw [h1, h7]
  have := h11.length_eq
  simpa using this

theorem Ranging.perm {P : Program} {kt : TypeId} {w : World} {b r : Nat} {R : Value → Value → Prop} {left left' : List (Value × Value)} (h : Ranging P kt w b r R left) (hp : left.Perm left') : Ranging P kt w b r R left' := by
  obtain ⟨es, clock, since, seen, c0, h1, h2, h3, h4, h5, h6, h7, h8, h9, h10, h11⟩ := h
  exact ⟨es, clock, since, seen, c0, h1, h2, h3, h4, h5, h6, h7, h8, h9, h10, h11.trans hp⟩

/-- range begins: all entries are to come. -/
theorem MapRel.range {P : Program} {kt et t : TypeId} {w : World} {b : Nat} {R : Value → Value → Prop} (h : MapRel P kt w b R) (ht : P.underlying t = some (.map kt et)) :
    ∃ ob left, (Instr.range t (.map (some b))).run P w = .ok (.pointer (some ⟨w.heap.size, 0, none⟩)) (w.alloc ob) ∧ Ranging P kt (w.alloc ob) b w.heap.size R left ∧ (left.map (·.1)).Nodup ∧ ∀ k v, (k, v) ∈ left ↔ R k v := by
  obtain ⟨es, clock, hb, hk, hn, hr, hbn, hbc⟩ := h
  have hlt := (Array.getElem?_eq_some_iff.1 hb).1
  have hl : leftOf es #[] = es := by unfold leftOf; simp
  refine ⟨.mapIter (some b) clock #[] clock, es.toList.map (fun e => (e.key, e.val)), ?_, ⟨es, clock, clock, #[], clock, ?_, hk, hn, hr, hbn, hbc, World.alloc_heap_new _ _, hbc, Nat.le_refl _, Nat.le_refl _, by rw [hl]⟩, ?_, ?_⟩
  · simp [Instr.range, run_underlying ht, MapKept.run_getObj_map hb, Result.andThen]
  · rw [Below.heap_alloc _ _ _ hlt]; exact hb
  · rw [List.map_map]; exact hn
  · intro k v
    rw [hr, List.mem_map]
    constructor
    · rintro ⟨e, he, h⟩
      cases h
      exact ⟨e, he, rfl, rfl⟩
    · rintro ⟨e, he, rfl, rfl⟩
      exact ⟨e, he, rfl⟩

theorem leftOf_push {es : Array MapEntry} {seen : Array Nat} {e : MapEntry} (hn : (es.toList.map (·.born)).Nodup) (he : e ∈ (leftOf es seen).toList) :
    ((leftOf es seen).toList.map (fun x => (x.key, x.val))).Perm ((e.key, e.val) :: (leftOf es (seen.push e.born)).toList.map (fun x => (x.key, x.val))) := by
  have e1 : ∀ s : Array Nat, (leftOf es s).toList = es.toList.filter (fun x => !s.contains x.born) := fun s => by unfold leftOf; simp
  rw [e1] at he
  rw [e1, e1]
  have hmem := (List.mem_filter.1 he).1
  obtain ⟨X, Y, hXY⟩ := List.append_of_mem hmem
  have hpred := (List.mem_filter.1 he).2
  rw [hXY] at hn ⊢
  simp only [List.map_append, List.map_cons] at hn
  rw [List.nodup_append, List.nodup_cons] at hn
  have hfil : ∀ Z : List MapEntry, (∀ x ∈ Z, x.born ≠ e.born) → Z.filter (fun x => !(seen.push e.born).contains x.born) = Z.filter (fun x => !seen.contains x.born) := fun Z hZ => by
    apply List.filter_congr
    intro x hx
    have := hZ x hx
    simp [this]
  have hX : ∀ x ∈ X, x.born ≠ e.born := fun x hx h => hn.2.2 x.born (List.mem_map_of_mem hx) e.born (by simp) h
  have hY : ∀ x ∈ Y, x.born ≠ e.born := fun x hx h => hn.2.1.1 (by rw [← h]; exact List.mem_map_of_mem hx)
  simp only [List.filter_append, List.map_append]
  have e2 : (e :: Y).filter (fun x => !seen.contains x.born) = e :: Y.filter (fun x => !seen.contains x.born) := List.filter_cons_of_pos (p := fun x : MapEntry => !seen.contains x.born) hpred
  have e3 : (e :: Y).filter (fun x => !(seen.push e.born).contains x.born) = Y.filter (fun x => !(seen.push e.born).contains x.born) := List.filter_cons_of_neg (p := fun x : MapEntry => !(seen.push e.born).contains x.born) (by simp)
  rw [hfil X hX, e2, e3, hfil Y hY]
  simp only [List.map_cons]
  exact List.perm_middle

/-- A step: nothing is left, or one of those that are left comes. -/
theorem Ranging.next {P : Program} {kt : TypeId} {w : World} {b r : Nat} {R : Value → Value → Prop} {left : List (Value × Value)} (h : Ranging P kt w b r R left) (ty : TypeId) :
    (left = [] ∧ (Instr.next (.pointer (some ⟨r, 0, none⟩)) false ty).run P w = .ok (.tuple #[.bool false]) w) ∨
    ∃ k v left' w', left.Perm ((k, v) :: left') ∧ R k v ∧ (Instr.next (.pointer (some ⟨r, 0, none⟩)) false ty).run P w = .ok (.tuple #[.bool true, k, v]) w' ∧ Ranging P kt w' b r R left' ∧ Keep (fun i => i = r) w w' ∧ w'.heap.size = w.heap.size ∧
      (Instr.entry (.pointer (some ⟨r, 0, none⟩))).run P w' = .ok (.tuple #[k, v]) w' := by
  have hne := h.lt
  obtain ⟨es, clock, since, seen, c0, h1, h2, h3, h4, h5, h6, h7, h8, h9, h10, h11⟩ := h
  rcases run_next_at (P := P) w ty r b since c0 seen es clock h7 h1 h8 h9 with ⟨h0, hrun⟩ | ⟨e, he, w1, hw1, hrun⟩
  · left
    refine ⟨?_, hrun⟩
    have : (leftOf es seen).toList = [] := by
      apply List.eq_nil_of_length_eq_zero
      simpa using h0
    rw [this] at h11
    exact List.perm_nil.1 h11.symm
  · right
    have hmem : e ∈ es.toList := by unfold leftOf at he; simp at he ⊢; exact he.1
    have hb1 : w1.heap = w.heap := by rcases hw1 with rfl | rfl <;> rfl
    have hset : ∀ i, i ≠ r → (setBlock w1 r (.mapIter (some b) since (seen.push e.born) clock)).heap[i]? = w.heap[i]? := fun i hi => by
      rw [← hb1]; simp [setBlock, Ne.symm hi]
    have hsz : (setBlock w1 r (.mapIter (some b) since (seen.push e.born) clock)).heap.size = w.heap.size := by simp [setBlock, hb1]
    have hr' : (setBlock w1 r (.mapIter (some b) since (seen.push e.born) clock)).heap[r]? = some (.mapIter (some b) since (seen.push e.born) clock) := by
      have := hne.1
      simp [setBlock, hb1, this]
    have hb' := (hset b (Ne.symm hne.2.2)).trans h1
    refine ⟨e.key, e.val, _, setBlock w1 r (.mapIter (some b) since (seen.push e.born) clock), h11.symm.trans (leftOf_push h5 he), (h4 _ _).2 ⟨e, hmem, rfl, rfl⟩, hrun, ⟨es, clock, since, _, clock, hb', h2, h3, h4, h5, h6, hr', h8, h10, h10, List.Perm.refl _⟩, ⟨?_, ?_, ?_, by rw [hsz]; exact Nat.le_refl _, fun i _ hi => hset i hi⟩, hsz, ?_⟩
    · rcases hw1 with rfl | rfl <;> rfl
    · rcases hw1 with rfl | rfl <;> rfl
    · rcases hw1 with rfl | rfl <;> rfl
    · exact run_entry_at _ r b since seen es clock e hr' hb' hmem h5
end Go.Proofs.YtcnpncndecjahaaGreatDoor

/-
  A map's length; an update while a range is under way; regions whose callees lay blocks.
-/
namespace Go.Proofs.YtcnpncndecjahaaGreatDoor
open Go Go.RowKit
open Go.Maps (Keyed)

theorem filter_modify {α : Type} {p : α → Bool} {f : α → α} : ∀ (l : List α) (j : Nat), (∀ x, l[j]? = some x → p x = false ∧ p (f x) = false) → (l.modify j f).filter p = l.filter p
  | [], j, _ => by cases j <;> rfl
  | x :: r, 0, h => by
    obtain ⟨h1, h2⟩ := h x rfl
    rw [List.modify_zero_cons, List.filter_cons, List.filter_cons, h1, h2]; simp
  | x :: r, j + 1, h => by
    rw [List.modify_succ_cons, List.filter_cons, List.filter_cons, filter_modify r j (fun y hy => h y (by simpa using hy))]

/-- An entry that has come already is given a new value. -/
theorem Ranging.update {P : Program} {kt et t : TypeId} {w : World} {b r : Nat} {R : Value → Value → Prop} {left : List (Value × Value)} (h : Ranging P kt w b r R left) (K : Keyed P kt) (ht : P.underlying t = some (.map kt et)) {key : Value} {kl : Lit} (hkey : keyOf P kt key = some kl) (val : Value)
    {v0 : Value} (hv : R key v0) (hl : ∀ p ∈ left, p.1 ≠ key) {w' : World} (hrun : (Instr.mapUpdate t (.map (some b)) key val).run P w = .ok () w') : Ranging P kt w' b r (fun k v => (k = key ∧ v = val) ∨ (k ≠ key ∧ R k v)) left := by
  have hne := h.lt
  obtain ⟨es, clock, since, seen, c0, hb, hk, hn, hr, hbn, hbc, h7, h8, h9, h10, h11⟩ := h
  have hlt := hne.2.1
  rcases K.find w hkey es.toList hk with ⟨h1, h2⟩ | ⟨j, e0, h1, h2, h3⟩
  · obtain ⟨e, he, e1, _⟩ := (hr _ _).1 hv
    exact absurd e1 (h2 e he)
  · have hjl : j < es.toList.length := (List.getElem?_eq_some_iff.1 h2).1
    have hj : es[j]? = some e0 := by simpa using h2
    have hmod : (es.modify j (fun e => { e with key, val := val })).toList = es.toList.modify j (fun e => { e with key, val := val }) := by simp
    have hm0 : e0 ∈ es.toList := List.mem_of_getElem? h2
    have hmem : ∀ e, e ∈ (es.modify j (fun e => { e with key, val := val })).toList ↔ (e = { e0 with key, val := val } ∨ (e ∈ es.toList ∧ e.key ≠ key)) := by
      intro e
      rw [hmod]
      constructor
      · intro he
        obtain ⟨i, hi⟩ := List.mem_iff_getElem?.1 he
        rw [List.getElem?_modify] at hi
        by_cases hij : j = i
        · subst hij
          simp [h2] at hi
          exact .inl hi.symm
        · have hi' : es.toList[i]? = some e := by simpa [hij] using hi
          exact .inr ⟨List.mem_of_getElem? hi', fun hek => hij (nodup_idx hn h2 hi' (h3.trans hek.symm))⟩
      · rintro (rfl | ⟨he, hek⟩)
        · exact List.mem_iff_getElem?.2 ⟨j, by rw [List.getElem?_modify]; simp [h2]⟩
        · obtain ⟨i, hi⟩ := List.mem_iff_getElem?.1 he
          refine List.mem_iff_getElem?.2 ⟨i, ?_⟩
          rw [List.getElem?_modify]
          by_cases hij : j = i
          · subst hij
            rw [h2] at hi
            cases hi
            exact absurd h3 hek
          · simp [hij, hi]
    have hrun' : (Instr.mapUpdate t (.map (some b)) key val).run P w = .ok () (w.putObj b (.map (es.modify j (fun e => { e with key, val := val })) clock)) := by
      simp [Instr.mapUpdate, run_underlying ht, MapKept.run_getObj_map hb, K.check w false hkey, h1, hj, h3, K.stays w hkey, MapKept.run_setObj_map _ hb, Result.andThen, World.putObj]
    rw [hrun'] at hrun
    cases hrun
    refine ⟨es.modify j (fun e => { e with key, val := val }), clock, since, seen, c0, World.putObj_heap_same hlt, ?_, ?_, ?_, ?_, ?_, ?_, ?_, h9, h10, ?_⟩
    · intro e he
      rcases (hmem e).1 he with rfl | ⟨he, _⟩
      · exact ⟨kl, hkey⟩
      · exact hk e he
    · have : (es.modify j (fun e => { e with key, val := val })).toList.map (·.key) = es.toList.map (·.key) := by
        rw [hmod]
        apply List.ext_getElem?
        intro i
        simp only [List.getElem?_map, List.getElem?_modify]
        by_cases hij : j = i
        · subst hij; simp [h2, h3]
        · simp [hij]
      rw [this]; exact hn
    · intro k v
      constructor
      · rintro (⟨rfl, rfl⟩ | ⟨hne, hR⟩)
        · exact ⟨_, (hmem _).2 (.inl rfl), rfl, rfl⟩
        · obtain ⟨e, he, rfl, rfl⟩ := (hr _ _).1 hR
          exact ⟨e, (hmem _).2 (.inr ⟨he, hne⟩), rfl, rfl⟩
      · rintro ⟨e, he, rfl, rfl⟩
        rcases (hmem e).1 he with rfl | ⟨he, hne⟩
        · exact .inl ⟨rfl, rfl⟩
        · exact .inr ⟨hne, (hr _ _).2 ⟨e, he, rfl, rfl⟩⟩
    · have : (es.modify j (fun e => { e with key, val := val })).toList.map (·.born) = es.toList.map (·.born) := by
        rw [hmod]
        apply List.ext_getElem?
        intro i
        simp only [List.getElem?_map, List.getElem?_modify]
        by_cases hij : j = i
        · subst hij; simp [h2]
        · simp [hij]
      rw [this]; exact hbn
    · intro e he
      rcases (hmem e).1 he with rfl | ⟨he, _⟩
      · exact hbc e0 hm0
      · exact hbc e he
    · rw [World.putObj_heap_other hne.2.2]; exact h7
    · intro e he
      rcases (hmem e).1 he with rfl | ⟨he, _⟩
      · exact h8 e0 hm0
      · exact h8 e he
    · have e1 : ∀ (z : Array MapEntry) (s : Array Nat), (leftOf z s).toList = z.toList.filter (fun x => !s.contains x.born) := fun z s => by unfold leftOf; simp
      rw [e1, hmod, filter_modify, ← e1]
      · exact h11
      · intro x hx
        rw [h2] at hx
        cases hx
        have : (!seen.contains e0.born) = false := by
          cases hc : (!seen.contains e0.born) with
          | false => rfl
          | true =>
            have hin : e0 ∈ (leftOf es seen).toList := by rw [e1]; exact List.mem_filter.2 ⟨hm0, hc⟩
            exact absurd h3 (hl (e0.key, e0.val) (h11.mem_iff.1 (List.mem_map_of_mem (f := fun e : MapEntry => (e.key, e.val)) hin)))
        exact ⟨this, this⟩

/-- The length of a map whose entries are known. -/
theorem MapRel.len {P : Program} {kt et t : TypeId} {w : World} {b : Nat} {R : Value → Value → Prop} (h : MapRel P kt w b R) (ht : P.underlying t = some (.map kt et)) :
    ∃ left : List (Value × Value), (left.map (·.1)).Nodup ∧ (∀ k v, (k, v) ∈ left ↔ R k v) ∧ ∀ ty, (Builtin.len_ #[t] ty #[.map (some b)]).run P w = .ok (.int .i64 left.length) w := by
  obtain ⟨es, clock, hb, hk, hn, hr, hbn, hbc⟩ := h
  refine ⟨es.toList.map (fun e => (e.key, e.val)), ?_, ?_, fun ty => ?_⟩
  · rw [List.map_map]; exact hn
  · intro k v
    rw [hr, List.mem_map]
    constructor
    · rintro ⟨e, he, h⟩
      cases h
      exact ⟨e, he, rfl, rfl⟩
    · rintro ⟨e, he, rfl, rfl⟩
      exact ⟨e, he, rfl⟩
  · simp [Builtin.len_, run_underlying ht, MapKept.run_getObj_map hb, goInt, Result.andThen]

/-- A world that has kept all blocks. -/
structure KW (w : World) where
  val : World
  k : Keep (fun _ => False) w val

instance (w : World) : Nonempty (KW w) := ⟨⟨w, Keep.refl _ w⟩⟩
theorem wp_region_quiet_kept {P : Program} {id : Nat} {Q : Exit → Act → World → Prop} {a : Act} {w : World} {l : List Oper} (hm : P.follows .mixedOrders = true) (hB : Region.lexB .any l.toArray = true)
    (h : wpQuiet P l.toArray (fun w' => ∃ p : KW w, w' = p.val) (fun a' => ∀ w', (∃ p : KW w, w' = p.val) → Q .normal a' w') l a) : (Code.region id l.toArray true).wp P Q a w :=
  wp_region_quiet (C := fun w' => ∃ p : KW w, w' = p.val) hm hB ⟨⟨w.drew, (Keep.refl _ w).drew⟩, rfl⟩ (by simpa using h)
theorem Calls.kept_of {P : Program} {f : FuncId} {args : Array Value} {w : World} {p : KW w} {v : Value}
    (h : Calls P f args p.val fun e w' => e = .returned v ∧ Keep (fun _ => False) p.val w') : Calls P f args p.val fun e w'' => e = .returned v ∧ ∃ q : KW w, w'' = q.val :=
  h.mono fun _ w' ⟨he, hk⟩ => ⟨he, ⟨w', p.k.trans hk⟩, rfl⟩
end Go.Proofs.YtcnpncndecjahaaGreatDoor

/-
  A region that draws its order: operations that only read and callees that keep all blocks, then a tail in the order of the text.
-/
namespace Go.Proofs.YtcnpncndecjahaaGreatDoor
open Go Go.RowKit

variable {P : Program} {md : Region.Mode} {ops : Array Oper} {C : World → Prop}

/-- Whatever order is picked for f operations ahead of n; then L. -/
def headQ (P : Program) (md : Region.Mode) (ops : Array Oper) (C : World → Prop) (n : Nat) (L : Array Bool → Act → Prop) : Nat → Array Bool → Act → Prop
  | 0, listed, a => L listed a
  | f + 1, listed, a => Region.ready md ops listed ≠ [] ∧ ∀ i ∈ Region.ready md ops listed, i < n ∧ qOp P ops C i (headQ P md ops C n L f (listed.setIfInBounds i true)) a

theorem wpAny_of_headQ {n g : Nat} {L : Array Bool → Act → Prop} {Q' : Exit → Act → World → Prop} (hL : ∀ listed a w, C w → L listed a → wpAny P md ops Q' g listed a w) :
    ∀ (f : Nat) (listed : Array Bool) (a : Act) (w : World), C w → headQ P md ops C n L f listed a → wpAny P md ops Q' (f + g) listed a w
  | 0, listed, a, w, hw, h => by rw [Nat.zero_add]; exact hL _ _ _ hw h
  | f + 1, listed, a, w, hw, h => by
    rw [show f + 1 + g = (f + g) + 1 by omega]
    exact ⟨fun h0 => absurd h0 h.1, fun i hi => wpOp_of_qOp hw (fun a' w' hw' h' => wpAny_of_headQ hL f _ a' w' hw' h') (h.2 i hi).2⟩

theorem headQ_first {n i : Nat} {oi : Oper} {v : Value} {L : Array Bool → Act → Prop} (hi : ops[i]? = some oi) (hsel : ∀ (j : Nat) (o : Oper) cs b, ops[j]? = some o → o.op ≠ .select cs b)
    (hs : Region.sinkB md ops n = true) (hc : Region.chainB md ops n = true) (hn : n < ops.size) (hin : i < n) (hdone : ∀ listed a, L listed a → ∀ j ∈ Region.ready md ops listed, n ≤ j) :
    ∀ (f : Nat) (listed : Array Bool) (a : Act), HeadInv md ops n listed →
      (∀ j oj, ops[j]? = some oj → j ≠ i → listed.getD j true = false → (∀ e ∈ oj.after, Region.binds md e = true → e.on ≠ i) → oi.apart ops oj = true) →
      i ∈ Region.ready md ops listed → YieldsIn P ops C oi v a →
      headQ P md ops C n L f (listed.setIfInBounds i true) (a.put oi.dst v) → headQ P md ops C n L (f + 1) listed a := by
  intro f
  induction f with
  | zero =>
    intro listed a inv _ hr hy H
    have hun := (mem_ready.1 hr).1
    refine ⟨fun h => (by rw [h] at hr; cases hr), fun j hj => ?_⟩
    have hjn : j < n := by
      rcases Nat.lt_or_ge j n with h | h
      · exact h
      · exact absurd hj (tail_waits hs hc hn inv _ i rfl hin hun j h)
    refine ⟨hjn, ?_⟩
    by_cases hji : j = i
    · subst hji; exact hy.qOp hi H
    · have := hdone _ _ H j (ready_mono hj hji)
      omega
  | succ f ih =>
    intro listed a inv hfree hr hy H
    have hun := (mem_ready.1 hr).1
    refine ⟨fun h => (by rw [h] at hr; cases hr), fun j hj => ?_⟩
    have hjn : j < n := by
      rcases Nat.lt_or_ge j n with h | h
      · exact h
      · exact absurd hj (tail_waits hs hc hn inv _ i rfl hin hun j h)
    refine ⟨hjn, ?_⟩
    by_cases hji : j = i
    · subst hji; exact hy.qOp hi H
    · have h1 := (H.2 j (ready_mono hj hji)).2
      obtain ⟨hjun, oj, hoj, hall⟩ := mem_ready.1 hj
      have hnot : ∀ e ∈ oj.after, Region.binds md e = true → e.on ≠ i := fun e he hb heq => by
        have h1 := hall e he hb
        rw [heq, getD_both hun] at h1
        cases h1
      have h2 := qOp_put hoj (hfree j oj hoj hji hjun hnot) (fun cs b => hsel i oi cs b hi) (fun cs b => hsel j oj cs b hoj) hy h1
      have hfree' : ∀ k ok, ops[k]? = some ok → k ≠ i → (listed.setIfInBounds j true).getD k true = false →
          (∀ e ∈ ok.after, Region.binds md e = true → e.on ≠ i) → oi.apart ops ok = true := fun k ok hk hki hun hno => by
        refine hfree k ok hk hki ?_ hno
        by_cases hjk : j = k
        · subst hjk; exact hjun
        · rw [getD_set_ne true hjk] at hun; exact hun
      refine qOp_mono (fun a' h3 => ih (listed.setIfInBounds j true) a' (inv.set hj hjn) hfree' (ready_mono hr (Ne.symm hji)) h3.1 ?_) h2
      rw [Array.setIfInBounds_comm _ _ hji]
      exact h3.2

theorem headQ_lex {n g : Nat} {Lq : Act → Prop} (hsel : Region.noSelect ops = true) (hs : Region.sinkB md ops n = true) (hc : Region.chainB md ops n = true) (hn : n < ops.size) :
    ∀ (l : List Oper) (k : Nat) (listed : Array Bool) (a : Act), (∀ j, j < l.length → l[j]? = ops[k + j]?) → k + l.length = n → HeadInv md ops n listed →
    Region.lexHead md ops g l.length k listed = true → wpQuiet P ops C Lq l a →
    headQ P md ops C n (fun listed' a' => Region.seqB md ops g n listed' = true ∧ Lq a') l.length listed a
  | [], k, listed, a, _, hk, _, hB, h => by
    have : k = n := by simpa using hk
    subst this
    exact ⟨by simpa [Region.lexHead] using hB, h⟩
  | o :: l, k, listed, a, hl, hk, inv, hB, h => by
    have h0 : ops[k]? = some o := by simpa using (hl 0 (by simp)).symm
    simp only [List.length_cons, Region.lexHead, Bool.and_eq_true] at hB
    obtain ⟨⟨hr, hf⟩, hB'⟩ := hB
    have hkn : k < n := by simp only [List.length_cons] at hk; omega
    have hr' : k ∈ Region.ready md ops listed := by simpa using hr
    have hst : qOp P ops C k (wpQuiet P ops C Lq l) a := by unfold qOp; simp only [h0]; exact h
    obtain ⟨v, hy, hK⟩ := yieldsIn_of_qOp h0 hst
    exact headQ_first h0 (Region.noSelect_spec hsel) hs hc hn hkn (fun listed' a' hL => seqB_ready hL.1) l.length listed a inv (Region.free_spec h0 hf) hr' hy
      (headQ_lex hsel hs hc hn l (k + 1) _ _ (fun j hj => by have := hl (j + 1) (by simp; omega); simpa [Nat.add_assoc, Nat.add_comm 1 j] using this) (by simp only [List.length_cons] at hk; omega) (inv.set hr' hkn) hB' hK)

theorem wp_region_kept_tail {id : Nat} {Q : Exit → Act → World → Prop} {a : Act} {w : World} {l : List Oper} (n : Nat) (hm : P.follows .mixedOrders = true) (hB : Region.lexTailB .any l.toArray n = true)
    (h : wpQuiet P l.toArray (fun w' => ∃ p : KW w, w' = p.val) (fun a' => ∀ p : KW w, wpList P l.toArray Q (l.drop n) a' p.val) (l.take n) a) : (Code.region id l.toArray true).wp P Q a w := by
  simp only [Region.lexTailB, Bool.and_eq_true, decide_eq_true_eq] at hB
  obtain ⟨⟨⟨⟨hsel, hn⟩, hs⟩, hc⟩, hlex⟩ := hB
  have hn' : n < l.length := by simpa using hn
  have htl : (l.take n).length = n := by simp; omega
  have hdl : (l.drop n).length = l.toArray.size - n := by simp
  have inv0 : HeadInv .any l.toArray n (Array.replicate l.toArray.size false) :=
    ⟨by simp, fun j oj _ hl => (by rw [getD_replicate_false] at hl; cases hl), fun t _ ht => getD_in (by simpa using ht) (getD_replicate_false _ _)⟩
  have H := headQ_lex (C := fun w' => ∃ p : KW w, w' = p.val) (md := .any) (g := l.toArray.size - n) hsel hs hc hn (l.take n) 0 _ a (fun j hj => by
    have hj' : j < n := by rw [htl] at hj; exact hj
    simp [hj']) (by simpa using htl) inv0 (by rw [htl]; exact hlex) h
  refine wp_region_any hm ?_
  have := wpAny_of_headQ (Q' := Q) (g := l.toArray.size - n) (fun listed a' w' hw' hL => by
    obtain ⟨p, rfl⟩ := hw'
    have := wpAny_of_seq (md := .any) (Q' := Q) (l.drop n) n listed a' p.val (fun j => by simp [List.getElem?_drop]) (by rw [hdl]; exact hL.1) (hL.2 p)
    rwa [hdl] at this) _ _ _ { w with drawn := w.drawn + 1 } ⟨⟨w.drew, (Keep.refl _ w).drew⟩, rfl⟩ H
  rw [htl, show n + (l.toArray.size - n) = l.toArray.size by omega] at this
  exact this
end Go.Proofs.YtcnpncndecjahaaGreatDoor

/-
  A region that draws its order and holds calls that write: what only reads is taken ahead; the calls come one after the other.
-/
namespace Go.Proofs.YtcnpncndecjahaaGreatDoor
open Go Go.RowKit

section
variable {P : Program} {md : Region.Mode} {ops : Array Oper} {C : World → Prop}

abbrev noQ : Exit → Act → World → Prop := fun _ _ _ => False

/-- In every world of C, operation o leaves v, and the world as it is. -/
def YC (P : Program) (ops : Array Oper) (C : World → Prop) (o : Oper) (v : Value) (a : Act) : Prop :=
  (Region.wanted o (yielded ops a.tmps) = true ∧ ∀ w, C w → o.quietAt P a (fun w'' => w'' = w) w v) ∨ (Region.wanted o (yielded ops a.tmps) = false ∧ v = undef)

theorem YC.of_same {o : Oper} {v : Value} {a a' : Act} (hy : YC P ops C o v a) (he : execOp a'.eval o = execOp a.eval o) (hw : Region.wanted o (yielded ops a'.tmps) = Region.wanted o (yielded ops a.tmps)) : YC P ops C o v a' := by
  unfold YC Oper.quietAt at *
  rw [he, hw]
  exact hy

theorem YC.wpOp {i : Nat} {o : Oper} {v : Value} {a : Act} {w : World} {K : Act → World → Prop} (hi : ops[i]? = some o) (hy : YC P ops C o v a) (hC : C w) (h : K (a.put o.dst v) w) : wpOp P ops noQ i K a w := by
  unfold Go.wpOp
  simp only [hi]
  rcases hy with ⟨hw, hv⟩ | ⟨hw, rfl⟩
  · simp only [hw, if_true]
    refine .inl ?_
    have h3 := hv w hC
    unfold Oper.quietAt at h3
    unfold Oper.wp
    generalize (execOp a.eval o).run P w = r at *
    cases r with
    | ok n w' =>
      cases n <;> simp only [Oper.quietUpon] at h3 <;> simp only [Oper.upon]
      case value u => obtain ⟨e1, e2⟩ := h3; rw [e1, e2]; exact h
      case skip => obtain ⟨e1, e2⟩ := h3; rw [e1, ← e2]; exact h
      case enter f args =>
        obtain ⟨e1, hc⟩ := h3
        rw [e1]
        exact hc.mono fun e w'' ⟨he, hw''⟩ => by subst he; rw [hw'']; exact h
    | halt x w' => simp only [Oper.quietUpon] at h3
  · simp only [hw, Bool.false_eq_true, if_false]; exact h

theorem wpOp_weak {i : Nat} {a : Act} {w : World} {K K' : Act → World → Prop} {Q' : Exit → Act → World → Prop} (hK : ∀ a w, K a w → K' a w) (h : wpOp P ops noQ i K a w) : wpOp P ops Q' i K' a w := by
  unfold wpOp at *
  split
  · rename_i ho; simp only [ho] at h; exact hK _ _ h
  · rename_i o ho
    simp only [ho] at h
    split
    · rename_i hw
      simp only [hw, if_true] at h
      rcases h with h | ⟨_, _, _, hf⟩
      · refine .inl ?_
        unfold Oper.wp at *
        generalize (execOp a.eval o).run P w = r at *
        cases r with
        | ok n w' =>
          cases n <;> simp only [Oper.upon] at h ⊢ <;>
            first
              | exact hK _ _ h
              | exact Calls.mono h (fun e w'' he => by cases e <;> first | exact hK _ _ he | exact he.elim | (obtain ⟨_, _, hf⟩ := he; exact hf.elim))
              | exact Rows.mono h (fun _ _ he => hK _ _ he)
        | halt x w' => cases x <;> simp only [Oper.upon] at h <;> exact h.elim
      · exact hf.elim
    · rename_i hw; simp only [hw] at h; exact hK _ _ h

theorem wpOp_putC {j : Nat} {oi oj : Oper} {v : Value} (hj : ops[j]? = some oj) (hap : oi.apart ops oj = true) (hsi : ∀ cs b, oi.op ≠ .select cs b) (hsj : ∀ cs b, oj.op ≠ .select cs b) {K : Act → World → Prop} {a : Act} {w : World}
    (hy : YC P ops C oi v a) (h : wpOp P ops noQ j K (a.put oi.dst v) w) : wpOp P ops noQ j (fun a' w' => YC P ops C oi v a' ∧ K (a'.put oi.dst v) w') a w := by
  obtain ⟨h1, h2, h3⟩ := Oper.apart_spec hap
  have keep : ∀ (a : Act), YC P ops C oi v a → ∀ u, YC P ops C oi v (a.put oj.dst u) := fun a hy u => hy.of_same (execOp_put oi hsi a oj.dst u h3) (wanted_put oi a oj.dst u h3)
  have keepD : ∀ d, YC P ops C oi v { a with defers := d :: a.defers } := fun d => hy.of_same rfl rfl
  unfold wpOp at *
  simp only [hj] at *
  rw [wanted_put oj a oi.dst v h1] at h
  split
  · rename_i hw
    simp only [hw, if_true] at h
    rcases h with h | ⟨_, _, _, hf⟩
    case inr => exact hf.elim
    refine .inl ?_
    unfold Oper.wp at *
    rw [execOp_put oj hsj a oi.dst v h1] at h
    generalize (execOp a.eval oj).run P w = r at *
    cases r with
    | ok n w' =>
      cases n <;> simp only [Oper.upon] at h ⊢
      case value u => exact ⟨keep a hy u, by rw [← Act.put_comm a v u h2]; exact h⟩
      case skip => exact ⟨keep a hy _, by rw [← Act.put_comm a v undef h2]; exact h⟩
      case defer d =>
        refine ⟨keep _ (keepD d) _, ?_⟩
        rw [← Act.put_comm _ v undef h2, ← Act.put_defers]
        exact h
      case enter f args =>
        refine Calls.mono h fun e w'' he => ?_
        cases e with
        | returned u => exact ⟨keep a hy u, by rw [← Act.put_comm a v u h2]; exact he⟩
        | panicked c => exact he
        | outgrown => exact he
      case row row args => exact Rows.mono h fun u w'' he => ⟨keep a hy u, by rw [← Act.put_comm a v u h2]; exact he⟩
    | halt x w' => cases x <;> simp only [Oper.upon] at h <;> exact h.elim
  · rename_i hw
    simp only [hw] at h
    exact ⟨keep a hy _, by rw [← Act.put_comm a v undef h2]; exact h⟩

/-- Whatever order is picked from here on; every world lies in C. -/
def wpC (P : Program) (md : Region.Mode) (ops : Array Oper) (C : World → Prop) (Q : Act → World → Prop) : Nat → Array Bool → Act → World → Prop
  | 0, listed, a, w => C w ∧ Region.ready md ops listed = [] ∧ Q a w
  | f + 1, listed, a, w => C w ∧ (Region.ready md ops listed = [] → Q a w) ∧ ∀ i ∈ Region.ready md ops listed, wpOp P ops noQ i (wpC P md ops C Q f (listed.setIfInBounds i true)) a w

theorem wpC.cls {Q : Act → World → Prop} : ∀ {f : Nat} {listed : Array Bool} {a : Act} {w : World}, wpC P md ops C Q f listed a w → C w
  | 0, _, _, _, h => h.1
  | _ + 1, _, _, _, h => h.1

theorem wpAny_of_wpC {Q : Act → World → Prop} {Q' : Exit → Act → World → Prop} (hQ : ∀ a w, Q a w → Q' .normal a w) : ∀ (f : Nat) (listed : Array Bool) (a : Act) (w : World), wpC P md ops C Q f listed a w → wpAny P md ops Q' f listed a w
  | 0, _, _, _, h => ⟨h.2.1, hQ _ _ h.2.2⟩
  | f + 1, _, _, _, h => ⟨fun h0 => hQ _ _ (h.2.1 h0), fun i hi => wpOp_weak (fun a' w' h' => wpAny_of_wpC hQ f _ a' w' h') (h.2.2 i hi)⟩

theorem wpC_first {Q : Act → World → Prop} {i : Nat} {oi : Oper} {v : Value} (hi : ops[i]? = some oi) (hsel : ∀ (j : Nat) (o : Oper) cs b, ops[j]? = some o → o.op ≠ .select cs b) :
    ∀ (f : Nat) (listed : Array Bool) (a : Act) (w : World),
      (∀ j oj, ops[j]? = some oj → j ≠ i → listed.getD j true = false → (∀ e ∈ oj.after, Region.binds md e = true → e.on ≠ i) → oi.apart ops oj = true) →
      i ∈ Region.ready md ops listed → YC P ops C oi v a → wpC P md ops C Q f (listed.setIfInBounds i true) (a.put oi.dst v) w → wpC P md ops C Q (f + 1) listed a w := by
  intro f
  induction f with
  | zero =>
    intro listed a w _ hr hy H
    refine ⟨H.cls, fun h => (by rw [h] at hr; cases hr), fun j hj => ?_⟩
    by_cases hji : j = i
    · subst hji; exact hy.wpOp hi H.cls H
    · have := ready_mono hj hji
      rw [H.2.1] at this
      cases this
  | succ f ih =>
    intro listed a w hfree hr hy H
    refine ⟨H.cls, fun h => (by rw [h] at hr; cases hr), fun j hj => ?_⟩
    by_cases hji : j = i
    · subst hji; exact hy.wpOp hi H.cls H
    · have h1 := H.2.2 j (ready_mono hj hji)
      obtain ⟨hjun, oj, hoj, hall⟩ := mem_ready.1 hj
      have hnot : ∀ e ∈ oj.after, Region.binds md e = true → e.on ≠ i := fun e he hb heq => by
        have h1 := hall e he hb
        rw [heq, getD_both (mem_ready.1 hr).1] at h1
        cases h1
      have h2 := wpOp_putC hoj (hfree j oj hoj hji hjun hnot) (fun cs b => hsel i oi cs b hi) (fun cs b => hsel j oj cs b hoj) hy h1
      have hfree' : ∀ k ok, ops[k]? = some ok → k ≠ i → (listed.setIfInBounds j true).getD k true = false →
          (∀ e ∈ ok.after, Region.binds md e = true → e.on ≠ i) → oi.apart ops ok = true := fun k ok hk hki hun hno => by
        refine hfree k ok hk hki ?_ hno
        by_cases hjk : j = k
        · subst hjk; exact hjun
        · rw [getD_set_ne true hjk] at hun; exact hun
      refine wpOp_mono (fun a' w' h3 => ih (listed.setIfInBounds j true) a' w' hfree' (ready_mono hr (Ne.symm hji)) h3.1 ?_) h2
      rw [Array.setIfInBounds_comm _ _ hji]
      exact h3.2

/-- The operations of ts, one after the other. -/
def tailW (P : Program) (ops : Array Oper) (C : World → Prop) (Q : Act → World → Prop) : List Nat → Act → World → Prop
  | [], a, w => C w ∧ Q a w
  | i :: rest, a, w => C w ∧ ∃ o, ops[i]? = some o ∧ if Region.wanted o (yielded ops a.tmps) then o.wp P a w (tailW P ops C Q rest) noQ else tailW P ops C Q rest (a.put o.dst undef) w
/-- The operations of hs only read. -/
def headW (P : Program) (ops : Array Oper) (C : World → Prop) (Q : Act → Prop) : List Nat → Act → Prop
  | [], a => Q a
  | i :: rest, a => ∃ o v, ops[i]? = some o ∧ YC P ops C o v a ∧ headW P ops C Q rest (a.put o.dst v)

theorem tailW_step {Q : Act → World → Prop} {i : Nat} {rest : List Nat} {a : Act} {w : World} {o : Oper} (ho : ops[i]? = some o) (hC : C w)
    (h : ∀ K : Act → World → Prop, (∀ a w, tailW P ops C Q rest a w → K a w) → if Region.wanted o (yielded ops a.tmps) then o.wp P a w K noQ else K (a.put o.dst undef) w) : tailW P ops C Q (i :: rest) a w :=
  ⟨hC, o, ho, h _ (fun _ _ h => h)⟩
theorem headW_step {Q : Act → Prop} {i : Nat} {rest : List Nat} {a : Act} {o : Oper} (ho : ops[i]? = some o)
    (h : ∀ K : Act → Prop, (∀ a, headW P ops C Q rest a → K a) → if Region.wanted o (yielded ops a.tmps) then ∃ v, (∀ w, C w → o.quietAt P a (fun w'' => w'' = w) w v) ∧ K (a.put o.dst v) else K (a.put o.dst undef)) : headW P ops C Q (i :: rest) a := by
  have h1 := h _ (fun _ h => h)
  by_cases hw : Region.wanted o (yielded ops a.tmps) = true
  · rw [if_pos hw] at h1
    obtain ⟨v, h2, h3⟩ := h1
    exact ⟨o, v, ho, .inl ⟨hw, h2⟩, h3⟩
  · rw [if_neg hw] at h1
    exact ⟨o, undef, ho, .inr ⟨by simpa using hw, rfl⟩, h1⟩

/-- ts, one after the other: each is the only one that may come. -/
def seqTs (md : Region.Mode) (ops : Array Oper) : List Nat → Array Bool → Bool
  | [], listed => (Region.ready md ops listed).isEmpty
  | k :: rest, listed => decide (Region.ready md ops listed = [k]) && seqTs md ops rest (listed.setIfInBounds k true)
def headHs (md : Region.Mode) (ops : Array Oper) (ts : List Nat) : List Nat → Array Bool → Bool
  | [], listed => seqTs md ops ts listed
  | k :: rest, listed => (Region.ready md ops listed).contains k && Region.free md ops listed k && headHs md ops ts rest (listed.setIfInBounds k true)

theorem wpC_tail {Q : Act → World → Prop} : ∀ (ts : List Nat) (listed : Array Bool) (a : Act) (w : World), seqTs md ops ts listed = true → tailW P ops C Q ts a w → wpC P md ops C Q ts.length listed a w
  | [], listed, a, w, hB, h => ⟨h.1, by simpa [seqTs] using hB, h.2⟩
  | k :: rest, listed, a, w, hB, h => by
    simp only [seqTs, Bool.and_eq_true, decide_eq_true_eq] at hB
    obtain ⟨hC, o, ho, h⟩ := h
    refine ⟨hC, fun h0 => (by rw [hB.1] at h0; cases h0), fun i hi => ?_⟩
    rw [hB.1, List.mem_singleton] at hi
    subst hi
    unfold wpOp
    simp only [ho]
    split
    · rename_i hw
      rw [if_pos hw] at h
      exact .inl (Oper.wp_mono (fun a' w' h' => wpC_tail rest _ a' w' hB.2 h') h)
    · rename_i hw
      rw [if_neg hw] at h
      exact wpC_tail rest _ _ w hB.2 h

theorem wpC_head {Q : Act → World → Prop} (hsel : Region.noSelect ops = true) (ts : List Nat) (w : World) : ∀ (hs : List Nat) (listed : Array Bool) (a : Act), headHs md ops ts hs listed = true →
    headW P ops C (fun a' => tailW P ops C Q ts a' w) hs a → wpC P md ops C Q (hs.length + ts.length) listed a w
  | [], listed, a, hB, h => by rw [List.length_nil, Nat.zero_add]; exact wpC_tail ts listed a w hB h
  | k :: rest, listed, a, hB, h => by
    simp only [headHs, Bool.and_eq_true] at hB
    obtain ⟨⟨hr, hf⟩, hB'⟩ := hB
    obtain ⟨o, v, ho, hy, h⟩ := h
    rw [List.length_cons, show rest.length + 1 + ts.length = (rest.length + ts.length) + 1 by omega]
    exact wpC_first ho (Region.noSelect_spec hsel) _ listed a w (Region.free_spec ho hf) (by simpa using hr) hy (wpC_head hsel ts w rest _ _ hB' h)

def phaseB (ops : Array Oper) (hs ts : List Nat) : Bool := Region.noSelect ops && decide (hs.length + ts.length = ops.size) && headHs .any ops ts hs (Array.replicate ops.size false)

theorem wp_region_phase {id : Nat} {Q : Exit → Act → World → Prop} {a : Act} {w : World} {l : List Oper} (hs ts : List Nat) (hm : P.follows .mixedOrders = true) (hB : phaseB l.toArray hs ts = true)
    (h : headW P l.toArray C (fun a' => tailW P l.toArray C (fun a w => Q .normal a w) ts a' w.drew) hs a) : (Code.region id l.toArray true).wp P Q a w := by
  simp only [phaseB, Bool.and_eq_true, decide_eq_true_eq] at hB
  obtain ⟨⟨hsel, hlen⟩, hB⟩ := hB
  refine wp_region_any hm (wpAny_of_wpC (C := C) (Q := fun a w => Q .normal a w) (fun _ _ h => h) _ _ _ _ ?_)
  rw [← hlen]
  exact wpC_head hsel ts _ hs _ a (by rw [hlen]; exact hB) h
end

/-- A world that has kept all blocks but those of A. -/
structure KA (A : Nat → Prop) (w : World) where
  val : World
  k : Keep A w val
instance (A : Nat → Prop) (w : World) : Nonempty (KA A w) := ⟨⟨w, Keep.refl _ w⟩⟩
abbrev inKA (A : Nat → Prop) (w w' : World) : Prop := ∃ p : KA A w, w' = p.val
end Go.Proofs.YtcnpncndecjahaaGreatDoor

/-
  The same, with reads between the calls; the class of worlds may be narrowed behind a call.
-/
namespace Go.Proofs.YtcnpncndecjahaaGreatDoor
open Go Go.RowKit

section
variable {P : Program} {md : Region.Mode} {ops : Array Oper} {C : World → Prop}

theorem wpC_mono {C2 : World → Prop} {Q : Act → World → Prop} (hC : ∀ x, C2 x → C x) : ∀ (f : Nat) (listed : Array Bool) (a : Act) (w : World), wpC P md ops C2 Q f listed a w → wpC P md ops C Q f listed a w
  | 0, _, _, _, h => ⟨hC _ h.1, h.2⟩
  | f + 1, _, _, _, h => ⟨hC _ h.1, h.2.1, fun i hi => wpOp_mono (fun a' w' h' => wpC_mono hC f _ a' w' h') (h.2.2 i hi)⟩

/-- A walk: (true, i): operation i only reads; (false, i): it is the only one that may come. -/
def walkW (P : Program) (ops : Array Oper) (Q : Act → World → Prop) : List (Bool × Nat) → (World → Prop) → Act → World → Prop
  | [], C, a, w => C w ∧ Q a w
  | (true, i) :: rest, C, a, w => ∃ o v, ops[i]? = some o ∧ YC P ops C o v a ∧ walkW P ops Q rest C (a.put o.dst v) w
  | (false, i) :: rest, C, a, w => C w ∧ ∃ o, ops[i]? = some o ∧ if Region.wanted o (yielded ops a.tmps) then o.wp P a w (fun a' w' => ∃ C2 : World → Prop, (∀ x, C2 x → C x) ∧ walkW P ops Q rest C2 a' w') noQ
      else walkW P ops Q rest C (a.put o.dst undef) w

theorem walkW_read {Q : Act → World → Prop} {i : Nat} {rest : List (Bool × Nat)} {a : Act} {w : World} {o : Oper} (ho : ops[i]? = some o)
    (h : ∀ K : Act → Prop, (∀ a, walkW P ops Q rest C a w → K a) → if Region.wanted o (yielded ops a.tmps) then ∃ v, (∀ w, C w → o.quietAt P a (fun w'' => w'' = w) w v) ∧ K (a.put o.dst v) else K (a.put o.dst undef)) : walkW P ops Q ((true, i) :: rest) C a w := by
  have h1 := h _ (fun _ h => h)
  by_cases hw : Region.wanted o (yielded ops a.tmps) = true
  · rw [if_pos hw] at h1
    obtain ⟨v, h2, h3⟩ := h1
    exact ⟨o, v, ho, .inl ⟨hw, h2⟩, h3⟩
  · rw [if_neg hw] at h1
    exact ⟨o, undef, ho, .inr ⟨by simpa using hw, rfl⟩, h1⟩

/-- One operation, the class as it was. -/
theorem walkW_do {Q : Act → World → Prop} {i : Nat} {rest : List (Bool × Nat)} {a : Act} {w : World} {o : Oper} (ho : ops[i]? = some o) (hC : C w)
    (h : ∀ K : Act → World → Prop, (∀ a w, walkW P ops Q rest C a w → K a w) → if Region.wanted o (yielded ops a.tmps) then o.wp P a w K noQ else K (a.put o.dst undef) w) : walkW P ops Q ((false, i) :: rest) C a w := by
  refine ⟨hC, o, ho, ?_⟩
  have h1 := h (fun a' w' => walkW P ops Q rest C a' w') (fun _ _ h => h)
  split
  · rename_i hw
    rw [if_pos hw] at h1
    exact Oper.wp_mono (fun a' w' h' => ⟨C, fun _ h => h, h'⟩) h1
  · rename_i hw
    rw [if_neg hw] at h1
    exact h1
/-- One operation; the class is narrowed behind it. -/
theorem walkW_turn {Q : Act → World → Prop} {i : Nat} {rest : List (Bool × Nat)} {a : Act} {w : World} {o : Oper} (ho : ops[i]? = some o) (hC : C w) (hw : Region.wanted o (yielded ops a.tmps) = true)
    (h : ∀ K : Act → World → Prop, (∀ (C2 : World → Prop) a w, (∀ x, C2 x → C x) → walkW P ops Q rest C2 a w → K a w) → o.wp P a w K noQ) : walkW P ops Q ((false, i) :: rest) C a w := by
  refine ⟨hC, o, ho, ?_⟩
  rw [if_pos hw]
  exact h _ (fun C2 a w h1 h2 => ⟨C2, h1, h2⟩)

def walkB (md : Region.Mode) (ops : Array Oper) : List (Bool × Nat) → Array Bool → Bool
  | [], listed => (Region.ready md ops listed).isEmpty
  | (true, k) :: rest, listed => (Region.ready md ops listed).contains k && Region.free md ops listed k && walkB md ops rest (listed.setIfInBounds k true)
  | (false, k) :: rest, listed => decide (Region.ready md ops listed = [k]) && walkB md ops rest (listed.setIfInBounds k true)

theorem wpC_walk {Q : Act → World → Prop} (hsel : Region.noSelect ops = true) : ∀ (l : List (Bool × Nat)) (C : World → Prop) (listed : Array Bool) (a : Act) (w : World), walkB md ops l listed = true → walkW P ops Q l C a w → wpC P md ops C Q l.length listed a w
  | [], C, listed, a, w, hB, h => ⟨h.1, by simpa [walkB] using hB, h.2⟩
  | (true, k) :: rest, C, listed, a, w, hB, h => by
    simp only [walkB, Bool.and_eq_true] at hB
    obtain ⟨⟨hr, hf⟩, hB'⟩ := hB
    obtain ⟨o, v, ho, hy, h⟩ := h
    exact wpC_first ho (Region.noSelect_spec hsel) _ listed a w (Region.free_spec ho hf) (by simpa using hr) hy (wpC_walk hsel rest C _ _ w hB' h)
  | (false, k) :: rest, C, listed, a, w, hB, h => by
    simp only [walkB, Bool.and_eq_true, decide_eq_true_eq] at hB
    obtain ⟨hC, o, ho, h⟩ := h
    refine ⟨hC, fun h0 => (by rw [hB.1] at h0; cases h0), fun i hi => ?_⟩
    rw [hB.1, List.mem_singleton] at hi
    subst hi
    unfold wpOp
    simp only [ho]
    split
    · rename_i hw
      rw [if_pos hw] at h
      exact .inl (Oper.wp_mono (fun a' w' ⟨C2, h1, h2⟩ => wpC_mono h1 _ _ _ _ (wpC_walk hsel rest C2 _ a' w' hB.2 h2)) h)
    · rename_i hw
      rw [if_neg hw] at h
      exact wpC_walk hsel rest C _ _ w hB.2 h

def walkOk (ops : Array Oper) (l : List (Bool × Nat)) : Bool := Region.noSelect ops && decide (l.length = ops.size) && walkB .any ops l (Array.replicate ops.size false)

theorem wp_region_walk {id : Nat} {Q : Exit → Act → World → Prop} {a : Act} {w : World} {l : List Oper} (s : List (Bool × Nat)) (C : World → Prop) (hm : P.follows .mixedOrders = true) (hB : walkOk l.toArray s = true)
    (h : walkW P l.toArray (fun a w => Q .normal a w) s C a w.drew) : (Code.region id l.toArray true).wp P Q a w := by
  simp only [walkOk, Bool.and_eq_true, decide_eq_true_eq] at hB
  obtain ⟨⟨hsel, hlen⟩, hB⟩ := hB
  refine wp_region_any hm (wpAny_of_wpC (C := C) (Q := fun a w => Q .normal a w) (fun _ _ h => h) _ _ _ _ ?_)
  rw [← hlen]
  exact wpC_walk hsel s C _ a _ (by rw [hlen]; exact hB) h
end
theorem inKA.mono {A : Nat → Prop} {w w1 : World} (k : Keep A w w1) : ∀ x, inKA A w1 x → inKA A w x := fun _ ⟨p, hp⟩ => ⟨⟨p.val, k.trans p.k⟩, hp⟩
theorem inKA.of {A : Nat → Prop} {w w1 : World} (k : Keep A w w1) : inKA A w w1 := ⟨⟨w1, k⟩, rfl⟩
end Go.Proofs.YtcnpncndecjahaaGreatDoor

/-
  Queries as values and in boxes.
-/
namespace Go.Proofs.YtcnpncndecjahaaGreatDoor
open Go.RowKit Go.Shelf

def I64 (x : Int) : Prop := -9223372036854775808 ≤ x ∧ x ≤ 9223372036854775807
abbrev ptr (s : Nat) : Value := .pointer (some ⟨s, 0, none⟩)
/-- A query as a value. -/
abbrev qV (q : Qy) : Value := .agg #[.int .i64 q.kd, .int .i64 q.tb, .int .i64 q.cl, .int .i64 q.lo, .int .i64 q.hi, .int .i64 q.bb, .int .i64 q.ot]
/-- A query in a box. -/
def QBox (W : World) (z : Nat) (q : Qy) : Prop := (∀ j, j < 7 → W.cell? ⟨z, j, none⟩ = some (.int .i64 (q.get j))) ∧ ∀ o, W.frozen? ⟨z, o, none⟩ = false
theorem QBox.keep {A : Nat → Prop} {W W' : World} {z : Nat} {q : Qy} (h : QBox W z q) (k : Keep A W W') (hA : ¬ A z) : QBox W' z q :=
  ⟨fun j hj => k.cell (h.1 j hj) hA, fun o => by
    have hl : z < W.heap.size := World.block_lt_of_cell? _ _ (h.1 0 (by decide))
    rw [World.frozen?_of_block (w := W) (a := ⟨z, o, none⟩) (k.block z hl hA)]
    exact h.2 o⟩
theorem QBox.kept {W W' : World} {z : Nat} {q : Qy} (h : QBox W z q) (k : Keep (fun _ => False) W W') : QBox W' z q := h.keep k (fun h => h)
theorem QBox.lt {W : World} {z : Nat} {q : Qy} (h : QBox W z q) : z < W.heap.size := World.block_lt_of_cell? _ _ (h.1 0 (by decide))
theorem QBox.new (W : World) (q : Qy) (t : TypeId) : QBox (W.alloc (.cells #[.int .i64 q.kd, .int .i64 q.tb, .int .i64 q.cl, .int .i64 q.lo, .int .i64 q.hi, .int .i64 q.bb, .int .i64 q.ot] t)) W.heap.size q := by
  refine ⟨fun j hj => ?_, fun o => by simp [go_sem]⟩
  match j, hj with
  | 0, _ => simp [Qy.get]
  | 1, _ => simp [Qy.get]
  | 2, _ => simp [Qy.get]
  | 3, _ => simp [Qy.get]
  | 4, _ => simp [Qy.get]
  | 5, _ => simp [Qy.get]
  | 6, _ => simp [Qy.get]
theorem QBox.set {W : World} {z : Nat} {q : Qy} (h : QBox W z q) (m : Nat) (hm : m < 7) (v : Int) : QBox (W.setCell ⟨z, m, none⟩ (.int .i64 v)) z (q.set v m) := by
  refine ⟨fun j hj => ?_, fun o => (World.frozen?_setCell _ _ _ _).trans (h.2 o)⟩
  by_cases e : m = j
  · subst e
    rw [cell_set_same (h.1 m hm)]
    match m, hm with
    | 0, _ => rfl
    | 1, _ => rfl
    | 2, _ => rfl
    | 3, _ => rfl
    | 4, _ => rfl
    | 5, _ => rfl
    | 6, _ => rfl
  · rw [cell_set_off e, h.1 j hj]
    match m, hm, j, hj with
    | 0, _, 0, _ => exact absurd rfl e
    | 1, _, 1, _ => exact absurd rfl e
    | 2, _, 2, _ => exact absurd rfl e
    | 3, _, 3, _ => exact absurd rfl e
    | 4, _, 4, _ => exact absurd rfl e
    | 5, _, 5, _ => exact absurd rfl e
    | 6, _, 6, _ => exact absurd rfl e
    | 0, _, 1, _ => rfl
    | 0, _, 2, _ => rfl
    | 0, _, 3, _ => rfl
    | 0, _, 4, _ => rfl
    | 0, _, 5, _ => rfl
    | 0, _, 6, _ => rfl
    | 1, _, 0, _ => rfl
    | 1, _, 2, _ => rfl
    | 1, _, 3, _ => rfl
    | 1, _, 4, _ => rfl
    | 1, _, 5, _ => rfl
    | 1, _, 6, _ => rfl
    | 2, _, 0, _ => rfl
    | 2, _, 1, _ => rfl
    | 2, _, 3, _ => rfl
    | 2, _, 4, _ => rfl
    | 2, _, 5, _ => rfl
    | 2, _, 6, _ => rfl
    | 3, _, 0, _ => rfl
    | 3, _, 1, _ => rfl
    | 3, _, 2, _ => rfl
    | 3, _, 4, _ => rfl
    | 3, _, 5, _ => rfl
    | 3, _, 6, _ => rfl
    | 4, _, 0, _ => rfl
    | 4, _, 1, _ => rfl
    | 4, _, 2, _ => rfl
    | 4, _, 3, _ => rfl
    | 4, _, 5, _ => rfl
    | 4, _, 6, _ => rfl
    | 5, _, 0, _ => rfl
    | 5, _, 1, _ => rfl
    | 5, _, 2, _ => rfl
    | 5, _, 3, _ => rfl
    | 5, _, 4, _ => rfl
    | 5, _, 6, _ => rfl
    | 6, _, 0, _ => rfl
    | 6, _, 1, _ => rfl
    | 6, _, 2, _ => rfl
    | 6, _, 3, _ => rfl
    | 6, _, 4, _ => rfl
    | 6, _, 5, _ => rfl
theorem QBox.cells {W : World} {z : Nat} {q : Qy} (h : QBox W z q) : W.cell? ⟨z, 0, none⟩ = some (.int .i64 q.kd) ∧ W.cell? ⟨z, 1, none⟩ = some (.int .i64 q.tb) ∧ W.cell? ⟨z, 2, none⟩ = some (.int .i64 q.cl) ∧ W.cell? ⟨z, 3, none⟩ = some (.int .i64 q.lo) ∧ W.cell? ⟨z, 4, none⟩ = some (.int .i64 q.hi) ∧ W.cell? ⟨z, 5, none⟩ = some (.int .i64 q.bb) ∧ W.cell? ⟨z, 6, none⟩ = some (.int .i64 q.ot) :=
  ⟨h.1 0 (by decide), h.1 1 (by decide), h.1 2 (by decide), h.1 3 (by decide), h.1 4 (by decide), h.1 5 (by decide), h.1 6 (by decide)⟩

theorem keep0 {w W0 W : World} {z : Nat} (K0 : Keep (fun _ => False) w W0) (hz : w.heap.size ≤ z) (k : Keep (fun j => j = z) W0 W) : Keep (fun _ => False) w W :=
  K0.trans' k (fun j e => .inr (by have h5 : j = z := e; omega))
end Go.Proofs.YtcnpncndecjahaaGreatDoor

/-
  cmp.Compare, cmp.Or, of numbers; numbers in a slice.
-/
namespace Go.Proofs.YtcnpncndecjahaaGreatDoor
open Go.RowKit Go.Shelf

theorem Keep.drewN {A : Nat → Prop} {a w : World} (h : Keep A a w) (k : Nat) : Keep A a (w.drewN k) := ⟨h.os, h.tape, h.output, h.size, h.block⟩
theorem Keep.frozen {A : Nat → Prop} {w w' : World} (k : Keep A w w') {b : Nat} (hb : b < w.heap.size) (hA : ¬ A b) (o : Nat) : w'.frozen? ⟨b, o, none⟩ = w.frozen? ⟨b, o, none⟩ :=
  World.frozen?_of_block (w := w) (a := ⟨b, o, none⟩) (k.block _ hb hA)
theorem quiet_same {P : Program} {f : FuncId} {args : Array Value} {w : World} {n : Nat} {v : Value}
    (h : Calls P f args (w.drewN n) fun e w' => e = .returned v ∧ w.drewN n = w') : Calls P f args (w.drewN n) fun e w'' => e = .returned v ∧ ∃ m, w'' = w.drewN m :=
  h.mono fun _ _ ⟨he, hm⟩ => ⟨he, n, hm.symm⟩
def cmpI (a b : Int) : Int := if a < b then -1 else if b < a then 1 else 0
set_option maxHeartbeats 400000 in
theorem isNaN_int (a : Int) (w : World) : Calls Tryz.prog 98 #[.int .i64 a] w fun e w' => e = .returned (.bool false) ∧ w = w' := by
  have h : (a != a) = false := by simp
  go_enter Tryz.func98, Tryz.ntmps98
  go_wp2
  go_ret
  exact ⟨rfl, rfl⟩
set_option maxHeartbeats 400000 in
theorem cmp_int (a b : Int) (w : World) : Calls Tryz.prog 89 #[.int .i64 a, .int .i64 b] w fun e w' => e = .returned (.int .i64 (cmpI a b)) ∧ w = w' := by
  rcases Int.lt_trichotomy a b with h1 | h1 | h1
  · have HC : Hid (cmpI a b = -1) := Lib.hid (by unfold cmpI; rw [if_pos h1])
    go_enter Tryz.func89, Tryz.ntmps89
    go_wp2_with (go_at_call 98; refine (isNaN_int _ _).mono ?_; rintro e w' ⟨rfl, rfl⟩)
    go_ret
    exact ⟨by rw [HC.out]; rfl, rfl⟩
  · have HC : Hid (cmpI a b = 0) := Lib.hid (by unfold cmpI; rw [if_neg (by omega), if_neg (by omega)])
    have h2 : ¬ a < b := by omega
    have h3 : ¬ b < a := by omega
    clear h1
    go_enter Tryz.func89, Tryz.ntmps89
    go_wp2_with (go_at_call 98; refine (isNaN_int _ _).mono ?_; rintro e w' ⟨rfl, rfl⟩)
    go_ret
    exact ⟨by rw [HC.out]; rfl, rfl⟩
  · have HC : Hid (cmpI a b = 1) := Lib.hid (by unfold cmpI; rw [if_neg (by omega), if_pos h1])
    go_enter Tryz.func89, Tryz.ntmps89
    go_wp2_with (go_at_call 98; refine (isNaN_int _ _).mono ?_; rintro e w' ⟨rfl, rfl⟩)
    go_ret
    exact ⟨by rw [HC.out]; rfl, rfl⟩

/-- The first one that is not 0. -/
def orL : List Int → Int
  | [] => 0
  | x :: l => if x = 0 then orL l else x
theorem orL_drop {xs : List Int} {k : Nat} (h : ∀ y ∈ xs.take k, y = 0) : orL xs = orL (xs.drop k) := by
  induction xs generalizing k with
  | nil => simp [orL]
  | cons x xs ih =>
    cases k with
    | zero => rfl
    | succ k =>
      rw [List.take_succ_cons] at h
      have h0 := h x (by simp)
      rw [List.drop_succ_cons, ← ih (fun y hy => h y (by simp [hy]))]
      simp [orL, h0]
/-- Numbers in a slice. -/
structure Its (W : World) (v : Value) (xs : List Int) : Prop where
  n : xs.length ≤ 1000000000000000
  bd : ∀ x ∈ xs, I64 x
  at_ : ∃ a c b off, v = .slice a xs.length c ∧ xs.length ≤ c ∧ (0 < xs.length → a = some ⟨b, off, none⟩) ∧ ∀ j x, xs[j]? = some x → W.cell? ⟨b, off + j, none⟩ = some (.int .i64 x)
theorem Its.keep {W W' : World} {A : Nat → Prop} {v : Value} {xs : List Int} (h : Its W v xs) (k : Keep A W W') (hA : ∀ b, v.ownBlock = some b → ¬ A b) : Its W' v xs := by
  obtain ⟨a, c, b, off, rfl, hc, ha, h1⟩ := h.at_
  refine ⟨h.n, h.bd, a, c, b, off, rfl, hc, ha, fun j x hj => ?_⟩
  have hp : 0 < xs.length := by have := (List.getElem?_eq_some_iff.1 hj).1; omega
  refine k.cell (h1 j x hj) (hA b ?_)
  rw [ha hp]; rfl
theorem Its.kept {W W' : World} {v : Value} {xs : List Int} (h : Its W v xs) (k : Keep (fun _ => False) W W') : Its W' v xs := h.keep k (fun _ _ h => h)
theorem Its.nil (W : World) : Its W (.slice none 0 0) [] := ⟨by simp, by simp, none, 0, 0, 0, rfl, by simp, fun h => by simp at h, fun j x hj => by simp at hj⟩

set_option maxRecDepth 100000 in
set_option maxHeartbeats 400000 in
theorem cmp_or (v : Value) (xs : List Int) (w : World) (h : Its w v xs) : Calls Tryz.prog 88 #[v] w fun e w' => e = .returned (.int .i64 (orL xs)) ∧ w = w' := by
  obtain ⟨hn, -, a, c, b, off, rfl, hc, ha, hcell⟩ := h
  have HC := Lib.hid hcell
  have HA := Lib.hid ha
  clear hcell ha
  obtain ⟨n, hn'⟩ : ∃ n, xs.length = n := ⟨_, rfl⟩
  have HL := Lib.hid hn'
  rw [hn'] at hn hc ⊢
  clear hn'
  go_enter Tryz.func88, Tryz.ntmps88
  go_wp2_with fail
  go_loopg [8] n (fun gh v wr => ∃ k : Nat, gh + k = n ∧ v = .int .i64 k ∧ (∀ y ∈ xs.take k, y = 0) ∧ w = wr)
  case atStart => exact ⟨0, by omega, rfl, by simp, rfl⟩
  case round =>
    obtain ⟨k, hk, rfl, hz, rfl⟩ := hrel
    have HZ := Lib.hid hz
    clear hz
    by_cases hlt : k < n
    · obtain ⟨x, hx⟩ : ∃ x, xs[k]? = some x := ⟨_, List.getElem?_eq_getElem (by have := HL.out; omega)⟩
      obtain rfl := HA.out (by have := HL.out; omega)
      have c1 := HC.out k x hx
      have hkz : (k : Int) < (n : Int) := by omega
      have hk0 : (0 : Int) ≤ (k : Int) := by omega
      have HX := Lib.hid hx
      clear hx
      by_cases hx0 : x = 0
      · have hb : (x == 0) = true := by simpa using hx0
        have HX0 := Lib.hid hx0
        clear hx0
        go_wp2_with fail
        go_roundg (gk - 1)
        case rel => exact ⟨k + 1, by omega, by go_num, fun y hy => by
          rw [List.take_add_one, HX.out] at hy
          rcases List.mem_append.1 hy with hy | hy
          · exact HZ.out y hy
          · simp at hy; rw [hy]; exact HX0.out, rfl⟩
        case measure => omega
      · have hb : (x == 0) = false := by simpa using hx0
        have HO : Hid (orL xs = x) := Lib.hid (by
          rw [orL_drop HZ.out, List.drop_eq_getElem_cons (by have := HL.out; omega)]
          have := HX.out
          rw [List.getElem?_eq_getElem (by have := HL.out; omega)] at this
          simp only [Option.some.injEq] at this
          rw [this]
          simp [orL, hx0])
        clear hx0
        go_wp2_with fail
        go_ret
        exact ⟨by rw [HO.out]; rfl, rfl⟩
    · have HO : Hid (orL xs = 0) := Lib.hid (by
        rw [orL_drop HZ.out, List.drop_eq_nil_of_le (by have := HL.out; omega)]; rfl)
      go_wp2_with fail
      go_ret
      exact ⟨by rw [HO.out]; rfl, rfl⟩

/-! ### members -/
end Go.Proofs.YtcnpncndecjahaaGreatDoor

/-
  Rows, changes, boxes; the rows of a store.
-/
namespace Go.Proofs.YtcnpncndecjahaaGreatDoor
open Go.RowKit Go.Shelf
open Go.Maps (Keyed)

/-- Some cells in a box. -/
structure BoxL (W : World) (z : Nat) (xs : List Value) : Prop where
  lt : z < W.heap.size
  cell : ∀ j x, xs[j]? = some x → W.cell? ⟨z, j, none⟩ = some x
  soft : ∀ o, W.frozen? ⟨z, o, none⟩ = false
theorem BoxL.keep {A : Nat → Prop} {W W' : World} {z : Nat} {xs : List Value} (h : BoxL W z xs) (k : Keep A W W') (hA : ¬ A z) : BoxL W' z xs :=
  ⟨Nat.lt_of_lt_of_le h.lt k.size, fun j x hj => k.cell (h.cell j x hj) hA, fun o => (k.frozen h.lt hA o).trans (h.soft o)⟩
theorem BoxL.kept {W W' : World} {z : Nat} {xs : List Value} (h : BoxL W z xs) (k : Keep (fun _ => False) W W') : BoxL W' z xs := h.keep k (fun h => h)
theorem BoxL.new (W : World) (xs : List Value) (t : TypeId) : BoxL (W.alloc (.cells xs.toArray t)) W.heap.size xs := by
  refine ⟨by simp, fun j x hj => ?_, fun o => by simp [go_sem]⟩
  unfold World.cell?
  rw [World.alloc_heap_new]
  simp [hj]
theorem BoxL.set {W : World} {z : Nat} {xs : List Value} (h : BoxL W z xs) (m : Nat) (hm : m < xs.length) (v : Value) : BoxL (W.setCell ⟨z, m, none⟩ v) z (xs.set m v) := by
  refine ⟨by simpa using h.lt, fun j x hj => ?_, fun o => (World.frozen?_setCell _ _ _ _).trans (h.soft o)⟩
  obtain ⟨u, hu⟩ : ∃ u, xs[m]? = some u := ⟨_, List.getElem?_eq_getElem hm⟩
  by_cases e : m = j
  · subst e
    rw [cell_set_same (h.cell m u hu)]
    rw [List.getElem?_set_self hm] at hj
    exact hj
  · rw [List.getElem?_set_ne e] at hj
    rw [cell_set_off e]
    exact h.cell j x hj
theorem BoxL.drew {W : World} {z : Nat} {xs : List Value} (h : BoxL W z xs) : BoxL W.drew z xs := ⟨h.lt, h.cell, h.soft⟩

abbrev vI (n : Int) : Value := .int .i64 n
/-- A row's cells. -/
abbrev rowC (r : R5) : List Value := [.int .i64 r.tb, .int .i64 r.ky, .int .i64 r.a, .int .i64 r.b, .int .i64 r.c]
abbrev rowV (r : R5) : Value := .agg #[.int .i64 r.tb, .int .i64 r.ky, .int .i64 r.a, .int .i64 r.b, .int .i64 r.c]
abbrev chC (c : Chg) : List Value := [.int .i64 c.tb, .int .i64 c.ky, .bool c.had, .int .i64 c.o0, .int .i64 c.o1, .int .i64 c.o2, .bool c.has, .int .i64 c.n0, .int .i64 c.n1, .int .i64 c.n2]
abbrev chV (c : Chg) : Value := .agg #[.int .i64 c.tb, .int .i64 c.ky, .bool c.had, .int .i64 c.o0, .int .i64 c.o1, .int .i64 c.o2, .bool c.has, .int .i64 c.n0, .int .i64 c.n1, .int .i64 c.n2]
abbrev idV (t k : Int) : Value := .agg #[.int .i64 t, .int .i64 k]
abbrev v3V (a b c : Int) : Value := .agg #[.int .i64 a, .int .i64 b, .int .i64 c]
/-- All numbers of a row are of int. -/
def R5.fine (r : R5) : Prop := I64 r.tb ∧ I64 r.ky ∧ I64 r.a ∧ I64 r.b ∧ I64 r.c
def Chg.fine (c : Chg) : Prop := c.old.fine ∧ c.new.fine
/-- Changes in a slice. -/
structure Chs (W : World) (v : Value) (l : List Chg) : Prop where
  n : l.length ≤ 1000000000
  fine : ∀ c ∈ l, c.fine
  at_ : ∃ a c b off, v = .slice a l.length c ∧ l.length ≤ c ∧ (0 < l.length → a = some ⟨b, off, none⟩) ∧ ∀ i ch, l[i]? = some ch → ∀ j x, (chC ch)[j]? = some x → W.cell? ⟨b, off + i * 10 + j, none⟩ = some x
theorem Chs.keep {W W' : World} {A : Nat → Prop} {v : Value} {l : List Chg} (h : Chs W v l) (k : Keep A W W') (hA : ∀ b, v.ownBlock = some b → ¬ A b) : Chs W' v l := by
  obtain ⟨hn, hf, a, c, b, off, rfl, hc, ha, h1⟩ := h
  refine ⟨hn, hf, a, c, b, off, rfl, hc, ha, fun i ch hi j x hj => ?_⟩
  have hp : 0 < l.length := by have := (List.getElem?_eq_some_iff.1 hi).1; omega
  refine k.cell (h1 i ch hi j x hj) (hA b ?_)
  rw [ha hp]; rfl
theorem Chs.kept {W W' : World} {v : Value} {l : List Chg} (h : Chs W v l) (k : Keep (fun _ => False) W W') : Chs W' v l := h.keep k (fun _ _ h => h)
/-- Rows in a slice. -/
structure Rws (W : World) (v : Value) (l : List R5) : Prop where
  n : l.length ≤ 1000000000
  at_ : ∃ a c b off, v = .slice a l.length c ∧ l.length ≤ c ∧ (0 < l.length → a = some ⟨b, off, none⟩) ∧ ∀ i r, l[i]? = some r → ∀ j x, (rowC r)[j]? = some x → W.cell? ⟨b, off + i * 5 + j, none⟩ = some x
theorem Rws.keep {W W' : World} {A : Nat → Prop} {v : Value} {l : List R5} (h : Rws W v l) (k : Keep A W W') (hA : ∀ b, v.ownBlock = some b → ¬ A b) : Rws W' v l := by
  obtain ⟨hn, a, c, b, off, rfl, hc, ha, h1⟩ := h
  refine ⟨hn, a, c, b, off, rfl, hc, ha, fun i ch hi j x hj => ?_⟩
  have hp : 0 < l.length := by have := (List.getElem?_eq_some_iff.1 hi).1; omega
  refine k.cell (h1 i ch hi j x hj) (hA b ?_)
  rw [ha hp]; rfl
theorem Rws.kept {W W' : World} {v : Value} {l : List R5} (h : Rws W v l) (k : Keep (fun _ => False) W W') : Rws W' v l := h.keep k (fun _ _ h => h)

/-! ### the map of a store -/
theorem wf_i64 {n : Int} (h : I64 n) : (Lit.int .i64 n).wf = true := by
  have e : wrap64 n = n := by unfold wrap64; unfold I64 at h; omega
  have := wrap64_wf n
  rwa [e] at this
theorem wrapI {n : Int} (h : I64 n) : IntKind.i64.wrap n = n := by
  unfold I64 at h
  simp only [IntKind.wrap, IntKind.bits, IntKind.signed]
  simp
  omega
theorem laidB : laidOutB Tryz.prog = true := by kernel_rfl
theorem idKeyed : Keyed Tryz.prog 131 := Keyed.of_law (deep_law_laid laidB (m := 2) (by decide) (Nat.le_of_ble_eq_true (by kernel_rfl)) (by kernel_rfl) (by kernel_rfl))
theorem keyId {t k : Int} (ht : I64 t) (hk : I64 k) : ∃ l, keyOf Tryz.prog 131 (idV t k) = some l := by
  have h1 := wf_i64 ht
  have h2 := wf_i64 hk
  have e1 : Tryz.prog.keyType 131 = true := by kernel_rfl
  have e2 : (idV t k).formed Tryz.prog 131 = true := by kernel_rfl
  refine ⟨.string (keyBytes [.int .i64 t, .int .i64 k]), ?_⟩
  unfold keyOf
  simp only [Tryz.underlying131]
  rw [e1, e2]
  simp only [Bool.and_self, if_true]
  have u3 := Tryz.underlying3
  have c3 : Tryz.prog.cellsOf 3 = 1 := by kernel_rfl
  have c65 : Tryz.prog.cellsOf 131 = 2 := by kernel_rfl
  obtain ⟨m, hm⟩ : ∃ m, Tryz.prog.types.size + 1 = m + 2 := by
    have h : 1 ≤ Tryz.prog.types.size := Nat.le_of_ble_eq_true (by kernel_rfl)
    exact ⟨Tryz.prog.types.size - 1, by omega⟩
  rw [hm]
  unfold Program.keyLits
  simp only [Tryz.underlying131]
  simp [c65, c3, Program.keyLits, u3, h1, h2, Value.cells]
end Go.Proofs.YtcnpncndecjahaaGreatDoor

/-
  Results of queries: plain laws.
-/
namespace Go.Proofs.YtcnpncndecjahaaGreatDoor
open Go.RowKit

/-- A result: a number, whether it was found, rows. -/
structure Rz where
  v : Int
  f : Bool
  rows : List R5
def partR (ot : Int) (others : List R5) (k : Int) : Option R5 := others.find? (fun x => decide (x.tb = ot) && decide (x.ky = k))
def pairR (q : Qy) (others : List R5) (r : R5) : List R5 := match partR q.ot others (r.val q.bb) with | some x => [r, x] | none => []
def joinR (q : Qy) (rows others : List R5) : List R5 := rows.flatMap (pairR q others)
def sumS (p : Int × Bool) (n : Int) : Int × Bool := (wrap64 (p.1 + n), p.2)
def cntS (p : Int × Bool) (_ : R5) : Int × Bool := (wrap64 (p.1 + 1), p.2)
def extS (b : Int → Int → Bool) (p : Int × Bool) (n : Int) : Int × Bool := (if !p.2 || b n p.1 then n else p.1, true)
def ltB (a b : Int) : Bool := decide (a < b)
def gtB (a b : Int) : Bool := decide (b < a)
def measR (q : Qy) (rows : List R5) : List Int := rows.map (fun r => r.val q.bb)
def rzP (p : Int × Bool) : Rz := ⟨p.1, p.2, []⟩
/-- The result of a query from the rows of its scan and the rows of its other table. -/
def fromR (q : Qy) (rows others : List R5) : Rz :=
  if q.ok then
    if q.kd = 3 then rzP (rows.foldl cntS (0, false))
    else if q.kd = 4 then rzP ((measR q rows).foldl sumS (0, false))
    else if q.kd = 5 then rzP ((measR q rows).foldl (extS ltB) (0, false))
    else if q.kd = 6 then rzP ((measR q rows).foldl (extS gtB) (0, false))
    else if q.kd = 7 then ⟨0, false, joinR q rows others⟩
    else ⟨0, false, rows⟩
  else ⟨0, false, []⟩
theorem wrapB (x : Int) : I64 (wrap64 x) := by
  unfold wrap64 I64
  omega
theorem val_fine {r : R5} (h : r.fine) (c : Int) : I64 (r.val c) := by
  obtain ⟨-, h1, h2, h3, h4⟩ := h
  unfold R5.val
  split
  · exact h1
  · split
    · exact h2
    · split
      · exact h3
      · split
        · exact h4
        · unfold I64; omega
end Go.Proofs.YtcnpncndecjahaaGreatDoor

/-
  The rows of a store, kept in a map.
-/
namespace Go.Proofs.YtcnpncndecjahaaGreatDoor
open Go.RowKit Go.Shelf

def idRel (l : List R5) (k v : Value) : Prop := ∃ r ∈ l, k = idV r.tb r.ky ∧ v = rowV r
theorem rowV_inj {r s : R5} (h : rowV r = rowV s) : r = s := by
  obtain ⟨a, b, c, d, e⟩ := r
  obtain ⟨a', b', c', d', e'⟩ := s
  simp at h
  obtain ⟨rfl, rfl, rfl, rfl, rfl⟩ := h
  rfl
theorem idV_inj {a b c d : Int} (h : idV a b = idV c d) : a = c ∧ b = d := by simpa using h
/-- A store at z, its map at mb: the rows l, the position p. -/
structure StA (W : World) (z mb : Nat) (l : List R5) (p : Int) : Prop where
  box : BoxL W z [.map (some mb), .int .i64 p]
  mp : MapRel Tryz.prog 131 W mb (idRel l)
  nd : (l.map R5.rid).Nodup
  fine : ∀ r ∈ l, r.fine
theorem StA.ne {W : World} {z mb : Nat} {l : List R5} {p : Int} (h : StA W z mb l p) : z ≠ mb := h.mp.not_cell (h.box.cell 0 _ rfl)
theorem StA.keep {A : Nat → Prop} {W W' : World} {z mb : Nat} {l : List R5} {p : Int} (h : StA W z mb l p) (k : Keep A W W') (h1 : ¬ A z) (h2 : ¬ A mb) : StA W' z mb l p :=
  ⟨h.box.keep k h1, h.mp.of_heap (k.block _ h.mp.lt h2), h.nd, h.fine⟩
theorem StA.kept {W W' : World} {z mb : Nat} {l : List R5} {p : Int} (h : StA W z mb l p) (k : Keep (fun _ => False) W W') : StA W' z mb l p := h.keep k (fun h => h) (fun h => h)
theorem StA.drew {W : World} {z mb : Nat} {l : List R5} {p : Int} (h : StA W z mb l p) : StA W.drew z mb l p := h.kept (Keep.refl _ W).drew
theorem zeroRow (w : World) : (zeroValue 67).run Tryz.prog w = .ok (rowV ⟨0, 0, 0, 0, 0⟩) w := by kernel_rfl
/-- What a store says of a key. -/
def lookV : Option R5 → Value
  | none => .tuple #[rowV ⟨0, 0, 0, 0, 0⟩, .bool false]
  | some r => .tuple #[rowV r, .bool true]
theorem StA.look {W : World} {z mb : Nat} {l : List R5} {p : Int} (h : StA W z mb l p) {t k : Int} (ht : I64 t) (hk : I64 k) :
    (Instr.lookup 125 (.map (some mb)) (idV t k) true).run Tryz.prog W = .ok (lookV (getR l t k)) W := by
  obtain ⟨kl, hkl⟩ := keyId ht hk
  rcases h.mp.look idKeyed Tryz.underlying125 (zeroRow W) true hkl with ⟨a, b⟩ | ⟨v, ⟨r, hr, e1, rfl⟩, b⟩
  · have e : getR l t k = none := by
      cases e : getR l t k with
      | none => rfl
      | some r =>
        obtain ⟨h1, h2, h3⟩ := getR_some e
        exact absurd ⟨r, h1, by rw [h2, h3], rfl⟩ (a (rowV r))
    rw [e]; exact b
  · obtain ⟨rfl, rfl⟩ := idV_inj e1
    rw [getR_of h.nd hr]; exact b
theorem StA.len {W : World} {z mb : Nat} {l : List R5} {p : Int} (h : StA W z mb l p) (ty : TypeId) : (Builtin.len_ #[125] ty #[.map (some mb)]).run Tryz.prog W = .ok (.int .i64 l.length) W := by
  obtain ⟨left, h1, h2, h3⟩ := h.mp.len Tryz.underlying125
  rw [h3]
  congr 3
  have hp : (left.map (·.1)).Perm (l.map (fun r => idV r.tb r.ky)) := by
    rw [List.perm_ext_iff_of_nodup h1]
    · intro k
      simp only [List.mem_map]
      constructor
      · rintro ⟨⟨k', v⟩, hm, rfl⟩
        obtain ⟨r, hr, e, _⟩ := (h2 _ _).1 hm
        exact ⟨r, hr, e.symm⟩
      · rintro ⟨r, hr, rfl⟩
        exact ⟨(idV r.tb r.ky, rowV r), (h2 _ _).2 ⟨r, hr, rfl, rfl⟩, rfl⟩
    · have h4 := h.nd
      rw [List.nodup_iff_pairwise_ne, List.pairwise_map] at h4 ⊢
      refine h4.imp ?_
      intro a b hne e
      obtain ⟨e1, e2⟩ := idV_inj e
      exact hne (by unfold R5.rid; rw [e1, e2])
  have := hp.length_eq
  simp only [List.length_map] at this
  rw [this]
/-- What a change leaves in the map. -/
theorem idRel_put {l : List R5} {c : Chg} (hc : c.has = true) (k v : Value) : idRel (stepR l c) k v ↔ (k = idV c.tb c.ky ∧ v = rowV c.new) ∨ (k ≠ idV c.tb c.ky ∧ idRel l k v) := by
  unfold idRel stepR
  rw [if_pos hc]
  constructor
  · rintro ⟨r, hr, rfl, rfl⟩
    rcases List.mem_append.1 hr with hr | hr
    · obtain ⟨h1, h2⟩ := List.mem_filter.1 hr
      refine .inr ⟨fun e => ?_, r, h1, rfl, rfl⟩
      obtain ⟨e1, e2⟩ := idV_inj e
      simp only [Bool.not_eq_true', decide_eq_false_iff_not] at h2
      exact h2 (by unfold R5.rid; rw [e1, e2])
    · rw [List.mem_singleton] at hr
      subst hr
      exact .inl ⟨rfl, rfl⟩
  · rintro (⟨rfl, rfl⟩ | ⟨hne, r, hr, rfl, rfl⟩)
    · exact ⟨c.new, List.mem_append.2 (.inr (List.mem_singleton.2 rfl)), rfl, rfl⟩
    · refine ⟨r, List.mem_append.2 (.inl (List.mem_filter.2 ⟨hr, ?_⟩)), rfl, rfl⟩
      simp only [Bool.not_eq_true', decide_eq_false_iff_not]
      intro e
      unfold R5.rid at e
      rw [Prod.mk.injEq] at e
      exact hne (by rw [e.1, e.2])
theorem idRel_del {l : List R5} {c : Chg} (hc : c.has = false) (k v : Value) : idRel (stepR l c) k v ↔ (k ≠ idV c.tb c.ky ∧ idRel l k v) := by
  unfold idRel stepR
  rw [hc]
  simp only [Bool.false_eq_true, if_false, List.append_nil]
  constructor
  · rintro ⟨r, hr, rfl, rfl⟩
    obtain ⟨h1, h2⟩ := List.mem_filter.1 hr
    refine ⟨fun e => ?_, r, h1, rfl, rfl⟩
    obtain ⟨e1, e2⟩ := idV_inj e
    simp only [Bool.not_eq_true', decide_eq_false_iff_not] at h2
    exact h2 (by unfold R5.rid; rw [e1, e2])
  · rintro ⟨hne, r, hr, rfl, rfl⟩
    refine ⟨r, List.mem_filter.2 ⟨hr, ?_⟩, rfl, rfl⟩
    simp only [Bool.not_eq_true', decide_eq_false_iff_not]
    intro e
    unfold R5.rid at e
    rw [Prod.mk.injEq] at e
    exact hne (by rw [e.1, e.2])
theorem stepR_fine {l : List R5} (h : ∀ r ∈ l, r.fine) {c : Chg} (hc : c.fine) : ∀ r ∈ stepR l c, r.fine := by
  intro r hr
  unfold stepR at hr
  rcases List.mem_append.1 hr with hr | hr
  · exact h r (List.mem_filter.1 hr).1
  · split at hr
    · rw [List.mem_singleton] at hr
      subst hr
      exact hc.2
    · cases hr
theorem BoxL.put {W : World} {z b : Nat} {xs : List Value} {ob : Obj} (h : BoxL W z xs) (hb : z ≠ b) : BoxL (W.putObj b ob) z xs :=
  h.keep ((Keep.refl (fun j => j = b) W).putObj ob (.inl rfl)) hb
theorem StA.update {W : World} {z mb : Nat} {l : List R5} {p : Int} (h : StA W z mb l p) {c : Chg} (hc : c.has = true) (hf : c.fine) :
    ∃ es ck, (Instr.mapUpdate 125 (.map (some mb)) (idV c.tb c.ky) (rowV c.new)).run Tryz.prog W = .ok () (W.putObj mb (.map es ck)) ∧ StA (W.putObj mb (.map es ck)) z mb (stepR l c) p := by
  obtain ⟨kl, hkl⟩ := keyId hf.1.1 hf.1.2.1
  obtain ⟨es, ck, hup, hm⟩ := h.mp.update idKeyed Tryz.underlying125 hkl (rowV c.new)
  exact ⟨es, ck, hup, h.box.put h.ne, hm.congr (idRel_put hc), stepR_nodup h.nd c, stepR_fine h.fine hf⟩
theorem StA.delete {W : World} {z mb : Nat} {l : List R5} {p : Int} (h : StA W z mb l p) {c : Chg} (hc : c.has = false) (hf : c.fine) (ty : TypeId) :
    ∃ es ck, (Builtin.delete_ #[125, 131] ty #[.map (some mb), idV c.tb c.ky]).run Tryz.prog W = .ok (.tuple #[]) (W.putObj mb (.map es ck)) ∧ StA (W.putObj mb (.map es ck)) z mb (stepR l c) p := by
  obtain ⟨kl, hkl⟩ := keyId hf.1.1 hf.1.2.1
  obtain ⟨es, ck, hup, hm⟩ := h.mp.delete idKeyed Tryz.underlying125 hkl ty
  exact ⟨es, ck, hup, h.box.put h.ne, hm.congr (idRel_del hc), stepR_nodup h.nd c, stepR_fine h.fine hf⟩
theorem StA.setPos {W : World} {z mb : Nat} {l : List R5} {p : Int} (h : StA W z mb l p) (q : Int) : StA (W.setCell ⟨z, 1, none⟩ (.int .i64 q)) z mb l q :=
  ⟨h.box.set 1 (by simp) _, h.mp.of_heap (heap_set_ne h.ne.symm), h.nd, h.fine⟩
theorem StA.made {W : World} (t : TypeId) : StA ((W.alloc (.map #[] 0)).alloc (.cells #[.map (some W.heap.size), .int .i64 0] t)) (W.heap.size + 1) W.heap.size [] 0 := by
  refine ⟨?_, ?_, by simp, by simp⟩
  · have := BoxL.new (W.alloc (.map #[] 0)) [.map (some W.heap.size), .int .i64 0] t
    rw [World.size_alloc] at this
    exact this
  · refine MapRel.of_heap (w := W.alloc (.map #[] 0)) ((MapRel.made _ _ W).congr (fun k v => ?_)) (Below.heap_alloc _ _ _ (by simp))
    simp [idRel]
end Go.Proofs.YtcnpncndecjahaaGreatDoor

/-
  within of package row.
-/
namespace Go.Proofs.YtcnpncndecjahaaGreatDoor
open Go.RowKit Go.Shelf

def outB (lo hi n : Int) : Bool := decide (n < lo) || decide (n > hi)
theorem wiB_eq (lo hi : Int) (l : List Int) : wiB lo hi l = !(l.any (outB lo hi)) := rfl
set_option maxRecDepth 100000 in
theorem rin1_any (n : Int) (b1 b2 : Nat) (lo hi : Int) (w : World) (h1 : w.cell? ⟨b1, 0, none⟩ = some (.int .i64 lo)) (h2 : w.cell? ⟨b2, 0, none⟩ = some (.int .i64 hi)) : Calls Tryz.prog 104 #[.int .i64 n, ptr b1, ptr b2] w fun e w' => e = .returned (.bool (outB lo hi n)) ∧ w = w' := by
  by_cases h : n < lo
  · have HO : Hid (outB lo hi n = true) := Lib.hid (by unfold outB; rw [decide_eq_true h]; rfl)
    go_enter Tryz.func104, Tryz.ntmps104
    go_wp2_with fail
    go_ret
    exact ⟨by rw [HO.out]; rfl, rfl⟩
  · have HO : Hid (outB lo hi n = decide (n > hi)) := Lib.hid (by unfold outB; rw [decide_eq_false h]; rfl)
    go_enter Tryz.func104, Tryz.ntmps104
    go_wp2_with fail
    go_ret
    exact ⟨by rw [HO.out]; rfl, rfl⟩
abbrev rinV (b1 b2 : Nat) : Value := .func (.func 104) #[] #[ptr b1, ptr b2]
set_option maxRecDepth 100000 in
set_option maxHeartbeats 1000000 in
theorem rindex_any (v : Value) (l : List Int) (b1 b2 : Nat) (lo hi : Int) (w : World) (h : Its w v l) (h1 : w.cell? ⟨b1, 0, none⟩ = some (.int .i64 lo)) (h2 : w.cell? ⟨b2, 0, none⟩ = some (.int .i64 hi)) : Calls Tryz.prog 120 #[v, rinV b1 b2] w fun e w' => (∃ r, e = .returned (.int .i64 r) ∧ decide (0 ≤ r) = l.any (outB lo hi)) ∧ w = w' := by
  obtain ⟨hn, -, a, c, bb, off, rfl, hc, ha, hcell⟩ := h
  have HC := Lib.hid hcell
  have HA := Lib.hid ha
  have HB : Hid (∀ n, Calls Tryz.prog 104 #[.int .i64 n, ptr b1, ptr b2] w fun e w' => e = .returned (.bool (outB lo hi n)) ∧ w = w') := Lib.hid (fun n => rin1_any n b1 b2 lo hi w h1 h2)
  clear hcell ha h1 h2
  obtain ⟨ln, hn'⟩ : ∃ n, l.length = n := ⟨_, rfl⟩
  have HL := Lib.hid hn'
  rw [hn'] at hc hn ⊢
  clear hn'
  go_enter Tryz.func120, Tryz.ntmps120
  go_wp2_with fail
  go_loopg [8] ln (fun gh v wr => ∃ k : Nat, gh + k = ln ∧ v = .int .i64 k ∧ Hid (∀ j m, j < k → l[j]? = some m → outB lo hi m = false) ∧ w = wr)
  case atStart => exact ⟨0, by omega, rfl, Lib.hid (fun j m h => by omega), rfl⟩
  case round =>
    obtain ⟨k, hk, rfl, HN, rfl⟩ := hrel
    by_cases hlt : k < ln
    · obtain ⟨m, hm⟩ : ∃ m, l[k]? = some m := ⟨_, List.getElem?_eq_getElem (by have := HL.out; omega)⟩
      obtain rfl := HA.out (by have := HL.out; omega)
      have c0 := HC.out k m hm
      have HM := Lib.hid hm
      have hkz : (k : Int) < (ln : Int) := by omega
      have hk0 : (0 : Int) ≤ (k : Int) := by omega
      clear hm
      go_wp2_with fail
      clear c0
      refine (HB.out m).mono ?_
      rintro e W2 ⟨rfl, rfl⟩
      cases hx : outB lo hi m with
      | true =>
        have HX := Lib.hid hx
        clear hx
        go_wp2_with fail
        go_ret
        exact ⟨⟨_, rfl, by rw [decide_eq_true (by omega), eq_comm, List.any_eq_true]; exact ⟨m, List.mem_of_getElem? HM.out, HX.out⟩⟩, rfl⟩
      | false =>
        have HNN : Hid (∀ j x, j < k + 1 → l[j]? = some x → outB lo hi x = false) := Lib.hid (fun j x hj hm => by
          by_cases e : j = k
          · subst e
            rw [HM.out] at hm
            cases hm
            exact hx
          · exact HN.out j x (by omega) hm)
        clear hx
        go_wp2_with fail
        go_roundg (gk - 1)
        case rel => exact ⟨k + 1, by omega, by go_num, HNN, rfl⟩
        case measure => omega
    · go_wp2_with fail
      go_ret
      exact ⟨⟨_, rfl, by
        rw [decide_eq_false (by decide), eq_comm, List.any_eq_false]
        intro m hm
        obtain ⟨j, hj⟩ := List.mem_iff_getElem?.1 hm
        rw [HN.out j m (by have := (List.getElem?_eq_some_iff.1 hj).1; have := HL.out; omega) hj]
        decide⟩, rfl⟩
set_option maxRecDepth 100000 in
set_option maxHeartbeats 1000000 in
theorem rcontains_any (v : Value) (l : List Int) (b1 b2 : Nat) (lo hi : Int) (w : World) (h : Its w v l) (h1 : w.cell? ⟨b1, 0, none⟩ = some (.int .i64 lo)) (h2 : w.cell? ⟨b2, 0, none⟩ = some (.int .i64 hi)) : Calls Tryz.prog 103 #[v, rinV b1 b2] w fun e w' => e = .returned (.bool (l.any (outB lo hi))) ∧ w = w' := by
  have HI := Lib.hid (rindex_any v l b1 b2 lo hi w h h1 h2)
  clear h h1 h2
  go_enter Tryz.func103, Tryz.ntmps103
  go_wp2_with fail
  with_reducible refine HI.out.mono ?_
  rintro e W1 ⟨⟨r, rfl, hr⟩, rfl⟩
  have HR := Lib.hid hr
  clear hr
  go_wp2_with fail
  go_ret
  exact ⟨by rw [← HR.out] <;> rfl, rfl⟩
theorem one_cell (W : World) (x : Value) (t : TypeId) : (W.alloc (.cells #[x] t)).cell? ⟨W.heap.size, 0, none⟩ = some x := (BoxL.new W [x] t).cell 0 x rfl
set_option maxRecDepth 100000 in
set_option maxHeartbeats 1000000 in
theorem rwithin_any (lo hi : Int) (v : Value) (l : List Int) (w : World) (h : Its w v l) : Calls Tryz.prog 94 #[.int .i64 lo, .int .i64 hi, v] w fun e w' => e = .returned (.bool (wiB lo hi l)) ∧ Keep (fun _ => False) w w' := by
  have k1 : Keep (fun _ => False) w (w.alloc (.cells #[.int .i64 lo] 3)) := (Keep.refl _ w).alloc _
  have k2 : Keep (fun _ => False) (w.alloc (.cells #[.int .i64 lo] 3)) ((w.alloc (.cells #[.int .i64 lo] 3)).alloc (.cells #[.int .i64 hi] 3)) := (Keep.refl _ _).alloc _
  have HK := Lib.hid (k1.trans k2)
  have HC := Lib.hid (rcontains_any v l w.heap.size (w.heap.size + 1) lo hi _ (h.kept HK.out) (k2.cell (one_cell _ _ _) (fun h => h)) (by have := one_cell (w.alloc (.cells #[.int .i64 lo] 3)) (.int .i64 hi) 3; rwa [World.size_alloc] at this))
  clear k1 k2 h
  go_enter Tryz.func94, Tryz.ntmps94
  go_wp2_with fail
  with_reducible refine HC.out.mono ?_
  rintro e W1 ⟨rfl, rfl⟩
  go_wp2_with fail
  go_ret
  exact ⟨by rw [wiB_eq] <;> rfl, HK.out⟩
end Go.Proofs.YtcnpncndecjahaaGreatDoor

/-
  Valid, half, sound, ValidChange of package row.
-/
namespace Go.Proofs.YtcnpncndecjahaaGreatDoor
open Go.RowKit Go.Shelf

theorem its_one (W : World) (x : Int) (t : TypeId) (hx : I64 x) : Its (W.alloc (.cells #[.int .i64 x] t)) (.slice (some ⟨W.heap.size, 0, none⟩) 1 1) [x] := by
  refine ⟨by simp, by simpa using hx, some ⟨W.heap.size, 0, none⟩, 1, W.heap.size, 0, rfl, by simp, fun _ => rfl, fun j y hj => ?_⟩
  rcases j with _ | j
  · simp at hj
    subst hj
    exact one_cell _ _ _
  · simp at hj
theorem its_v {W : World} {z : Nat} {r : R5} (h : BoxL W z (rowC r)) (hf : r.fine) : Its W (.slice (some ⟨z, 2, none⟩) 3 3) [r.a, r.b, r.c] := by
  refine ⟨by simp, ?_, some ⟨z, 2, none⟩, 3, z, 2, rfl, by simp, fun _ => rfl, fun j y hj => ?_⟩
  · intro x hx
    simp only [List.mem_cons, List.not_mem_nil, or_false] at hx
    rcases hx with rfl | rfl | rfl
    · exact hf.2.2.1
    · exact hf.2.2.2.1
    · exact hf.2.2.2.2
  · rcases j with _ | _ | _ | j
    · simp at hj; subst hj; exact h.cell 2 _ rfl
    · simp at hj; subst hj; exact h.cell 3 _ rfl
    · simp at hj; subst hj; exact h.cell 4 _ rfl
    · simp at hj
theorem BoxL.row {W : World} {z : Nat} {r : R5} (h : BoxL W z (rowC r)) : W.cell? ⟨z, 0, none⟩ = some (.int .i64 r.tb) ∧ W.cell? ⟨z, 1, none⟩ = some (.int .i64 r.ky) ∧ W.cell? ⟨z, 2, none⟩ = some (.int .i64 r.a) ∧ W.cell? ⟨z, 3, none⟩ = some (.int .i64 r.b) ∧ W.cell? ⟨z, 4, none⟩ = some (.int .i64 r.c) :=
  ⟨h.cell 0 _ rfl, h.cell 1 _ rfl, h.cell 2 _ rfl, h.cell 3 _ rfl, h.cell 4 _ rfl⟩
theorem BoxL.chg {W : World} {z : Nat} {c : Chg} (h : BoxL W z (chC c)) : W.cell? ⟨z, 0, none⟩ = some (.int .i64 c.tb) ∧ W.cell? ⟨z, 1, none⟩ = some (.int .i64 c.ky) ∧ W.cell? ⟨z, 2, none⟩ = some (.bool c.had) ∧ W.cell? ⟨z, 3, none⟩ = some (.int .i64 c.o0) ∧ W.cell? ⟨z, 4, none⟩ = some (.int .i64 c.o1) ∧ W.cell? ⟨z, 5, none⟩ = some (.int .i64 c.o2) ∧ W.cell? ⟨z, 6, none⟩ = some (.bool c.has) ∧ W.cell? ⟨z, 7, none⟩ = some (.int .i64 c.n0) ∧ W.cell? ⟨z, 8, none⟩ = some (.int .i64 c.n1) ∧ W.cell? ⟨z, 9, none⟩ = some (.int .i64 c.n2) :=
  ⟨h.cell 0 _ rfl, h.cell 1 _ rfl, h.cell 2 _ rfl, h.cell 3 _ rfl, h.cell 4 _ rfl, h.cell 5 _ rfl, h.cell 6 _ rfl, h.cell 7 _ rfl, h.cell 8 _ rfl, h.cell 9 _ rfl⟩
theorem BoxL.put5 {W : World} {z : Nat} {u0 u1 u2 u3 u4 : Value} (h : BoxL W z [u0, u1, u2, u3, u4]) (r : R5) : ∃ W2, (((((W.setCell ⟨z, 0, none⟩ (.int .i64 r.tb)).setCell ⟨z, 1, none⟩ (.int .i64 r.ky)).setCell ⟨z, 2, none⟩ (.int .i64 r.a)).setCell ⟨z, 3, none⟩ (.int .i64 r.b)).setCell ⟨z, 4, none⟩ (.int .i64 r.c)) = W2 ∧ BoxL W2 z (rowC r) ∧ Keep (fun i => i = z) W W2 :=
  ⟨_, rfl, (((((h.set 0 (by simp) (.int .i64 r.tb)).set 1 (by simp) (.int .i64 r.ky)).set 2 (by simp) (.int .i64 r.a)).set 3 (by simp) (.int .i64 r.b)).set 4 (by simp) (.int .i64 r.c)), ((((((Keep.refl (fun i => i = z) W).setCell (p := ⟨z, 0, none⟩) (.int .i64 r.tb) (.inl rfl)).setCell (p := ⟨z, 1, none⟩) (.int .i64 r.ky) (.inl rfl)).setCell (p := ⟨z, 2, none⟩) (.int .i64 r.a) (.inl rfl)).setCell (p := ⟨z, 3, none⟩) (.int .i64 r.b) (.inl rfl)).setCell (p := ⟨z, 4, none⟩) (.int .i64 r.c) (.inl rfl))⟩
theorem BoxL.put10 {W : World} {z : Nat} {u0 u1 u2 u3 u4 u5 u6 u7 u8 u9 : Value} (h : BoxL W z [u0, u1, u2, u3, u4, u5, u6, u7, u8, u9]) (c : Chg) : ∃ W2, ((((((((((W.setCell ⟨z, 0, none⟩ (.int .i64 c.tb)).setCell ⟨z, 1, none⟩ (.int .i64 c.ky)).setCell ⟨z, 2, none⟩ (.bool c.had)).setCell ⟨z, 3, none⟩ (.int .i64 c.o0)).setCell ⟨z, 4, none⟩ (.int .i64 c.o1)).setCell ⟨z, 5, none⟩ (.int .i64 c.o2)).setCell ⟨z, 6, none⟩ (.bool c.has)).setCell ⟨z, 7, none⟩ (.int .i64 c.n0)).setCell ⟨z, 8, none⟩ (.int .i64 c.n1)).setCell ⟨z, 9, none⟩ (.int .i64 c.n2)) = W2 ∧ BoxL W2 z (chC c) ∧ Keep (fun i => i = z) W W2 :=
  ⟨_, rfl, ((((((((((h.set 0 (by simp) (.int .i64 c.tb)).set 1 (by simp) (.int .i64 c.ky)).set 2 (by simp) (.bool c.had)).set 3 (by simp) (.int .i64 c.o0)).set 4 (by simp) (.int .i64 c.o1)).set 5 (by simp) (.int .i64 c.o2)).set 6 (by simp) (.bool c.has)).set 7 (by simp) (.int .i64 c.n0)).set 8 (by simp) (.int .i64 c.n1)).set 9 (by simp) (.int .i64 c.n2)), (((((((((((Keep.refl (fun i => i = z) W).setCell (p := ⟨z, 0, none⟩) (.int .i64 c.tb) (.inl rfl)).setCell (p := ⟨z, 1, none⟩) (.int .i64 c.ky) (.inl rfl)).setCell (p := ⟨z, 2, none⟩) (.bool c.had) (.inl rfl)).setCell (p := ⟨z, 3, none⟩) (.int .i64 c.o0) (.inl rfl)).setCell (p := ⟨z, 4, none⟩) (.int .i64 c.o1) (.inl rfl)).setCell (p := ⟨z, 5, none⟩) (.int .i64 c.o2) (.inl rfl)).setCell (p := ⟨z, 6, none⟩) (.bool c.has) (.inl rfl)).setCell (p := ⟨z, 7, none⟩) (.int .i64 c.n0) (.inl rfl)).setCell (p := ⟨z, 8, none⟩) (.int .i64 c.n1) (.inl rfl)).setCell (p := ⟨z, 9, none⟩) (.int .i64 c.n2) (.inl rfl))⟩
theorem keep_cells (W : World) (cs : Array Value) (t : TypeId) : Keep (fun _ => False) W (W.alloc (.cells cs t)) := (Keep.refl _ W).alloc _

set_option maxRecDepth 100000 in
set_option maxHeartbeats 1000000 in
theorem okRow_any (r : R5) (hf : r.fine) (w : World) : Calls Tryz.prog 121 #[rowV r] w fun e w' => e = .returned (.bool (okRow r)) ∧ Keep (fun _ => False) w w' := by
  have K0 := Lib.hid (keep_cells w (rowC r).toArray 67)
  have HB0 := Lib.hid (BoxL.new w (rowC r) 67)
  have HF := Lib.hid hf
  have HO : Hid (okRow r = (wiB 0 3 [r.tb] && (wiB 1 1000000 [r.ky] && wiB (-1000000000) 1000000000 [r.a, r.b, r.c]))) := Lib.hid rfl
  clear hf
  go_enter Tryz.func121, Tryz.ntmps121
  go_upto_region 1 with (fail)
  generalize hW0 : w.alloc (.cells (rowC r).toArray 67) = W0 at *
  generalize w.heap.size = z at *
  obtain ⟨c0, c1, -, -, -⟩ := HB0.out.row
  have I1 := Lib.hid (its_one W0 r.tb 3 HF.out.1)
  have KA1 := Lib.hid (K0.out.alloc (.cells #[.int .i64 r.tb] 3))
  have HB1 := Lib.hid (HB0.out.kept (keep_cells W0 #[.int .i64 r.tb] 3))
  go_wp2_with fail
  with_reducible refine (rwithin_any 0 3 _ [r.tb] _ I1.out).mono ?_
  rintro e W1 ⟨rfl, k1⟩
  have K1 := Lib.hid (KA1.out.trans k1)
  have HB2 := Lib.hid (HB1.out.kept k1)
  clear k1 I1 KA1 HB1 c0 c1
  cases h1 : wiB 0 3 [r.tb] with
  | false =>
    rw [h1] at HO
    go_wp2_with fail
    go_ret
    exact ⟨by rw [HO.out]; rfl, K1.out⟩
  | true =>
    rw [h1] at HO
    obtain ⟨-, c1, -, -, -⟩ := HB2.out.row
    have I1 := Lib.hid (its_one W1 r.ky 3 HF.out.2.1)
    have KA1 := Lib.hid (K1.out.alloc (.cells #[.int .i64 r.ky] 3))
    have HB1 := Lib.hid (HB2.out.kept (keep_cells W1 #[.int .i64 r.ky] 3))
    go_wp2_with fail
    with_reducible refine (rwithin_any 1 1000000 _ [r.ky] _ I1.out).mono ?_
    rintro e W2 ⟨rfl, k1⟩
    have K2 := Lib.hid (KA1.out.trans k1)
    have HB3 := Lib.hid (HB1.out.kept k1)
    clear k1 I1 KA1 HB1 c1
    cases h2 : wiB 1 1000000 [r.ky] with
    | false =>
      rw [h2] at HO
      go_wp2_with fail
      go_ret
      exact ⟨by rw [HO.out]; rfl, K2.out⟩
    | true =>
      rw [h2] at HO
      have I2 := Lib.hid (its_v HB3.out HF.out)
      go_wp2_with fail
      with_reducible refine (rwithin_any (-1000000000) 1000000000 _ [r.a, r.b, r.c] _ I2.out).mono ?_
      rintro e W3 ⟨rfl, k1⟩
      have K3 := Lib.hid (K2.out.trans k1)
      clear k1
      generalize wiB (-1000000000) 1000000000 [r.a, r.b, r.c] = q at *
      go_wp2_with fail
      go_ret
      exact ⟨by rw [HO.out]; rfl, K3.out⟩
end Go.Proofs.YtcnpncndecjahaaGreatDoor

/-
  half, sound, ValidChange of package row.
-/
namespace Go.Proofs.YtcnpncndecjahaaGreatDoor
open Go.RowKit Go.Shelf

theorem eqIn_v3 (a b c a' b' c' : Int) (w : World) : (Op.equalIn 10000 63 (v3V a b c) (v3V a' b' c')).run Tryz.prog w = .ok (a == a' && (b == b' && c == c')) w := by
  obtain ⟨i, hi⟩ : ∃ i, Tryz.prog.info? 3 = some i := Option.isSome_iff_exists.1 (by kernel_rfl)
  have u3 := Tryz.underlying3
  have a3 := Tryz.isAgg3
  have z3 : Tryz.prog.cellsOf 3 = 1 := by kernel_rfl
  rw [show (10000 : Nat) = 9999 + 1 from rfl, run_equalIn_array w 9999 _ _ Tryz.underlying63 hi, z3]
  have r3 : List.range 3 = [0, 1, 2] := rfl
  rw [r3]
  simp only [Op.eqItems]
  go_simp
  (repeat' split) <;> simp [*]
theorem eql_v3 (a b c a' b' c' : Int) (w : World) : (binOp .eql 63 (v3V a b c) (v3V a' b' c')).run Tryz.prog w = .ok (.bool (a == a' && (b == b' && c == c'))) w := by
  rw [run_eql_struct, eqIn_v3]; rfl
theorem neq_v3 (a b c a' b' c' : Int) (w : World) : (binOp .neq 63 (v3V a b c) (v3V a' b' c')).run Tryz.prog w = .ok (.bool (!(a == a' && (b == b' && c == c')))) w := by
  rw [run_neq_struct, eqIn_v3]; rfl
theorem guardV : Tryz.prog.eqGuardType Tryz.prog.depth 63 = false := by kernel_rfl
def halfR (r : R5) (there : Bool) : R5 := if there then r else ⟨0, 0, 0, 0, 0⟩
set_option maxRecDepth 100000 in
set_option maxHeartbeats 1000000 in
theorem half_any (c : Chg) (there : Bool) (x y z : Int) (w : World) : Calls Tryz.prog 84 #[chV c, .bool there, v3V x y z] w fun e w' => e = .returned (.tuple #[rowV (halfR ⟨c.tb, c.ky, x, y, z⟩ there), .bool there]) ∧ Keep (fun _ => False) w w' := by
  have K1 : Keep (fun _ => False) w (w.alloc (.cells (chC c).toArray 65)) := keep_cells _ _ _
  have B1 := BoxL.new w (chC c) 65
  obtain ⟨tb, ky, had, o0, o1, o2, has, n0, n1, n2⟩ := c
  have K2 := K1.alloc (.cells #[.int .i64 x, .int .i64 y, .int .i64 z] 63)
  have B2 := B1.kept (keep_cells _ #[.int .i64 x, .int .i64 y, .int .i64 z] 63)
  have V2 := BoxL.new (w.alloc (.cells #[.int .i64 tb, .int .i64 ky, .bool had, .int .i64 o0, .int .i64 o1, .int .i64 o2, .bool has, .int .i64 n0, .int .i64 n1, .int .i64 n2] 65)) [.int .i64 x, .int .i64 y, .int .i64 z] 63
  have K3 := K2.alloc (.cells #[.int .i64 0, .int .i64 0, .int .i64 0, .int .i64 0, .int .i64 0] 67)
  have B3 := B2.kept (keep_cells _ #[.int .i64 0, .int .i64 0, .int .i64 0, .int .i64 0, .int .i64 0] 67)
  have V3 := V2.kept (keep_cells _ #[.int .i64 0, .int .i64 0, .int .i64 0, .int .i64 0, .int .i64 0] 67)
  have R3 := BoxL.new ((w.alloc (.cells #[.int .i64 tb, .int .i64 ky, .bool had, .int .i64 o0, .int .i64 o1, .int .i64 o2, .bool has, .int .i64 n0, .int .i64 n1, .int .i64 n2] 65)).alloc (.cells #[.int .i64 x, .int .i64 y, .int .i64 z] 63)) [.int .i64 0, .int .i64 0, .int .i64 0, .int .i64 0, .int .i64 0] 67
  simp only [World.size_alloc] at B1 V2 B3 V3 R3
  have HK := Lib.hid K3
  have HB := Lib.hid B3
  have HV := Lib.hid V3
  have HR := Lib.hid R3
  clear K1 K2 K3 B1 B2 B3 V2 V3 R3
  have HZ : Hid (w.heap.size ≤ w.heap.size + 1 + 1) := Lib.hid (by omega)
  cases there with
  | false =>
    go_enter Tryz.func84, Tryz.ntmps84
    go_upto_region 1 with (fail)
    generalize ((w.alloc (.cells #[.int .i64 tb, .int .i64 ky, .bool had, .int .i64 o0, .int .i64 o1, .int .i64 o2, .bool has, .int .i64 n0, .int .i64 n1, .int .i64 n2] 65)).alloc (.cells #[.int .i64 x, .int .i64 y, .int .i64 z] 63)).alloc (.cells #[.int .i64 0, .int .i64 0, .int .i64 0, .int .i64 0, .int .i64 0] 67) = W at *
    generalize w.heap.size + 1 + 1 = zr at *
    generalize w.heap.size + 1 = zv at *
    obtain ⟨q0, q1, q2, q3, q4⟩ := HR.out.row (r := ⟨0, 0, 0, 0, 0⟩)
    have fr := HR.out.soft
    go_wp2_with fail
    obtain ⟨W2, hW, hb, hk⟩ := HR.out.put5 ⟨0, 0, 0, 0, 0⟩
    simp only [] at hW
    rw [hW]
    obtain ⟨d0, d1, d2, d3, d4⟩ := hb.row
    refine bodyPost_ret (v := .tuple #[rowV ⟨0, 0, 0, 0, 0⟩, .bool false]) (by simp [results, Tryz.results84, go_sem, d0, d1, d2, d3, d4]) rfl ?_
    exact ⟨rfl, keep0 HK.out HZ.out hk⟩
  | true =>
    go_enter Tryz.func84, Tryz.ntmps84
    go_upto_region 1 with (fail)
    generalize ((w.alloc (.cells #[.int .i64 tb, .int .i64 ky, .bool had, .int .i64 o0, .int .i64 o1, .int .i64 o2, .bool has, .int .i64 n0, .int .i64 n1, .int .i64 n2] 65)).alloc (.cells #[.int .i64 x, .int .i64 y, .int .i64 z] 63)).alloc (.cells #[.int .i64 0, .int .i64 0, .int .i64 0, .int .i64 0, .int .i64 0] 67) = W at *
    generalize w.heap.size + 1 + 1 = zr at *
    generalize w.heap.size + 1 = zv at *
    obtain ⟨c0, c1, -, -, -, -, -, -, -, -⟩ := HB.out.chg
    have v0 := HV.out.cell 0 _ rfl
    have v1 := HV.out.cell 1 _ rfl
    have v2 := HV.out.cell 2 _ rfl
    obtain ⟨q0, q1, q2, q3, q4⟩ := HR.out.row (r := ⟨0, 0, 0, 0, 0⟩)
    have fr := HR.out.soft
    go_wp2_with fail
    obtain ⟨W2, hW, hb, hk⟩ := HR.out.put5 ⟨tb, ky, x, y, z⟩
    simp only [] at hW
    rw [hW]
    obtain ⟨d0, d1, d2, d3, d4⟩ := hb.row
    refine bodyPost_ret (v := .tuple #[rowV ⟨tb, ky, x, y, z⟩, .bool true]) (by simp [results, Tryz.results84, go_sem, d0, d1, d2, d3, d4]) rfl ?_
    exact ⟨rfl, keep0 HK.out HZ.out hk⟩
set_option maxRecDepth 100000 in
set_option maxHeartbeats 2000000 in
theorem sound_any (c : Chg) (there : Bool) (x y z : Int) (w : World) (hf : R5.fine ⟨c.tb, c.ky, x, y, z⟩) : Calls Tryz.prog 105 #[chV c, .bool there, v3V x y z] w fun e w' => e = .returned (.bool (soundC ⟨c.tb, c.ky, x, y, z⟩ there)) ∧ Keep (fun _ => False) w w' := by
  have K1 : Keep (fun _ => False) w (w.alloc (.cells (chC c).toArray 65)) := keep_cells _ _ _
  have B1 := BoxL.new w (chC c) 65
  have HHF : Hid (∀ W, Calls Tryz.prog 84 #[chV c, .bool there, v3V x y z] W fun e w' => e = .returned (.tuple #[rowV (halfR ⟨c.tb, c.ky, x, y, z⟩ there), .bool there]) ∧ Keep (fun _ => False) W w') := Lib.hid (half_any c there x y z)
  obtain ⟨tb, ky, had, o0, o1, o2, has, n0, n1, n2⟩ := c
  have K2 := K1.alloc (.cells #[.int .i64 x, .int .i64 y, .int .i64 z] 63)
  have B2 := B1.kept (keep_cells _ #[.int .i64 x, .int .i64 y, .int .i64 z] 63)
  have V2 := BoxL.new (w.alloc (.cells #[.int .i64 tb, .int .i64 ky, .bool had, .int .i64 o0, .int .i64 o1, .int .i64 o2, .bool has, .int .i64 n0, .int .i64 n1, .int .i64 n2] 65)) [.int .i64 x, .int .i64 y, .int .i64 z] 63
  simp only [World.size_alloc] at V2
  have HK := Lib.hid K2
  have HB := Lib.hid B2
  have HV := Lib.hid V2
  have HF := Lib.hid hf
  clear K1 K2 B1 B2 V2 hf
  have HVR : Hid (∀ W, Calls Tryz.prog 121 #[rowV ⟨tb, ky, x, y, z⟩] W fun e w' => e = .returned (.bool (okRow ⟨tb, ky, x, y, z⟩)) ∧ Keep (fun _ => False) W w') := Lib.hid (okRow_any ⟨tb, ky, x, y, z⟩ HF.out)
  cases there with
  | true =>
    have HO : Hid (soundC ⟨tb, ky, x, y, z⟩ true = okRow ⟨tb, ky, x, y, z⟩) := Lib.hid (by unfold soundC; simp)
    have HFR : Hid (halfR ⟨tb, ky, x, y, z⟩ true = ⟨tb, ky, x, y, z⟩) := Lib.hid rfl
    go_enter Tryz.func105, Tryz.ntmps105
    go_upto_region 1 with (fail)
    generalize ((w.alloc (.cells #[.int .i64 tb, .int .i64 ky, .bool had, .int .i64 o0, .int .i64 o1, .int .i64 o2, .bool has, .int .i64 n0, .int .i64 n1, .int .i64 n2] 65)).alloc (.cells #[.int .i64 x, .int .i64 y, .int .i64 z] 63)) = W at *
    generalize w.heap.size + 1 = zv at *
    generalize w.heap.size = zc at *
    obtain ⟨c0, c1, c2, c3, c4, c5, c6, c7, c8, c9⟩ := HB.out.chg
    have v0 := HV.out.cell 0 _ rfl
    have v1 := HV.out.cell 1 _ rfl
    have v2 := HV.out.cell 2 _ rfl
    simp only [] at c0 c1 c2 c3 c4 c5 c6 c7 c8 c9
    go_wp2_with fail
    clear c0 c1 c2 c3 c4 c5 c6 c7 c8 c9 v0 v1 v2
    with_reducible refine (HHF.out W).mono ?_
    rintro e W3 ⟨rfl, k⟩
    rw [HFR.out]
    have HK3 := Lib.hid ((HK.out.trans k).alloc (.cells #[.int .i64 tb, .int .i64 ky, .int .i64 x, .int .i64 y, .int .i64 z] 67))
    have HR3 := Lib.hid (BoxL.new W3 (rowC ⟨tb, ky, x, y, z⟩) 67)
    clear k
    go_upto_region 2 with (fail)
    generalize W3.alloc (.cells #[.int .i64 tb, .int .i64 ky, .int .i64 x, .int .i64 y, .int .i64 z] 67) = W4 at *
    generalize W3.heap.size = zr at *
    obtain ⟨c0, c1, c2, c3, c4⟩ := HR3.out.row
    simp only [] at c0 c1 c2 c3 c4
    go_wp2_with fail
    clear c0 c1 c2 c3 c4
    with_reducible refine (HVR.out W4).mono ?_
    rintro e W5 ⟨rfl, k⟩
    have HK5 := Lib.hid (HK3.out.trans k)
    clear k
    cases hq : okRow ⟨tb, ky, x, y, z⟩ with
    | true =>
      rw [hq] at HO
      go_wp2_with fail
      go_ret
      exact ⟨by rw [HO.out] <;> rfl, HK5.out⟩
    | false =>
      rw [hq] at HO
      go_wp2_with fail
      go_ret
      exact ⟨by rw [HO.out] <;> rfl, HK5.out⟩
  | false =>
    have HO : Hid (soundC ⟨tb, ky, x, y, z⟩ false = (x == 0 && (y == 0 && z == 0))) := Lib.hid (by unfold soundC; simp)
    have HFR : Hid (halfR ⟨tb, ky, x, y, z⟩ false = ⟨0, 0, 0, 0, 0⟩) := Lib.hid rfl
    go_enter Tryz.func105, Tryz.ntmps105
    go_upto_region 1 with (fail)
    generalize ((w.alloc (.cells #[.int .i64 tb, .int .i64 ky, .bool had, .int .i64 o0, .int .i64 o1, .int .i64 o2, .bool has, .int .i64 n0, .int .i64 n1, .int .i64 n2] 65)).alloc (.cells #[.int .i64 x, .int .i64 y, .int .i64 z] 63)) = W at *
    generalize w.heap.size + 1 = zv at *
    generalize w.heap.size = zc at *
    obtain ⟨c0, c1, c2, c3, c4, c5, c6, c7, c8, c9⟩ := HB.out.chg
    have v0 := HV.out.cell 0 _ rfl
    have v1 := HV.out.cell 1 _ rfl
    have v2 := HV.out.cell 2 _ rfl
    simp only [] at c0 c1 c2 c3 c4 c5 c6 c7 c8 c9
    go_wp2_with fail
    clear c0 c1 c2 c3 c4 c5 c6 c7 c8 c9 v0 v1 v2
    with_reducible refine (HHF.out W).mono ?_
    rintro e W3 ⟨rfl, k⟩
    rw [HFR.out]
    have HK3 := Lib.hid ((HK.out.trans k).alloc (.cells #[.int .i64 0, .int .i64 0, .int .i64 0, .int .i64 0, .int .i64 0] 67))
    have HV3 := Lib.hid ((HV.out.kept k).kept (keep_cells W3 #[.int .i64 0, .int .i64 0, .int .i64 0, .int .i64 0, .int .i64 0] 67))
    clear k
    go_upto_region 2 with (fail)
    generalize W3.alloc (.cells #[.int .i64 0, .int .i64 0, .int .i64 0, .int .i64 0, .int .i64 0] 67) = W4 at *
    have v0 := HV3.out.cell 0 _ rfl
    have v1 := HV3.out.cell 1 _ rfl
    have v2 := HV3.out.cell 2 _ rfl
    have hm := guardV
    have heq := fun w => eql_v3 x y z 0 0 0 w
    generalize (x == 0 && (y == 0 && z == 0)) = q at *
    go_wp2_with fail
    go_ret
    exact ⟨by rw [HO.out] <;> rfl, HK3.out⟩
end Go.Proofs.YtcnpncndecjahaaGreatDoor

/-
  ValidChange of package row.
-/
namespace Go.Proofs.YtcnpncndecjahaaGreatDoor
open Go.RowKit Go.Shelf

set_option maxRecDepth 100000 in
set_option maxHeartbeats 4000000 in
theorem validCh_any (c : Chg) (hf : c.fine) (w : World) : Calls Tryz.prog 95 #[chV c] w fun e w' => e = .returned (.bool (okCh c)) ∧ Keep (fun _ => False) w w' := by
  have HK1 := Lib.hid (keep_cells w (chC c).toArray 65)
  have HB1 := Lib.hid (BoxL.new w (chC c) 65)
  obtain ⟨s1, hs1⟩ : ∃ s, soundC c.old c.had = s := ⟨_, rfl⟩
  obtain ⟨s2, hs2⟩ : ∃ s, soundC c.new c.has = s := ⟨_, rfl⟩
  have HS1 : Hid (∀ W, Calls Tryz.prog 105 #[chV c, .bool c.had, v3V c.o0 c.o1 c.o2] W fun e w' => e = .returned (.bool s1) ∧ Keep (fun _ => False) W w') := Lib.hid (fun W => by
    have := sound_any c c.had c.o0 c.o1 c.o2 W hf.1
    rwa [show soundC ⟨c.tb, c.ky, c.o0, c.o1, c.o2⟩ c.had = s1 from hs1] at this)
  have HS2 : Hid (∀ W, Calls Tryz.prog 105 #[chV c, .bool c.has, v3V c.n0 c.n1 c.n2] W fun e w' => e = .returned (.bool s2) ∧ Keep (fun _ => False) W w') := Lib.hid (fun W => by
    have := sound_any c c.has c.n0 c.n1 c.n2 W hf.2
    rwa [show soundC ⟨c.tb, c.ky, c.n0, c.n1, c.n2⟩ c.has = s2 from hs2] at this)
  have HO : Hid (okCh c = ((c.had != c.has || c.had && !(c.o0 == c.n0 && (c.o1 == c.n1 && c.o2 == c.n2))) && (s1 && s2))) := Lib.hid (by unfold okCh; rw [hs1, hs2]; rfl)
  clear hf hs1 hs2
  obtain ⟨tb, ky, had, o0, o1, o2, has, n0, n1, n2⟩ := c
  obtain ⟨q, hq⟩ : ∃ q, (o0 == n0 && (o1 == n1 && o2 == n2)) = q := ⟨_, rfl⟩
  have hneq : ∀ w, (binOp .neq 63 (v3V o0 o1 o2) (v3V n0 n1 n2)).run Tryz.prog w = .ok (.bool (!q)) w := fun w => by
    rw [neq_v3, hq]
  have HQ : Hid (okCh ⟨tb, ky, had, o0, o1, o2, has, n0, n1, n2⟩ = ((had != has || had && !q) && (s1 && s2))) := Lib.hid (by rw [HO.out, ← hq])
  have HN := Lib.hid hneq
  clear HO hq hneq
  go_enter Tryz.func95, Tryz.ntmps95
  go_upto_region 1 with (fail)
  generalize w.alloc (.cells (chC ⟨tb, ky, had, o0, o1, o2, has, n0, n1, n2⟩).toArray 65) = W at *
  generalize w.heap.size = zc at *
  obtain ⟨c0, c1, c2, c3, c4, c5, c6, c7, c8, c9⟩ := HB1.out.chg
  simp only [] at c0 c1 c2 c3 c4 c5 c6 c7 c8 c9
  have hm := guardV
  cases had <;> cases has
  case false.false =>
    go_wp2_with fail
    go_ret
    exact ⟨by rw [HQ.out] <;> rfl, HK1.out⟩
  case true.true =>
    cases q with
    | true =>
      have hn := HN.out
      go_wp2_with fail
      go_ret
      exact ⟨by rw [HQ.out] <;> rfl, HK1.out⟩
    | false =>
      have hn := HN.out
      go_wp2_with fail
      clear hn
      clear c0 c1 c2 c3 c4 c5 c6 c7 c8 c9 hm
      with_reducible refine (HS1.out W).mono ?_
      rintro e W2 ⟨rfl, k⟩
      have HK2 := Lib.hid (HK1.out.trans k)
      have HB2 := Lib.hid (HB1.out.kept k)
      clear k
      cases s1 with
      | false =>
        go_wp2_with fail
        go_ret
        exact ⟨by rw [HQ.out] <;> rfl, HK2.out⟩
      | true =>
        obtain ⟨c0, c1, c2, c3, c4, c5, c6, c7, c8, c9⟩ := HB2.out.chg
        simp only [] at c0 c1 c2 c3 c4 c5 c6 c7 c8 c9
        go_wp2_with fail
        clear c0 c1 c2 c3 c4 c5 c6 c7 c8 c9
        with_reducible refine (HS2.out W2).mono ?_
        rintro e W3 ⟨rfl, k⟩
        have HK3 := Lib.hid (HK2.out.trans k)
        clear k
        cases s2 with
        | false =>
          go_wp2_with fail
          go_ret
          exact ⟨by rw [HQ.out] <;> rfl, HK3.out⟩
        | true =>
          go_wp2_with fail
          go_ret
          exact ⟨by rw [HQ.out] <;> rfl, HK3.out⟩
  case true.false =>
    go_wp2_with fail
    clear c0 c1 c2 c3 c4 c5 c6 c7 c8 c9 hm
    with_reducible refine (HS1.out W).mono ?_
    rintro e W2 ⟨rfl, k⟩
    have HK2 := Lib.hid (HK1.out.trans k)
    have HB2 := Lib.hid (HB1.out.kept k)
    clear k
    cases s1 with
    | false =>
      go_wp2_with fail
      go_ret
      exact ⟨by rw [HQ.out] <;> rfl, HK2.out⟩
    | true =>
      obtain ⟨c0, c1, c2, c3, c4, c5, c6, c7, c8, c9⟩ := HB2.out.chg
      simp only [] at c0 c1 c2 c3 c4 c5 c6 c7 c8 c9
      go_wp2_with fail
      clear c0 c1 c2 c3 c4 c5 c6 c7 c8 c9
      with_reducible refine (HS2.out W2).mono ?_
      rintro e W3 ⟨rfl, k⟩
      have HK3 := Lib.hid (HK2.out.trans k)
      clear k
      cases s2 with
      | false =>
        go_wp2_with fail
        go_ret
        exact ⟨by rw [HQ.out] <;> rfl, HK3.out⟩
      | true =>
        go_wp2_with fail
        go_ret
        exact ⟨by rw [HQ.out] <;> rfl, HK3.out⟩
  case false.true =>
    go_wp2_with fail
    clear c0 c1 c2 c3 c4 c5 c6 c7 c8 c9 hm
    with_reducible refine (HS1.out W).mono ?_
    rintro e W2 ⟨rfl, k⟩
    have HK2 := Lib.hid (HK1.out.trans k)
    have HB2 := Lib.hid (HB1.out.kept k)
    clear k
    cases s1 with
    | false =>
      go_wp2_with fail
      go_ret
      exact ⟨by rw [HQ.out] <;> rfl, HK2.out⟩
    | true =>
      obtain ⟨c0, c1, c2, c3, c4, c5, c6, c7, c8, c9⟩ := HB2.out.chg
      simp only [] at c0 c1 c2 c3 c4 c5 c6 c7 c8 c9
      go_wp2_with fail
      clear c0 c1 c2 c3 c4 c5 c6 c7 c8 c9
      with_reducible refine (HS2.out W2).mono ?_
      rintro e W3 ⟨rfl, k⟩
      have HK3 := Lib.hid (HK2.out.trans k)
      clear k
      cases s2 with
      | false =>
        go_wp2_with fail
        go_ret
        exact ⟨by rw [HQ.out] <;> rfl, HK3.out⟩
      | true =>
        go_wp2_with fail
        go_ret
        exact ⟨by rw [HQ.out] <;> rfl, HK3.out⟩
end Go.Proofs.YtcnpncndecjahaaGreatDoor

/-
  ValidRecord of package row.
-/
namespace Go.Proofs.YtcnpncndecjahaaGreatDoor
open Go.RowKit Go.Shelf

abbrev recV (p : Int) (v : Value) : Value := .agg #[.int .i64 p, v]
theorem ascC_false {t k : Int} {c : Chg} {l : List Chg} (h : okCh c = false ∨ c.tb < t ∨ (c.tb = t ∧ c.ky ≤ k)) : ascC t k (c :: l) = false := by
  unfold ascC
  rcases h with h | h | ⟨h1, h2⟩
  · rw [h]; rfl
  · rw [decide_eq_true h]; simp
  · subst h1
    rw [decide_eq_true h2]; simp
theorem ascC_true {t k : Int} {c : Chg} {l : List Chg} (h : okCh c = true) (h1 : ¬ c.tb < t) (h2 : ¬ (c.tb = t ∧ c.ky ≤ k)) : ascC t k (c :: l) = ascC c.tb c.ky l := by
  rw [ascC, h, decide_eq_false h1]
  have : (c.tb == t && decide (c.ky ≤ k)) = false := by
    cases e : (c.tb == t && decide (c.ky ≤ k)) with
    | false => rfl
    | true =>
      simp only [Bool.and_eq_true, beq_iff_eq, decide_eq_true_eq] at e
      exact absurd e h2
  rw [this]
  rfl
theorem Chs.at_slice {W : World} {a : Option Addr} {n c : Nat} {l : List Chg} (h : Chs W (.slice a n c) l) {i : Nat} {ch : Chg} (hi : l[i]? = some ch) :
    ∃ b off, a = some ⟨b, off, none⟩ ∧ ∀ j x, (chC ch)[j]? = some x → W.cell? ⟨b, off + i * 10 + j, none⟩ = some x := by
  obtain ⟨hn, hf, a', c', b, off, hv, hc, ha, h1⟩ := h
  injection hv with e1 e2 e3
  subst e1 e2 e3
  exact ⟨b, off, ha (by have := (List.getElem?_eq_some_iff.1 hi).1; omega), fun j x hj => h1 i ch hi j x hj⟩
def zeroC : Chg := ⟨-1, 0, false, 0, 0, 0, false, 0, 0, 0⟩
set_option maxRecDepth 100000 in
set_option maxHeartbeats 4000000 in
theorem validRec_any (p : Int) (v : Value) (l : List Chg) (w : World) (h : Chs w v l) (hp : I64 p) : Calls Tryz.prog 83 #[recV p v] w fun e w' => e = .returned (.bool (okRec p l)) ∧ Keep (fun _ => False) w w' := by
  have K0 := keep_cells w #[.int .i64 p, v] 73
  have HB0 := Lib.hid (BoxL.new w [.int .i64 p, v] 73)
  have HC0 := Lib.hid (h.kept K0)
  have HK0 := Lib.hid K0
  have HP := Lib.hid hp
  have HO : Hid (okRec p l = (wiB 1 10000 [p] && (wiB 1 8 [(l.length : Int)] && ascC (-1) 0 l))) := Lib.hid rfl
  obtain ⟨ln, hln⟩ : ∃ n, l.length = n := ⟨_, rfl⟩
  have HLN := Lib.hid hln
  have hn := h.n
  obtain ⟨a, cp, bb, off, hv, hcp, ha, -⟩ := h.at_
  rw [hln] at HO hv hcp ha hn
  have HA := Lib.hid ha
  subst hv
  clear h hp hln ha K0
  go_enter Tryz.func83, Tryz.ntmps83
  go_upto_region 1 with (fail)
  generalize w.alloc (.cells #[.int .i64 p, .slice a ln cp] 73) = W0 at *
  generalize w.heap.size = z at *
  have c0 := HB0.out.cell 0 _ rfl
  have I1 := Lib.hid (its_one W0 p 3 HP.out)
  have KA1 := Lib.hid (HK0.out.alloc (.cells #[.int .i64 p] 3))
  have HB1 := Lib.hid (HB0.out.kept (keep_cells W0 #[.int .i64 p] 3))
  have HC1 := Lib.hid (HC0.out.kept (keep_cells W0 #[.int .i64 p] 3))
  go_wp2_with fail
  with_reducible refine (rwithin_any 1 10000 _ [p] _ I1.out).mono ?_
  rintro e W1 ⟨rfl, k1⟩
  have HK1 := Lib.hid (KA1.out.trans k1)
  have HB2 := Lib.hid (HB1.out.kept k1)
  have HC2 := Lib.hid (HC1.out.kept k1)
  clear k1 I1 KA1 HB1 HC1 c0
  cases h1 : wiB 1 10000 [p] with
  | false =>
    rw [h1] at HO
    go_wp2_with fail
    go_ret
    exact ⟨by rw [HO.out]; rfl, HK1.out⟩
  | true =>
    rw [h1] at HO
    have c1 := HB2.out.cell 1 _ rfl
    have I1 := Lib.hid (its_one W1 (ln : Int) 3 (by unfold I64; omega))
    have KA1 := Lib.hid (HK1.out.alloc (.cells #[.int .i64 (ln : Int)] 3))
    have HB1 := Lib.hid (HB2.out.kept (keep_cells W1 #[.int .i64 (ln : Int)] 3))
    have HC1 := Lib.hid (HC2.out.kept (keep_cells W1 #[.int .i64 (ln : Int)] 3))
    go_wp2_with fail
    with_reducible refine (rwithin_any 1 8 _ [(ln : Int)] _ I1.out).mono ?_
    rintro e W2 ⟨rfl, k1⟩
    have HK2 := Lib.hid (KA1.out.trans k1)
    have HB3 := Lib.hid (HB1.out.kept k1)
    have HC3 := Lib.hid (HC1.out.kept k1)
    clear k1 I1 KA1 HB1 HC1 c1
    cases h2 : wiB 1 8 [(ln : Int)] with
    | false =>
      rw [h2] at HO
      go_wp2_with fail
      go_ret
      exact ⟨by rw [HO.out]; rfl, HK2.out⟩
    | true =>
      rw [h2] at HO
      go_upto_region 4 with (fail)
      have HL3 := Lib.hid (BoxL.new W2 (chC zeroC) 65)
      have HK3 := Lib.hid (HK2.out.alloc (.cells (chC zeroC).toArray 65))
      have HB4 := Lib.hid (HB3.out.kept (keep_cells W2 (chC zeroC).toArray 65))
      have HC4 := Lib.hid (HC3.out.kept (keep_cells W2 (chC zeroC).toArray 65))
      have HK24 := Lib.hid (keep_cells W2 (chC zeroC).toArray 65)
      clear HB3
      have e1 : W2.alloc (.cells #[.int .i64 (-1), .int .i64 0, .bool false, .int .i64 0, .int .i64 0, .int .i64 0, .bool false, .int .i64 0, .int .i64 0, .int .i64 0] 65) = W2.alloc (.cells (chC zeroC).toArray 65) := rfl
      rw [e1]
      clear e1
      generalize W2.alloc (.cells (chC zeroC).toArray 65) = W4 at *
      obtain ⟨zl, hzl⟩ : ∃ z, W2.heap.size = z := ⟨_, rfl⟩
      have HZ := Lib.hid hzl
      rw [hzl] at HL3 ⊢
      clear hzl
      have c1 := HB4.out.cell 1 _ rfl
      go_wp2_with fail
      clear c1
      go_loopg [23] ln (fun gh v wr => ∃ (k : Nat) (lt lk : Int) (u2 u3 u4 u5 u6 u7 u8 u9 : Value), gh + k = ln ∧ v = .int .i64 k ∧ BoxL wr zl [.int .i64 lt, .int .i64 lk, u2, u3, u4, u5, u6, u7, u8, u9] ∧ Keep (fun _ => False) W2 wr ∧ Hid (ascC (-1) 0 l = ascC lt lk (l.drop k)))
      case atStart => exact ⟨0, -1, 0, _, _, _, _, _, _, _, _, by omega, rfl, HL3.out, HK24.out, Lib.hid rfl⟩
      case round =>
        obtain ⟨k, lt, lk, u2, u3, u4, u5, u6, u7, u8, u9, hk, rfl, hb, hkw, HE⟩ := hrel
        have HBL := Lib.hid hb
        have HKW := Lib.hid hkw
        clear hb hkw
        by_cases hlt : k < ln
        · obtain ⟨ch, hch⟩ : ∃ x, l[k]? = some x := ⟨_, List.getElem?_eq_getElem (by have := HLN.out; omega)⟩
          obtain ⟨b, off, hab, hcell⟩ := (HC3.out.kept HKW.out).at_slice hch
          subst hab
          have HV := Lib.hid (validCh_any ch (HC3.out.fine ch (List.mem_of_getElem? hch)))
          have HB5 := Lib.hid (BoxL.new wr (chC ch) 65)
          have HL5 := Lib.hid (HBL.out.kept (keep_cells wr (chC ch).toArray 65))
          have HK5 := Lib.hid (HKW.out.alloc (.cells (chC ch).toArray 65))
          have HDR : Hid (ascC (-1) 0 l = ascC lt lk (ch :: l.drop (k + 1))) := Lib.hid (by
            rw [HE.out, List.drop_eq_getElem_cons (by have := HLN.out; omega)]
            rw [List.getElem?_eq_getElem (by have := HLN.out; omega)] at hch
            cases hch
            rfl)
          have HQ : Hid (okCh ch = okCh ch) := Lib.hid rfl
          obtain ⟨ok, hok⟩ : ∃ o, okCh ch = o := ⟨_, rfl⟩
          have HOK := Lib.hid hok
          rw [hok] at HV
          clear hok HQ hch
          obtain ⟨tb, ky, had, o0, o1, o2, has, n0, n1, n2⟩ := ch
          have d0 := hcell 0 _ rfl
          have d1 := hcell 1 _ rfl
          have d2 := hcell 2 _ rfl
          have d3 := hcell 3 _ rfl
          have d4 := hcell 4 _ rfl
          have d5 := hcell 5 _ rfl
          have d6 := hcell 6 _ rfl
          have d7 := hcell 7 _ rfl
          have d8 := hcell 8 _ rfl
          have d9 := hcell 9 _ rfl
          rw [Nat.add_zero] at d0
          simp only [] at d0 d1 d2 d3 d4 d5 d6 d7 d8 d9
          clear hcell
          have hkz : (k : Int) < (ln : Int) := by omega
          have hk0 : (0 : Int) ≤ (k : Int) := by omega
          go_upto_region 7 with (fail)
          clear d0 d1 d2 d3 d4 d5 d6 d7 d8 d9
          have e1 : wr.alloc (.cells #[.int .i64 tb, .int .i64 ky, .bool had, .int .i64 o0, .int .i64 o1, .int .i64 o2, .bool has, .int .i64 n0, .int .i64 n1, .int .i64 n2] 65) = wr.alloc (.cells (chC ⟨tb, ky, had, o0, o1, o2, has, n0, n1, n2⟩).toArray 65) := rfl
          rw [e1]
          clear e1
          generalize wr.alloc (.cells (chC ⟨tb, ky, had, o0, o1, o2, has, n0, n1, n2⟩).toArray 65) = W5 at *
          generalize wr.heap.size = zc at *
          obtain ⟨c0, c1, c2, c3, c4, c5, c6, c7, c8, c9⟩ := HB5.out.chg
          simp only [] at c0 c1 c2 c3 c4 c5 c6 c7 c8 c9
          go_wp2_with fail
          clear c0 c1 c2 c3 c4 c5 c6 c7 c8 c9
          with_reducible refine (HV.out W5).mono ?_
          rintro e W6 ⟨rfl, k6⟩
          have HB6 := Lib.hid (HB5.out.kept k6)
          have HL6 := Lib.hid (HL5.out.kept k6)
          have HK6 := Lib.hid (HK5.out.trans k6)
          clear k6 HV HL5 HB5 HK5
          cases ok with
          | false =>
            have HF : Hid (okRec p l = false) := Lib.hid (by rw [HO.out, HDR.out, ascC_false (.inl HOK.out)]; rfl)
            go_wp2_with fail
            go_ret
            exact ⟨by rw [HF.out]; rfl, HK2.out.trans HK6.out⟩
          | true =>
            obtain ⟨c0, c1, c2, c3, c4, c5, c6, c7, c8, c9⟩ := HB6.out.chg
            simp only [] at c0 c1 c2 c3 c4 c5 c6 c7 c8 c9
            have l0 := HL6.out.cell 0 _ rfl
            have l1 := HL6.out.cell 1 _ rfl
            have l2 := HL6.out.cell 2 _ rfl
            have l3 := HL6.out.cell 3 _ rfl
            have l4 := HL6.out.cell 4 _ rfl
            have l5 := HL6.out.cell 5 _ rfl
            have l6 := HL6.out.cell 6 _ rfl
            have l7 := HL6.out.cell 7 _ rfl
            have l8 := HL6.out.cell 8 _ rfl
            have l9 := HL6.out.cell 9 _ rfl
            by_cases h1 : tb < lt
            · have HF : Hid (okRec p l = false) := Lib.hid (by rw [HO.out, HDR.out, ascC_false (.inr (.inl h1))]; rfl)
              go_wp2_with fail
              go_ret
              exact ⟨by rw [HF.out]; rfl, HK2.out.trans HK6.out⟩
            · by_cases h2 : tb = lt
              · have hb2 : (tb == lt) = true := by simpa using h2
                by_cases h3 : ky ≤ lk
                · have HF : Hid (okRec p l = false) := Lib.hid (by rw [HO.out, HDR.out, ascC_false (.inr (.inr ⟨h2, h3⟩))]; rfl)
                  clear h2
                  go_wp2_with fail
                  go_ret
                  exact ⟨by rw [HF.out]; rfl, HK2.out.trans HK6.out⟩
                · have HF : Hid (ascC (-1) 0 l = ascC tb ky (l.drop (k + 1))) := Lib.hid (by rw [HDR.out, ascC_true HOK.out h1 (fun h => h3 h.2)])
                  have fz := HL6.out.soft
                  clear h2
                  go_wp2_with fail
                  obtain ⟨W7, hW, hb, hkz⟩ := HL6.out.put10 ⟨tb, ky, had, o0, o1, o2, has, n0, n1, n2⟩
                  simp only [] at hW
                  rw [hW]
                  go_roundg (gk - 1)
                  case rel => exact ⟨k + 1, tb, ky, _, _, _, _, _, _, _, _, by omega, by go_num, hb, keep0 HK6.out (by have := HZ.out; omega) hkz, HF⟩
                  case measure => omega
              · have hb2 : (tb == lt) = false := by simpa using h2
                have HF : Hid (ascC (-1) 0 l = ascC tb ky (l.drop (k + 1))) := Lib.hid (by rw [HDR.out, ascC_true HOK.out h1 (fun h => h2 h.1)])
                have fz := HL6.out.soft
                clear h2
                go_wp2_with fail
                obtain ⟨W7, hW, hb, hkz⟩ := HL6.out.put10 ⟨tb, ky, had, o0, o1, o2, has, n0, n1, n2⟩
                simp only [] at hW
                rw [hW]
                go_roundg (gk - 1)
                case rel => exact ⟨k + 1, tb, ky, _, _, _, _, _, _, _, _, by omega, by go_num, hb, keep0 HK6.out (by have := HZ.out; omega) hkz, HF⟩
                case measure => omega
        · have HF : Hid (okRec p l = true) := Lib.hid (by
            rw [HO.out, HE.out, List.drop_eq_nil_of_le (by have := HLN.out; omega)]; rfl)
          have hkz : ¬ (k : Int) < (ln : Int) := by omega
          go_wp2_with fail
          go_ret
          exact ⟨by rw [HF.out]; rfl, HK2.out.trans HKW.out⟩
end Go.Proofs.YtcnpncndecjahaaGreatDoor

/-
  After of package row; fits of package store.
-/
namespace Go.Proofs.YtcnpncndecjahaaGreatDoor
open Go.RowKit Go.Shelf

set_option maxRecDepth 100000 in
set_option maxHeartbeats 2000000 in
theorem after_any (c : Chg) (w : World) : Calls Tryz.prog 53 #[chV c] w fun e w' => e = .returned (.tuple #[rowV (halfR c.new c.has), .bool c.has]) ∧ Keep (fun _ => False) w w' := by
  have K1 : Keep (fun _ => False) w (w.alloc (.cells (chC c).toArray 65)) := keep_cells _ _ _
  have B1 := BoxL.new w (chC c) 65
  have HHF : Hid (∀ W, Calls Tryz.prog 84 #[chV c, .bool c.has, v3V c.n0 c.n1 c.n2] W fun e w' => e = .returned (.tuple #[rowV (halfR c.new c.has), .bool c.has]) ∧ Keep (fun _ => False) W w') := Lib.hid (half_any c c.has c.n0 c.n1 c.n2)
  have HR : Hid (R5.mk 0 0 0 0 0 = ⟨0, 0, 0, 0, 0⟩) := Lib.hid rfl
  obtain ⟨tb, ky, had, o0, o1, o2, has, n0, n1, n2⟩ := c
  generalize halfR (Chg.new ⟨tb, ky, had, o0, o1, o2, has, n0, n1, n2⟩) (Chg.has ⟨tb, ky, had, o0, o1, o2, has, n0, n1, n2⟩) = r at *
  obtain ⟨r0, r1, r2, r3, r4⟩ := r
  have K2 := K1.alloc (.cells #[.int .i64 0, .int .i64 0, .int .i64 0, .int .i64 0, .int .i64 0] 67)
  have B2 := B1.kept (keep_cells _ #[.int .i64 0, .int .i64 0, .int .i64 0, .int .i64 0, .int .i64 0] 67)
  have V2 := BoxL.new (w.alloc (.cells #[.int .i64 tb, .int .i64 ky, .bool had, .int .i64 o0, .int .i64 o1, .int .i64 o2, .bool has, .int .i64 n0, .int .i64 n1, .int .i64 n2] 65)) [.int .i64 0, .int .i64 0, .int .i64 0, .int .i64 0, .int .i64 0] 67
  simp only [World.size_alloc] at V2
  have HK := Lib.hid K2
  have HB := Lib.hid B2
  have HV := Lib.hid V2
  have HZ : Hid (w.heap.size ≤ w.heap.size + 1) := Lib.hid (by omega)
  clear K1 K2 B1 B2 V2
  go_enter Tryz.func53, Tryz.ntmps53
  go_upto_region 1 with (fail)
  generalize ((w.alloc (.cells #[.int .i64 tb, .int .i64 ky, .bool had, .int .i64 o0, .int .i64 o1, .int .i64 o2, .bool has, .int .i64 n0, .int .i64 n1, .int .i64 n2] 65)).alloc (.cells #[.int .i64 0, .int .i64 0, .int .i64 0, .int .i64 0, .int .i64 0] 67)) = W at *
  generalize w.heap.size + 1 = zr at *
  obtain ⟨c0, c1, c2, c3, c4, c5, c6, c7, c8, c9⟩ := HB.out.chg
  simp only [] at c0 c1 c2 c3 c4 c5 c6 c7 c8 c9
  go_wp2_with fail
  clear c0 c1 c2 c3 c4 c5 c6 c7 c8 c9
  with_reducible refine (HHF.out W).mono ?_
  rintro e W3 ⟨rfl, k⟩
  have HK3 := Lib.hid (HK.out.trans k)
  have HV3 := Lib.hid (HV.out.kept k)
  clear k
  obtain ⟨q0, q1, q2, q3, q4⟩ := HV3.out.row (r := ⟨0, 0, 0, 0, 0⟩)
  have fr := HV3.out.soft
  go_wp2_with fail
  obtain ⟨W2, hW, hb, hk⟩ := HV3.out.put5 ⟨r0, r1, r2, r3, r4⟩
  simp only [] at hW
  rw [hW]
  obtain ⟨d0, d1, d2, d3, d4⟩ := hb.row
  refine bodyPost_ret (v := .tuple #[rowV ⟨r0, r1, r2, r3, r4⟩, .bool has]) (by simp [results, Tryz.results53, go_sem, d0, d1, d2, d3, d4]) rfl ?_
  exact ⟨rfl, keep0 HK3.out HZ.out hk⟩
set_option maxRecDepth 100000 in
set_option maxHeartbeats 4000000 in
theorem fits_any (z mb : Nat) (l : List R5) (p q : Int) (v : Value) (cs : List Chg) (w : World) (h : StA w z mb l p) (hc : Chs w v cs) (hp : 0 ≤ p ∧ p ≤ 10000) (hq : I64 q) (hl : l.length ≤ 1000000) :
    Calls Tryz.prog 52 #[ptr z, recV q v] w fun e w' => e = .returned (.bool (fitsB l p q cs)) ∧ Keep (fun _ => False) w w' := by
  have K0 := keep_cells w #[.int .i64 q, v] 73
  have HB0 := Lib.hid (BoxL.new w [.int .i64 q, v] 73)
  have HS0 := Lib.hid (h.kept K0)
  have HC0 := Lib.hid (hc.kept K0)
  have HK0 := Lib.hid K0
  have HVR : Hid (∀ W, Chs W v cs → Calls Tryz.prog 83 #[recV q v] W fun e w' => e = .returned (.bool (okRec q cs)) ∧ Keep (fun _ => False) W w') := Lib.hid (fun W hW => validRec_any q v cs W hW hq)
  have HO : Hid (fitsB l p q cs = (okRec q cs && (q == p + 1 && (cs.all (fit1 l) && decide (sizeC l.length cs ≤ 2000))))) := Lib.hid rfl
  have hwr : IntKind.i64.wrap (p + 1) = p + 1 := wrapI (by unfold I64; omega)
  generalize okRec q cs = ok at *
  clear h hc hq K0
  go_enter Tryz.func52, Tryz.ntmps52
  go_upto_region 1 with (fail)
  generalize w.alloc (.cells #[.int .i64 q, v] 73) = W0 at *
  generalize w.heap.size = zr at *
  have HK1 : Hid (Keep (fun _ => False) w W0.drew) := Lib.hid HK0.out.drew
  have HB1 := Lib.hid HB0.out.drew
  have HS1 := Lib.hid HS0.out.drew
  have HC1 := Lib.hid (HC0.out.kept (Keep.refl _ W0).drew)
  have HKD : Hid (Keep (fun _ => False) W0 W0.drew) := Lib.hid (Keep.refl _ W0).drew
  have HA : Hid (∀ p : KA (fun _ => False) W0, p.val.cell? ⟨zr, 0, none⟩ = some (.int .i64 q)) := Lib.hid (fun p => (HB0.out.kept p.k).cell 0 _ rfl)
  clear HB0 HS0 HC0
  refine wp_region_walk [(false, 0), (false, 1), (false, 2), (false, 3), (true, 4), (true, 5), (false, 6), (false, 7), (false, 8), (false, 9), (false, 10), (false, 11), (false, 12), (false, 13)] (inKA (fun _ => False) W0) (by kernel_rfl) (by kernel_rfl) ?_
  generalize W0.drew = W1 at *
  have r0 := HB1.out.cell 0 _ rfl
  have r1 := HB1.out.cell 1 _ rfl
  refine walkW_do rfl (inKA.of HKD.out) (fun K hK => ?_)
  go_simp
  refine hK _ _ ?_; clear hK K
  refine walkW_do rfl (inKA.of HKD.out) (fun K hK => ?_)
  go_simp
  clear r0 r1
  refine (HVR.out W1 HC1.out).mono ?_
  rintro e W2 ⟨rfl, k⟩
  have HK2 := Lib.hid (HK1.out.trans k)
  have HB2 := Lib.hid (HB1.out.kept k)
  have HS2 := Lib.hid (HS1.out.kept k)
  have HC2 := Lib.hid (HC1.out.kept k)
  have HKD2 := Lib.hid (HKD.out.trans k)
  clear k HK1 HB1 HS1 HC1 HKD
  refine hK _ _ ?_; clear hK K
  cases ok with
  | false =>
    iterate 2 (refine walkW_do rfl (inKA.of HKD2.out) (fun K hK => ?_); go_simp; refine hK _ _ ?_; clear hK K)
    iterate 2 (refine walkW_read rfl (fun K hK => ?_); go_simp; refine hK _ ?_; clear hK K)
    iterate 8 (refine walkW_do rfl (inKA.of HKD2.out) (fun K hK => ?_); go_simp; refine hK _ _ ?_; clear hK K)
    refine ⟨inKA.of HKD2.out, ?_⟩
    go_wp2_with fail
    go_ret
    exact ⟨by rw [HO.out]; rfl, HK2.out⟩
  | true =>
    have a0 := HA.out
    have r2 := HS2.out.box.cell 1 _ rfl
    by_cases he : q = p + 1
    · have hne : (q != p + 1) = false := by simpa using he
      have HQ : Hid ((q == p + 1) = true) := Lib.hid (by simpa using he)
      rw [HQ.out] at HO
      clear he
      iterate 2 (refine walkW_do rfl (inKA.of HKD2.out) (fun K hK => ?_); go_simp; refine hK _ _ ?_; clear hK K)
      iterate 2 (refine walkW_read rfl (fun K hK => ?_); go_simp; refine hK _ ?_; clear hK K)
      iterate 8 (refine walkW_do rfl (inKA.of HKD2.out) (fun K hK => ?_); go_simp; refine hK _ _ ?_; clear hK K)
      refine ⟨inKA.of HKD2.out, ?_⟩
      clear a0 r2 hne hwr
      obtain ⟨n, hn⟩ : ∃ n, cs.length = n := ⟨_, rfl⟩
      have HN := Lib.hid hn
      have hnb : n ≤ 1000000000 := by rw [← hn]; exact HC2.out.n
      obtain ⟨a, cp, bb, off, hv, hcp, ha, -⟩ := HC2.out.at_
      have r2 := HB2.out.cell 1 _ rfl
      have r3 := HS2.out.box.cell 0 _ rfl
      have r4 := HS2.out.len
      rw [hn] at hv hcp ha
      have HAA := Lib.hid ha
      clear hn ha
      subst hv
      go_wp2_with fail
      clear r2 r3 r4
      go_loopg [5, 33] n (fun gh v5 v33 wr => ∃ (k : Nat) (s : Int), gh + k = n ∧ v33 = .int .i64 k ∧ v5 = .int .i64 s ∧ Hid (s = sizeC l.length (cs.take k)) ∧ Hid ((cs.take k).all (fit1 l) = true) ∧ Keep (fun _ => False) W2 wr)
      case atStart => exact ⟨0, _, by omega, rfl, rfl, Lib.hid rfl, Lib.hid rfl, Keep.refl _ _⟩
      case round =>
        obtain ⟨k, s, hk, rfl, rfl, HSZ, HFI, hkw⟩ := hrel
        have HKW := Lib.hid hkw
        clear hkw
        have hs1 : -1000000000 ≤ s ∧ s ≤ 1001000000 := by
          have h1 := sizeC_le (cs.take k) l.length
          rw [← HSZ.out] at h1
          have h2 : (cs.take k).length ≤ n := by rw [List.length_take]; have := HN.out; omega
          omega
        by_cases hlt : k < n
        · obtain ⟨ch, hch⟩ : ∃ x, cs[k]? = some x := ⟨_, List.getElem?_eq_getElem (by have := HN.out; omega)⟩
          obtain ⟨b, off, hab, hcell⟩ := (HC2.out.kept HKW.out).at_slice hch
          subst hab
          have hfin := HC2.out.fine ch (List.mem_of_getElem? hch)
          have HTK : Hid (cs.take (k + 1) = cs.take k ++ [ch]) := Lib.hid (by rw [List.take_add_one, hch]; rfl)
          have HMEM := Lib.hid (List.mem_of_getElem? hch)
          have HB5 := Lib.hid (BoxL.new wr (chC ch) 65)
          have HS5 := Lib.hid ((HS2.out.kept HKW.out).kept (keep_cells wr (chC ch).toArray 65))
          have HK5 := Lib.hid (HKW.out.alloc (.cells (chC ch).toArray 65))
          have HLK : Hid (∀ x : KA (fun _ => False) (wr.alloc (.cells (chC ch).toArray 65)), (Instr.lookup 125 (.map (some mb)) (idV ch.tb ch.ky) true).run Tryz.prog x.val = .ok (lookV (getR l ch.tb ch.ky)) x.val) := Lib.hid (fun x => (HS5.out.kept x.k).look hfin.1.1 hfin.1.2.1)
          have HFT : Hid (fit1 l ch = match getR l ch.tb ch.ky with | none => !ch.had | some r => ch.had && sameV r ch.old) := Lib.hid rfl
          clear hch hfin
          have d0 := hcell 0 _ rfl
          have d1 := hcell 1 _ rfl
          have d2 := hcell 2 _ rfl
          have d3 := hcell 3 _ rfl
          have d4 := hcell 4 _ rfl
          have d5 := hcell 5 _ rfl
          have d6 := hcell 6 _ rfl
          have d7 := hcell 7 _ rfl
          have d8 := hcell 8 _ rfl
          have d9 := hcell 9 _ rfl
          rw [Nat.add_zero] at d0
          clear hcell
          have hkz : (k : Int) < (n : Int) := by omega
          have hk0 : (0 : Int) ≤ (k : Int) := by omega
          go_upto_region 7 with (fail)
          clear d0 d1 d2 d3 d4 d5 d6 d7 d8 d9
          have e1 : wr.alloc (.cells #[.int .i64 ch.tb, .int .i64 ch.ky, .bool ch.had, .int .i64 ch.o0, .int .i64 ch.o1, .int .i64 ch.o2, .bool ch.has, .int .i64 ch.n0, .int .i64 ch.n1, .int .i64 ch.n2] 65) = wr.alloc (.cells (chC ch).toArray 65) := rfl
          rw [e1]
          clear e1
          generalize wr.alloc (.cells (chC ch).toArray 65) = W5 at *
          generalize wr.heap.size = zc at *
          have HA0 : Hid (∀ x : KA (fun _ => False) W5, x.val.cell? ⟨z, 0, none⟩ = some (.map (some mb))) := Lib.hid (fun x => (HS5.out.kept x.k).box.cell 0 _ rfl)
          have HA1 : Hid (∀ x : KA (fun _ => False) W5, x.val.cell? ⟨zc, 0, none⟩ = some (.int .i64 ch.tb)) := Lib.hid (fun x => (HB5.out.kept x.k).cell 0 _ rfl)
          have HA2 : Hid (∀ x : KA (fun _ => False) W5, x.val.cell? ⟨zc, 1, none⟩ = some (.int .i64 ch.ky)) := Lib.hid (fun x => (HB5.out.kept x.k).cell 1 _ rfl)
          obtain ⟨tb, ky, had, o0, o1, o2, has, n0, n1, n2⟩ := ch
          obtain ⟨rw, th, hrt⟩ : ∃ (r : R5) (th : Bool), lookV (getR l tb ky) = .tuple #[rowV r, .bool th] ∧ fit1 l ⟨tb, ky, had, o0, o1, o2, has, n0, n1, n2⟩ = (if th then had && sameV r ⟨tb, ky, o0, o1, o2⟩ else !had) := by
            have h1 := HFT.out
            simp only [] at h1
            cases e : getR l tb ky with
            | none => rw [e] at h1; exact ⟨⟨0, 0, 0, 0, 0⟩, false, rfl, h1⟩
            | some r => rw [e] at h1; exact ⟨r, true, rfl, h1⟩
          have HRT := Lib.hid hrt.2
          have l1 := HLK.out
          simp only [] at l1
          rw [hrt.1] at l1
          clear hrt HFT
          have HLK := Lib.hid l1
          clear l1
          obtain ⟨ra, rb, rc, rd, re⟩ := rw
          have a0 := HA0.out
          have a1 := HA1.out
          have a2 := HA2.out
          have a3 := HLK.out
          refine wp_region_walk [(true, 0), (true, 1), (true, 2), (true, 3), (true, 4), (true, 5), (true, 6), (true, 7), (true, 8), (true, 9), (true, 10), (true, 11), (true, 12), (true, 13), (false, 14), (false, 15), (false, 16)] (inKA (fun _ => False) W5) (by kernel_rfl) (by kernel_rfl) ?_
          iterate 14 (refine walkW_read rfl (fun K hK => ?_); go_simp; refine hK _ ?_; clear hK K)
          clear a0 a1 a2 a3
          have HKD5 : Hid (Keep (fun _ => False) W5 W5.drew) := Lib.hid (Keep.refl _ W5).drew
          refine walkW_do rfl (inKA.of HKD5.out) (fun K hK => ?_)
          go_simp
          refine hK _ _ ?_
          clear hK K
          have HR6 := Lib.hid (BoxL.new W5 (rowC ⟨0, 0, 0, 0, 0⟩) 67).drew
          have HK56 := Lib.hid (keep_cells W5 (rowC ⟨0, 0, 0, 0, 0⟩).toArray 67).drew
          have e1 : (W5.alloc (.cells #[.int .i64 0, .int .i64 0, .int .i64 0, .int .i64 0, .int .i64 0] 67)).drew = (W5.alloc (.cells (rowC ⟨0, 0, 0, 0, 0⟩).toArray 67)).drew := rfl
          rw [e1]
          clear e1
          generalize (W5.alloc (.cells (rowC ⟨0, 0, 0, 0, 0⟩).toArray 67)).drew = W6 at *
          obtain ⟨zx, hzx⟩ : ∃ z, W5.heap.size = z := ⟨_, rfl⟩
          have HZX := Lib.hid hzx
          rw [hzx] at HR6 ⊢
          clear hzx
          obtain ⟨q0, q1, q2, q3, q4⟩ := HR6.out.row (r := ⟨0, 0, 0, 0, 0⟩)
          have fr := HR6.out.soft
          refine walkW_do rfl (inKA.of HK56.out) (fun K hK => ?_)
          go_simp
          refine hK _ _ ?_
          clear hK K
          clear q0 q1 q2 q3 q4 fr
          obtain ⟨W7, hW, hb, hk7⟩ := HR6.out.put5 ⟨ra, rb, rc, rd, re⟩
          simp only [] at hW
          rw [hW]
          have HK57 : Hid (Keep (fun _ => False) W5 W7) := Lib.hid (keep0 HK56.out (by have := HZX.out; omega) hk7)
          have HR7 := Lib.hid hb
          clear hW hb hk7
          refine walkW_do rfl (inKA.of HK57.out) (fun K hK => ?_)
          go_simp
          refine hK _ _ ?_
          clear hK K
          refine ⟨inKA.of HK57.out, ?_⟩
          have HKW8 := Lib.hid (HK5.out.trans HK57.out)
          obtain ⟨v0, v1, v2, v3, v4⟩ := HR7.out.row
          simp only [] at v0 v1 v2 v3 v4
          obtain ⟨c0, c1, c2, c3, c4, c5, c6, c7, c8, c9⟩ := (HB5.out.kept HK57.out).chg
          simp only [] at c0 c1 c2 c3 c4 c5 c6 c7 c8 c9
          have hm := guardV
          have hneq := fun w => neq_v3 rc rd re o0 o1 o2 w
          have HSV : Hid (sameV ⟨ra, rb, rc, rd, re⟩ ⟨tb, ky, o0, o1, o2⟩ = (rc == o0 && (rd == o1 && re == o2))) := Lib.hid rfl
          obtain ⟨qq, hqq⟩ : ∃ qq, (rc == o0 && (rd == o1 && re == o2)) = qq := ⟨_, rfl⟩
          rw [hqq] at HSV
          simp only [hqq] at hneq
          clear hqq
          rw [HSV.out] at HRT
          clear HSV
          cases th <;> cases had
          case false.true =>
            have HF : Hid (cs.all (fit1 l) = false) := Lib.hid (List.all_eq_false.2 ⟨_, HMEM.out, by rw [HRT.out]; simp⟩)
            rw [HF.out] at HO
            go_wp2_with fail
            go_ret
            exact ⟨by rw [HO.out]; rfl, HK2.out.trans HKW8.out⟩
          case true.false =>
            have HF : Hid (cs.all (fit1 l) = false) := Lib.hid (List.all_eq_false.2 ⟨_, HMEM.out, by rw [HRT.out]; simp⟩)
            rw [HF.out] at HO
            go_wp2_with fail
            go_ret
            exact ⟨by rw [HO.out]; rfl, HK2.out.trans HKW8.out⟩
          case true.true =>
            cases qq with
            | false =>
              have HF : Hid (cs.all (fit1 l) = false) := Lib.hid (List.all_eq_false.2 ⟨_, HMEM.out, by rw [HRT.out]; simp⟩)
              rw [HF.out] at HO
              go_wp2_with fail
              go_ret
              exact ⟨by rw [HO.out]; rfl, HK2.out.trans HKW8.out⟩
            | true =>
              cases has
              all_goals
                go_wp2_with fail
                go_roundg (gk - 1)
                case rel => exact ⟨k + 1, _, by omega, by go_num, rfl, Lib.hid (by rw [HTK.out, sizeC_snoc, ← HSZ.out]; simp; try omega), Lib.hid (by rw [HTK.out, List.all_append, HFI.out]; simp [HRT.out]), HKW8.out⟩
                case measure => omega
          case false.false =>
            cases has
            all_goals
              go_wp2_with fail
              go_roundg (gk - 1)
              case rel => exact ⟨k + 1, _, by omega, by go_num, rfl, Lib.hid (by rw [HTK.out, sizeC_snoc, ← HSZ.out]; simp; try omega), Lib.hid (by rw [HTK.out, List.all_append, HFI.out]; simp [HRT.out]), HKW8.out⟩
              case measure => omega
        · have hkn : ¬ (k : Int) < (n : Int) := by omega
          have HF : Hid (cs.all (fit1 l) = true) := Lib.hid (by have h1 := HFI.out; rwa [List.take_of_length_le (by have := HN.out; omega)] at h1)
          have HG : Hid (sizeC l.length cs = s) := Lib.hid (by have h1 := HSZ.out; rw [List.take_of_length_le (by have := HN.out; omega)] at h1; exact h1.symm)
          rw [HF.out, HG.out] at HO
          go_wp2_with fail
          go_ret
          exact ⟨by rw [HO.out]; rfl, HK2.out.trans HKW.out⟩
    · have hne : (q != p + 1) = true := by simpa using he
      have HQ : Hid ((q == p + 1) = false) := Lib.hid (by simpa using he)
      rw [HQ.out] at HO
      clear he
      iterate 2 (refine walkW_do rfl (inKA.of HKD2.out) (fun K hK => ?_); go_simp; refine hK _ _ ?_; clear hK K)
      iterate 2 (refine walkW_read rfl (fun K hK => ?_); go_simp; refine hK _ ?_; clear hK K)
      iterate 8 (refine walkW_do rfl (inKA.of HKD2.out) (fun K hK => ?_); go_simp; refine hK _ _ ?_; clear hK K)
      refine ⟨inKA.of HKD2.out, ?_⟩
      go_wp2_with fail
      go_ret
      exact ⟨by rw [HO.out]; rfl, HK2.out⟩
end Go.Proofs.YtcnpncndecjahaaGreatDoor

/-
  New, Apply, Get of package store; Value of package row.
-/
namespace Go.Proofs.YtcnpncndecjahaaGreatDoor
open Go.RowKit Go.Shelf

def NewStP (w : World) (e : Ending) (w' : World) : Prop := ∃ z mb, e = .returned (ptr z) ∧ StA w' z mb [] 0 ∧ Keep (fun _ => False) w w' ∧ w.heap.size ≤ z ∧ w.heap.size ≤ mb
set_option maxRecDepth 100000 in
set_option maxHeartbeats 1000000 in
theorem newSt_any (w : World) : Calls Tryz.prog 25 #[] w (NewStP w) := by
  have HS := Lib.hid (StA.made (W := w) 129)
  have HK := Lib.hid (((Keep.refl (fun _ => False) w).alloc (.map #[] 0)).alloc (.cells #[.map (some w.heap.size), .int .i64 0] 129))
  have hmm := @run_makeMap Tryz.prog
  go_enter Tryz.func25, Tryz.ntmps25
  go_wp2_with fail
  go_ret
  exact ⟨_, _, rfl, HS.out, HK.out, by omega, by omega⟩
theorem val_cases (c : Int) : c = 0 ∨ c = 1 ∨ c = 2 ∨ c = 3 ∨ (c ≠ 0 ∧ c ≠ 1 ∧ c ≠ 2 ∧ c ≠ 3) := by omega
set_option maxRecDepth 100000 in
set_option maxHeartbeats 1000000 in
theorem value_any (r : R5) (c : Int) (w : World) : Calls Tryz.prog 67 #[rowV r, .int .i64 c] w fun e w' => e = .returned (.int .i64 (r.val c)) ∧ w' = w.alloc (.cells (rowC r).toArray 67) := by
  have HB := Lib.hid (BoxL.new w (rowC r) 67)
  have HE : Hid (w.alloc (.cells (rowC r).toArray 67) = w.alloc (.cells (rowC r).toArray 67)) := Lib.hid rfl
  have HV : Hid (r.val c = if c = 0 then r.ky else if c = 1 then r.a else if c = 2 then r.b else if c = 3 then r.c else 0) := Lib.hid rfl
  obtain ⟨r0, r1, r2, r3, r4⟩ := r
  rcases val_cases c with rfl | rfl | rfl | rfl | ⟨h0, h1, h2, h3⟩
  · have HX : Hid (R5.val ⟨r0, r1, r2, r3, r4⟩ 0 = r1) := Lib.hid (by rw [HV.out]; rfl)
    clear HV HE
    go_enter Tryz.func67, Tryz.ntmps67
    go_upto_region 1 with (fail)
    generalize hW : w.alloc (.cells #[.int .i64 r0, .int .i64 r1, .int .i64 r2, .int .i64 r3, .int .i64 r4] 67) = W at *
    generalize w.heap.size = z at *
    obtain ⟨c0, c1, c2, c3, c4⟩ := HB.out.row
    simp only [] at c0 c1 c2 c3 c4
    have HW := Lib.hid hW
    clear hW
    go_wp2_with fail
    go_ret
    exact ⟨by rw [HX.out]; rfl, HW.out.symm⟩
  · have HX : Hid (R5.val ⟨r0, r1, r2, r3, r4⟩ 1 = r2) := Lib.hid (by rw [HV.out]; rfl)
    clear HV HE
    go_enter Tryz.func67, Tryz.ntmps67
    go_upto_region 1 with (fail)
    generalize hW : w.alloc (.cells #[.int .i64 r0, .int .i64 r1, .int .i64 r2, .int .i64 r3, .int .i64 r4] 67) = W at *
    generalize w.heap.size = z at *
    obtain ⟨c0, c1, c2, c3, c4⟩ := HB.out.row
    simp only [] at c0 c1 c2 c3 c4
    have HW := Lib.hid hW
    clear hW
    go_wp2_with fail
    go_ret
    exact ⟨by rw [HX.out]; rfl, HW.out.symm⟩
  · have HX : Hid (R5.val ⟨r0, r1, r2, r3, r4⟩ 2 = r3) := Lib.hid (by rw [HV.out]; rfl)
    clear HV HE
    go_enter Tryz.func67, Tryz.ntmps67
    go_upto_region 1 with (fail)
    generalize hW : w.alloc (.cells #[.int .i64 r0, .int .i64 r1, .int .i64 r2, .int .i64 r3, .int .i64 r4] 67) = W at *
    generalize w.heap.size = z at *
    obtain ⟨c0, c1, c2, c3, c4⟩ := HB.out.row
    simp only [] at c0 c1 c2 c3 c4
    have HW := Lib.hid hW
    clear hW
    go_wp2_with fail
    go_ret
    exact ⟨by rw [HX.out]; rfl, HW.out.symm⟩
  · have HX : Hid (R5.val ⟨r0, r1, r2, r3, r4⟩ 3 = r4) := Lib.hid (by rw [HV.out]; rfl)
    clear HV HE
    go_enter Tryz.func67, Tryz.ntmps67
    go_upto_region 1 with (fail)
    generalize hW : w.alloc (.cells #[.int .i64 r0, .int .i64 r1, .int .i64 r2, .int .i64 r3, .int .i64 r4] 67) = W at *
    generalize w.heap.size = z at *
    obtain ⟨c0, c1, c2, c3, c4⟩ := HB.out.row
    simp only [] at c0 c1 c2 c3 c4
    have HW := Lib.hid hW
    clear hW
    go_wp2_with fail
    go_ret
    exact ⟨by rw [HX.out]; rfl, HW.out.symm⟩
  · have HX : Hid (R5.val ⟨r0, r1, r2, r3, r4⟩ c = 0) := Lib.hid (by rw [HV.out]; rw [if_neg h0, if_neg h1, if_neg h2, if_neg h3])
    clear HV HE
    go_enter Tryz.func67, Tryz.ntmps67
    go_upto_region 1 with (fail)
    generalize hW : w.alloc (.cells #[.int .i64 r0, .int .i64 r1, .int .i64 r2, .int .i64 r3, .int .i64 r4] 67) = W at *
    generalize w.heap.size = z at *
    obtain ⟨c0, c1, c2, c3, c4⟩ := HB.out.row
    simp only [] at c0 c1 c2 c3 c4
    have HW := Lib.hid hW
    clear hW
    go_wp2_with fail
    go_ret
    exact ⟨by rw [HX.out]; rfl, HW.out.symm⟩
set_option maxRecDepth 100000 in
set_option maxHeartbeats 4000000 in
theorem apply_any (z mb : Nat) (l : List R5) (p q : Int) (v : Value) (cs : List Chg) (w : World) (h : StA w z mb l p) (hc : Chs w v cs) (hp : 0 ≤ p ∧ p ≤ 10000) (hq : I64 q) (hl : l.length ≤ 1000000) (hd : ∀ b, v.ownBlock = some b → ¬ (b = z ∨ b = mb)) :
    Calls Tryz.prog 26 #[ptr z, recV q v] w fun e w' => e = .returned (.int .i64 (if fitsB l p q cs then 0 else 40)) ∧ StA w' z mb (if fitsB l p q cs then cs.foldl stepR l else l) (if fitsB l p q cs then q else p) ∧ Keep (fun i => i = z ∨ i = mb) w w' := by
  have K0 := keep_cells w #[.int .i64 q, v] 73
  have HB0 := Lib.hid (BoxL.new w [.int .i64 q, v] 73)
  have HS0 := Lib.hid (h.kept K0)
  have HC0 := Lib.hid (hc.kept K0)
  have HK0 := Lib.hid K0
  have HF := Lib.hid (fits_any z mb l p q v cs _ HS0.out HC0.out hp hq hl)
  have HDD := Lib.hid hd
  have HZN : Hid (¬ (w.heap.size = z ∨ w.heap.size = mb)) := Lib.hid (by have h1 := h.box.lt; have h2 := h.mp.lt; omega)
  generalize fitsB l p q cs = ok at *
  clear h hc hq K0 hd
  go_enter Tryz.func26, Tryz.ntmps26
  go_upto_region 1 with (fail)
  generalize w.alloc (.cells #[.int .i64 q, v] 73) = W0 at *
  generalize w.heap.size = zr at *
  have r0 := HB0.out.cell 0 _ rfl
  have r1 := HB0.out.cell 1 _ rfl
  go_wp2_with fail
  clear r0 r1
  with_reducible refine HF.out.mono ?_
  rintro e W1 ⟨rfl, k⟩
  have HK1 := Lib.hid (HK0.out.trans k)
  have HB1 := Lib.hid (HB0.out.kept k)
  have HS1 := Lib.hid (HS0.out.kept k)
  have HC1 := Lib.hid (HC0.out.kept k)
  clear k HB0 HS0 HC0 HK0 HF
  cases ok with
  | false =>
    go_wp2_with fail
    go_ret
    exact ⟨rfl, HS1.out, HK1.out.mono (fun _ h => h.elim)⟩
  | true =>
    obtain ⟨n, hn⟩ : ∃ n, cs.length = n := ⟨_, rfl⟩
    have HN := Lib.hid hn
    have hnb : n ≤ 1000000000 := by rw [← hn]; exact HC1.out.n
    obtain ⟨a, cp, bb, off, hv, hcp, ha, -⟩ := HC1.out.at_
    have r1 := HB1.out.cell 1 _ rfl
    rw [hn] at hv hcp ha
    have HAA := Lib.hid ha
    clear hn ha
    subst hv
    go_wp2_with fail
    clear r1
    go_loopg [21] n (fun gh v21 wr => ∃ (k : Nat), gh + k = n ∧ v21 = .int .i64 k ∧ StA wr z mb ((cs.take k).foldl stepR l) p ∧ Keep (fun i => i = z ∨ i = mb) W1 wr)
    case atStart => exact ⟨0, by omega, rfl, HS1.out, Keep.refl _ _⟩
    case round =>
      obtain ⟨k, hk, rfl, hs, hkw⟩ := hrel
      have HS := Lib.hid hs
      have HKW := Lib.hid hkw
      clear hs hkw
      by_cases hlt : k < n
      · obtain ⟨ch, hch⟩ : ∃ x, cs[k]? = some x := ⟨_, List.getElem?_eq_getElem (by have := HN.out; omega)⟩
        obtain ⟨b, off, hab, hcell⟩ := (HC1.out.keep HKW.out HDD.out).at_slice hch
        subst hab
        have HTK : Hid ((cs.take (k + 1)).foldl stepR l = stepR ((cs.take k).foldl stepR l) ch) := Lib.hid (by rw [List.take_add_one, hch, List.foldl_append]; rfl)
        have HFI := Lib.hid (HC1.out.fine ch (List.mem_of_getElem? hch))
        have HB5 := Lib.hid (BoxL.new wr (chC ch) 65)
        have HS5 := Lib.hid (HS.out.kept (keep_cells wr (chC ch).toArray 65))
        have HK5 := Lib.hid (HKW.out.alloc (.cells (chC ch).toArray 65))
        have HAF := Lib.hid (after_any ch)
        clear hch
        have d0 := hcell 0 _ rfl
        have d1 := hcell 1 _ rfl
        have d2 := hcell 2 _ rfl
        have d3 := hcell 3 _ rfl
        have d4 := hcell 4 _ rfl
        have d5 := hcell 5 _ rfl
        have d6 := hcell 6 _ rfl
        have d7 := hcell 7 _ rfl
        have d8 := hcell 8 _ rfl
        have d9 := hcell 9 _ rfl
        rw [Nat.add_zero] at d0
        clear hcell
        have hkz : (k : Int) < (n : Int) := by omega
        have hk0 : (0 : Int) ≤ (k : Int) := by omega
        go_upto_region 8 with (fail)
        clear d0 d1 d2 d3 d4 d5 d6 d7 d8 d9
        have e1 : wr.alloc (.cells #[.int .i64 ch.tb, .int .i64 ch.ky, .bool ch.had, .int .i64 ch.o0, .int .i64 ch.o1, .int .i64 ch.o2, .bool ch.has, .int .i64 ch.n0, .int .i64 ch.n1, .int .i64 ch.n2] 65) = wr.alloc (.cells (chC ch).toArray 65) := rfl
        rw [e1]
        clear e1
        have HNE : Hid (mb ≠ wr.heap.size ∧ z ≠ wr.heap.size) := Lib.hid (by have h1 := HS.out.mp.lt; have h2 := HS.out.box.lt; omega)
        generalize wr.alloc (.cells (chC ch).toArray 65) = W5 at *
        generalize wr.heap.size = zc at *
        obtain ⟨c0, c1, -, -, -, -, -, -, -, -⟩ := HB5.out.chg
        go_upto_region 9 with (fail)
        clear c0 c1
        have HI6 := Lib.hid (BoxL.new W5 [.int .i64 ch.tb, .int .i64 ch.ky] 131)
        have HB6 := Lib.hid (HB5.out.kept (keep_cells W5 #[.int .i64 ch.tb, .int .i64 ch.ky] 131))
        have HS6 := Lib.hid (HS5.out.kept (keep_cells W5 #[.int .i64 ch.tb, .int .i64 ch.ky] 131))
        have HK6 := Lib.hid (HK5.out.alloc (.cells #[.int .i64 ch.tb, .int .i64 ch.ky] 131))
        generalize W5.alloc (.cells #[.int .i64 ch.tb, .int .i64 ch.ky] 131) = W6 at *
        generalize W5.heap.size = zi at *
        obtain ⟨c0, c1, c2, c3, c4, c5, c6, c7, c8, c9⟩ := HB6.out.chg
        go_wp2_with fail
        clear c0 c1 c2 c3 c4 c5 c6 c7 c8 c9
        with_reducible refine (HAF.out W6).mono ?_
        rintro e W7 ⟨rfl, k7⟩
        have HI7 := Lib.hid (HI6.out.kept k7)
        have HS7 := Lib.hid (HS6.out.kept k7)
        have HK7 := Lib.hid (HK6.out.trans (k7.mono (fun _ h => h.elim)))
        clear k7 HB6 HB5 HAF
        cases hhas : ch.has with
        | true =>
          have HH := Lib.hid hhas
          have HR : Hid (halfR ch.new true = ch.new) := Lib.hid rfl
          rw [HR.out]
          obtain ⟨tb, ky, had, o0, o1, o2, has, n0, n1, n2⟩ := ch
          simp only [] at hhas
          clear hhas
          have HX : Hid (Chg.new ⟨tb, ky, had, o0, o1, o2, has, n0, n1, n2⟩ = ⟨tb, ky, n0, n1, n2⟩) := Lib.hid rfl
          rw [HX.out]
          have HR8 := Lib.hid (BoxL.new W7 (rowC ⟨tb, ky, n0, n1, n2⟩) 67)
          have HI8 := Lib.hid (HI7.out.kept (keep_cells W7 (rowC ⟨tb, ky, n0, n1, n2⟩).toArray 67))
          have HS8 := Lib.hid (HS7.out.kept (keep_cells W7 (rowC ⟨tb, ky, n0, n1, n2⟩).toArray 67))
          have HK8 := Lib.hid (HK7.out.alloc (.cells (rowC ⟨tb, ky, n0, n1, n2⟩).toArray 67))
          go_upto_region 11 with (fail)
          have e1 : W7.alloc (.cells #[.int .i64 tb, .int .i64 ky, .int .i64 n0, .int .i64 n1, .int .i64 n2] 67) = W7.alloc (.cells (rowC ⟨tb, ky, n0, n1, n2⟩).toArray 67) := rfl
          rw [e1]
          clear e1
          generalize W7.alloc (.cells (rowC ⟨tb, ky, n0, n1, n2⟩).toArray 67) = W8 at *
          generalize W7.heap.size = zx at *
          have e2 : zx = zx := rfl
          clear e2
          have hs8 := HS8.out.drew
          obtain ⟨es, ck, hup, hst⟩ := hs8.update (c := ⟨tb, ky, had, o0, o1, o2, has, n0, n1, n2⟩) HH.out HFI.out
          have HST := Lib.hid hst
          have HPK : Hid (Keep (fun i => i = z ∨ i = mb) W8 (W8.drew.putObj mb (.map es ck))) := Lib.hid ((Keep.refl (fun i => i = z ∨ i = mb) W8).drew.putObj _ (.inl (.inr rfl)))
          have x0 : W8.drew.cell? ⟨z, 0, none⟩ = some (.map (some mb)) := hs8.box.cell 0 _ rfl
          have x1 : W8.drew.cell? ⟨zi, 0, none⟩ = some (.int .i64 tb) := HI8.out.drew.cell 0 _ rfl
          have x2 : W8.drew.cell? ⟨zi, 1, none⟩ = some (.int .i64 ky) := HI8.out.drew.cell 1 _ rfl
          have x3 : W8.drew.cell? ⟨zx, 0, none⟩ = some (.int .i64 tb) := HR8.out.drew.cell 0 _ rfl
          have x4 : W8.drew.cell? ⟨zx, 1, none⟩ = some (.int .i64 ky) := HR8.out.drew.cell 1 _ rfl
          have x5 : W8.drew.cell? ⟨zx, 2, none⟩ = some (.int .i64 n0) := HR8.out.drew.cell 2 _ rfl
          have x6 : W8.drew.cell? ⟨zx, 3, none⟩ = some (.int .i64 n1) := HR8.out.drew.cell 3 _ rfl
          have x7 : W8.drew.cell? ⟨zx, 4, none⟩ = some (.int .i64 n2) := HR8.out.drew.cell 4 _ rfl
          have hup2 : (Instr.mapUpdate 125 (.map (some mb)) (idV tb ky) (rowV ⟨tb, ky, n0, n1, n2⟩)).run Tryz.prog W8.drew = .ok () (W8.drew.putObj mb (.map es ck)) := hup
          clear hup hst hs8
          refine wp_region_still_tail 7 (by kernel_rfl) (by kernel_rfl) ?_
          simp only [List.take_succ_cons, List.take_zero, List.drop_succ_cons, List.drop_zero]
          change wpStill _ _ W8.drew _ _ _
          iterate 7 still_step
          refine wpStill_nil ?_
          go_wp2_with fail
          clear x0 x1 x2 x3 x4 x5 x6 x7 hup2
          go_roundg (gk - 1)
          case rel => exact ⟨k + 1, by omega, by go_num, by rw [HTK.out]; exact HST.out, HK8.out.trans HPK.out⟩
          case measure => omega
        | false =>
          have HR : Hid (halfR ch.new false = ⟨0, 0, 0, 0, 0⟩) := Lib.hid rfl
          have HH := Lib.hid hhas
          rw [HR.out]
          obtain ⟨tb, ky, had, o0, o1, o2, has, n0, n1, n2⟩ := ch
          simp only [] at hhas
          clear hhas
          have HI8 := Lib.hid (HI7.out.kept (keep_cells W7 (rowC ⟨0, 0, 0, 0, 0⟩).toArray 67))
          have HS8 := Lib.hid (HS7.out.kept (keep_cells W7 (rowC ⟨0, 0, 0, 0, 0⟩).toArray 67))
          have HK8 := Lib.hid (HK7.out.alloc (.cells (rowC ⟨0, 0, 0, 0, 0⟩).toArray 67))
          go_upto_region 12 with (fail)
          have e1 : W7.alloc (.cells #[.int .i64 0, .int .i64 0, .int .i64 0, .int .i64 0, .int .i64 0] 67) = W7.alloc (.cells (rowC ⟨0, 0, 0, 0, 0⟩).toArray 67) := rfl
          rw [e1]
          clear e1
          generalize W7.alloc (.cells (rowC ⟨0, 0, 0, 0, 0⟩).toArray 67) = W8 at *
          generalize W7.heap.size = zx at *
          have hs8 := HS8.out.drew
          obtain ⟨es, ck, hup, hst⟩ := hs8.delete (c := ⟨tb, ky, had, o0, o1, o2, has, n0, n1, n2⟩) HH.out HFI.out 0
          have HST := Lib.hid hst
          have HPK : Hid (Keep (fun i => i = z ∨ i = mb) W8 (W8.drew.putObj mb (.map es ck))) := Lib.hid ((Keep.refl (fun i => i = z ∨ i = mb) W8).drew.putObj _ (.inl (.inr rfl)))
          have x0 : W8.drew.cell? ⟨z, 0, none⟩ = some (.map (some mb)) := hs8.box.cell 0 _ rfl
          have x1 : W8.drew.cell? ⟨zi, 0, none⟩ = some (.int .i64 tb) := HI8.out.drew.cell 0 _ rfl
          have x2 : W8.drew.cell? ⟨zi, 1, none⟩ = some (.int .i64 ky) := HI8.out.drew.cell 1 _ rfl
          have hup2 : (Builtin.delete_ #[125, 131] 0 #[.map (some mb), idV tb ky]).run Tryz.prog W8.drew = .ok (.tuple #[]) (W8.drew.putObj mb (.map es ck)) := hup
          clear hup hst hs8
          refine wp_region_still_tail 6 (by kernel_rfl) (by kernel_rfl) ?_
          simp only [List.take_succ_cons, List.take_zero, List.drop_succ_cons, List.drop_zero]
          change wpStill _ _ W8.drew _ _ _
          iterate 6 still_step
          refine wpStill_nil ?_
          go_wp2_with fail
          clear x0 x1 x2 hup2
          go_roundg (gk - 1)
          case rel => exact ⟨k + 1, by omega, by go_num, by rw [HTK.out]; exact HST.out, HK8.out.trans HPK.out⟩
          case measure => omega
      · have hkn : ¬ (k : Int) < (n : Int) := by omega
        have HS : Hid (StA wr z mb (cs.foldl stepR l) p) := Lib.hid (by have h1 := HS.out; rwa [List.take_of_length_le (by have := HN.out; omega)] at h1)
        have x0 := (HB1.out.keep (A := fun i => i = z ∨ i = mb) HKW.out HZN.out).cell 0 _ rfl
        have x1 := HS.out.box.cell 1 _ rfl
        have fr := HS.out.box.soft
        go_wp2_with fail
        go_ret
        exact ⟨rfl, HS.out.setPos q, (HK1.out.mono (fun _ h => h.elim)).trans (HKW.out.setCell _ (.inl (.inl rfl)))⟩
end Go.Proofs.YtcnpncndecjahaaGreatDoor

/-
  After, Before, Valid of the reference's rows.
-/
namespace Go.Proofs.YtcnpncndecjahaaGreatDoor
open Go.RowKit Go.Shelf

def wiR (n lo hi : Int) : Bool := decide (lo ≤ n) && decide (n ≤ hi)
set_option maxRecDepth 100000 in
set_option maxHeartbeats 1000000 in
theorem win03_any (n lo hi : Int) (w : World) : Calls Tryz.prog 81 #[.int .i64 n, .int .i64 lo, .int .i64 hi] w fun e w' => e = .returned (.bool (wiR n lo hi)) ∧ w = w' := by
  by_cases h : lo ≤ n
  · have HO : Hid (wiR n lo hi = decide (n ≤ hi)) := Lib.hid (by unfold wiR; rw [decide_eq_true h]; rfl)
    go_enter Tryz.func81, Tryz.ntmps81
    go_wp2_with fail
    go_ret
    exact ⟨by rw [HO.out]; rfl, rfl⟩
  · have HO : Hid (wiR n lo hi = false) := Lib.hid (by unfold wiR; rw [decide_eq_false h]; rfl)
    go_enter Tryz.func81, Tryz.ntmps81
    go_wp2_with fail
    go_ret
    exact ⟨by rw [HO.out]; rfl, rfl⟩
theorem wiB_wiR (lo hi n : Int) : wiB lo hi [n] = wiR n lo hi := by
  unfold wiB wiR
  simp only [List.any_cons, List.any_nil, Bool.or_false]
  by_cases h1 : lo ≤ n <;> by_cases h2 : n ≤ hi <;> simp [h1, h2] <;> omega
theorem okRow_ref (r : R5) : okRow r = (wiR r.a (-1000000000) 1000000000 && (wiR r.b (-1000000000) 1000000000 && (wiR r.c (-1000000000) 1000000000 && (wiR r.tb 0 3 && wiR r.ky 1 1000000)))) := by
  unfold okRow
  rw [wiB_wiR, wiB_wiR]
  have : wiB (-1000000000) 1000000000 [r.a, r.b, r.c] = (wiR r.a (-1000000000) 1000000000 && (wiR r.b (-1000000000) 1000000000 && wiR r.c (-1000000000) 1000000000)) := by
    rw [← wiB_wiR, ← wiB_wiR, ← wiB_wiR]
    unfold wiB
    simp only [List.any_cons, List.any_nil, Bool.or_false]
    simp only [Bool.not_or]
  rw [this]
  cases wiR r.tb 0 3 <;> cases wiR r.ky 1 1000000 <;> cases wiR r.a (-1000000000) 1000000000 <;> cases wiR r.b (-1000000000) 1000000000 <;> cases wiR r.c (-1000000000) 1000000000 <;> rfl
set_option maxRecDepth 100000 in
set_option maxHeartbeats 2000000 in
theorem halfHas_any (c : Chg) (w : World) : Calls Tryz.prog 51 #[chV c] w fun e w' => e = .returned (.tuple #[rowV (halfR c.new c.has), .bool c.has]) ∧ Keep (fun _ => False) w w' := by
  have K1 : Keep (fun _ => False) w (w.alloc (.cells (chC c).toArray 65)) := keep_cells _ _ _
  have B1 := BoxL.new w (chC c) 65
  have HR : Hid (halfR c.new c.has = if c.has then ⟨c.tb, c.ky, c.n0, c.n1, c.n2⟩ else ⟨0, 0, 0, 0, 0⟩) := Lib.hid rfl
  rw [HR.out]
  obtain ⟨tb, ky, had, o0, o1, o2, has, n0, n1, n2⟩ := c
  have K2 := K1.alloc (.cells #[.int .i64 0, .int .i64 0, .int .i64 0, .int .i64 0, .int .i64 0] 67)
  have B2 := B1.kept (keep_cells _ #[.int .i64 0, .int .i64 0, .int .i64 0, .int .i64 0, .int .i64 0] 67)
  have V2 := BoxL.new (w.alloc (.cells #[.int .i64 tb, .int .i64 ky, .bool had, .int .i64 o0, .int .i64 o1, .int .i64 o2, .bool has, .int .i64 n0, .int .i64 n1, .int .i64 n2] 65)) [.int .i64 0, .int .i64 0, .int .i64 0, .int .i64 0, .int .i64 0] 67
  simp only [World.size_alloc] at V2
  have HK := Lib.hid K2
  have HB := Lib.hid B2
  have HV := Lib.hid V2
  have HZ : Hid (w.heap.size ≤ w.heap.size + 1) := Lib.hid (by omega)
  clear K1 K2 B1 B2 V2 HR
  cases has with
  | false =>
    go_enter Tryz.func51, Tryz.ntmps51
    go_upto_region 1 with (fail)
    generalize ((w.alloc (.cells #[.int .i64 tb, .int .i64 ky, .bool had, .int .i64 o0, .int .i64 o1, .int .i64 o2, .bool false, .int .i64 n0, .int .i64 n1, .int .i64 n2] 65)).alloc (.cells #[.int .i64 0, .int .i64 0, .int .i64 0, .int .i64 0, .int .i64 0] 67)) = W at *
    generalize w.heap.size + 1 = zr at *
    obtain ⟨c0, c1, c2, c3, c4, c5, c6, c7, c8, c9⟩ := HB.out.chg
    simp only [] at c0 c1 c2 c3 c4 c5 c6 c7 c8 c9
    obtain ⟨q0, q1, q2, q3, q4⟩ := HV.out.row (r := ⟨0, 0, 0, 0, 0⟩)
    have fr := HV.out.soft
    go_wp2_with fail
    obtain ⟨W2, hW, hb, hk⟩ := HV.out.put5 ⟨0, 0, 0, 0, 0⟩
    simp only [] at hW
    rw [hW]
    obtain ⟨d0, d1, d2, d3, d4⟩ := hb.row
    refine bodyPost_ret (v := .tuple #[rowV ⟨0, 0, 0, 0, 0⟩, .bool false]) (by simp [results, Tryz.results51, go_sem, d0, d1, d2, d3, d4]) rfl ?_
    exact ⟨rfl, keep0 HK.out HZ.out hk⟩
  | true =>
    go_enter Tryz.func51, Tryz.ntmps51
    go_upto_region 1 with (fail)
    generalize ((w.alloc (.cells #[.int .i64 tb, .int .i64 ky, .bool had, .int .i64 o0, .int .i64 o1, .int .i64 o2, .bool true, .int .i64 n0, .int .i64 n1, .int .i64 n2] 65)).alloc (.cells #[.int .i64 0, .int .i64 0, .int .i64 0, .int .i64 0, .int .i64 0] 67)) = W at *
    generalize w.heap.size + 1 = zr at *
    obtain ⟨c0, c1, c2, c3, c4, c5, c6, c7, c8, c9⟩ := HB.out.chg
    simp only [] at c0 c1 c2 c3 c4 c5 c6 c7 c8 c9
    obtain ⟨q0, q1, q2, q3, q4⟩ := HV.out.row (r := ⟨0, 0, 0, 0, 0⟩)
    have fr := HV.out.soft
    go_wp2_with fail
    obtain ⟨W2, hW, hb, hk⟩ := HV.out.put5 ⟨tb, ky, n0, n1, n2⟩
    simp only [] at hW
    rw [hW]
    obtain ⟨d0, d1, d2, d3, d4⟩ := hb.row
    refine bodyPost_ret (v := .tuple #[rowV ⟨tb, ky, n0, n1, n2⟩, .bool true]) (by simp [results, Tryz.results51, go_sem, d0, d1, d2, d3, d4]) rfl ?_
    exact ⟨rfl, keep0 HK.out HZ.out hk⟩
set_option maxRecDepth 100000 in
set_option maxHeartbeats 2000000 in
theorem halfHad_any (c : Chg) (w : World) : Calls Tryz.prog 92 #[chV c] w fun e w' => e = .returned (.tuple #[rowV (halfR c.old c.had), .bool c.had]) ∧ Keep (fun _ => False) w w' := by
  have K1 : Keep (fun _ => False) w (w.alloc (.cells (chC c).toArray 65)) := keep_cells _ _ _
  have B1 := BoxL.new w (chC c) 65
  have HR : Hid (halfR c.old c.had = if c.had then ⟨c.tb, c.ky, c.o0, c.o1, c.o2⟩ else ⟨0, 0, 0, 0, 0⟩) := Lib.hid rfl
  rw [HR.out]
  obtain ⟨tb, ky, had, o0, o1, o2, has, n0, n1, n2⟩ := c
  have K2 := K1.alloc (.cells #[.int .i64 0, .int .i64 0, .int .i64 0, .int .i64 0, .int .i64 0] 67)
  have B2 := B1.kept (keep_cells _ #[.int .i64 0, .int .i64 0, .int .i64 0, .int .i64 0, .int .i64 0] 67)
  have V2 := BoxL.new (w.alloc (.cells #[.int .i64 tb, .int .i64 ky, .bool had, .int .i64 o0, .int .i64 o1, .int .i64 o2, .bool has, .int .i64 n0, .int .i64 n1, .int .i64 n2] 65)) [.int .i64 0, .int .i64 0, .int .i64 0, .int .i64 0, .int .i64 0] 67
  simp only [World.size_alloc] at V2
  have HK := Lib.hid K2
  have HB := Lib.hid B2
  have HV := Lib.hid V2
  have HZ : Hid (w.heap.size ≤ w.heap.size + 1) := Lib.hid (by omega)
  clear K1 K2 B1 B2 V2 HR
  cases had with
  | false =>
    go_enter Tryz.func92, Tryz.ntmps92
    go_upto_region 1 with (fail)
    generalize ((w.alloc (.cells #[.int .i64 tb, .int .i64 ky, .bool false, .int .i64 o0, .int .i64 o1, .int .i64 o2, .bool has, .int .i64 n0, .int .i64 n1, .int .i64 n2] 65)).alloc (.cells #[.int .i64 0, .int .i64 0, .int .i64 0, .int .i64 0, .int .i64 0] 67)) = W at *
    generalize w.heap.size + 1 = zr at *
    obtain ⟨c0, c1, c2, c3, c4, c5, c6, c7, c8, c9⟩ := HB.out.chg
    simp only [] at c0 c1 c2 c3 c4 c5 c6 c7 c8 c9
    obtain ⟨q0, q1, q2, q3, q4⟩ := HV.out.row (r := ⟨0, 0, 0, 0, 0⟩)
    have fr := HV.out.soft
    go_wp2_with fail
    obtain ⟨W2, hW, hb, hk⟩ := HV.out.put5 ⟨0, 0, 0, 0, 0⟩
    simp only [] at hW
    rw [hW]
    obtain ⟨d0, d1, d2, d3, d4⟩ := hb.row
    refine bodyPost_ret (v := .tuple #[rowV ⟨0, 0, 0, 0, 0⟩, .bool false]) (by simp [results, Tryz.results92, go_sem, d0, d1, d2, d3, d4]) rfl ?_
    exact ⟨rfl, keep0 HK.out HZ.out hk⟩
  | true =>
    go_enter Tryz.func92, Tryz.ntmps92
    go_upto_region 1 with (fail)
    generalize ((w.alloc (.cells #[.int .i64 tb, .int .i64 ky, .bool true, .int .i64 o0, .int .i64 o1, .int .i64 o2, .bool has, .int .i64 n0, .int .i64 n1, .int .i64 n2] 65)).alloc (.cells #[.int .i64 0, .int .i64 0, .int .i64 0, .int .i64 0, .int .i64 0] 67)) = W at *
    generalize w.heap.size + 1 = zr at *
    obtain ⟨c0, c1, c2, c3, c4, c5, c6, c7, c8, c9⟩ := HB.out.chg
    simp only [] at c0 c1 c2 c3 c4 c5 c6 c7 c8 c9
    obtain ⟨q0, q1, q2, q3, q4⟩ := HV.out.row (r := ⟨0, 0, 0, 0, 0⟩)
    have fr := HV.out.soft
    go_wp2_with fail
    obtain ⟨W2, hW, hb, hk⟩ := HV.out.put5 ⟨tb, ky, o0, o1, o2⟩
    simp only [] at hW
    rw [hW]
    obtain ⟨d0, d1, d2, d3, d4⟩ := hb.row
    refine bodyPost_ret (v := .tuple #[rowV ⟨tb, ky, o0, o1, o2⟩, .bool true]) (by simp [results, Tryz.results92, go_sem, d0, d1, d2, d3, d4]) rfl ?_
    exact ⟨rfl, keep0 HK.out HZ.out hk⟩
set_option maxRecDepth 100000 in
set_option maxHeartbeats 2000000 in
theorem valid03_any (r : R5) (w : World) : Calls Tryz.prog 93 #[rowV r] w fun e w' => e = .returned (.bool (okRow r)) ∧ Keep (fun _ => False) w w' := by
  have HK := Lib.hid (keep_cells w (rowC r).toArray 67)
  have HB := Lib.hid (BoxL.new w (rowC r) 67)
  have HO := Lib.hid (okRow_ref r)
  obtain ⟨tb, ky, a, b, c⟩ := r
  have HO : Hid (okRow ⟨tb, ky, a, b, c⟩ = (wiR a (-1000000000) 1000000000 && (wiR b (-1000000000) 1000000000 && (wiR c (-1000000000) 1000000000 && (wiR tb 0 3 && wiR ky 1 1000000))))) := Lib.hid HO.out
  have HA := Lib.hid (win03_any a (-1000000000) 1000000000)
  have HBB := Lib.hid (win03_any b (-1000000000) 1000000000)
  have HC := Lib.hid (win03_any c (-1000000000) 1000000000)
  have HT := Lib.hid (win03_any tb 0 3)
  have HY := Lib.hid (win03_any ky 1 1000000)
  generalize wiR a (-1000000000) 1000000000 = ba at *
  generalize wiR b (-1000000000) 1000000000 = bb at *
  generalize wiR c (-1000000000) 1000000000 = bc at *
  generalize wiR tb 0 3 = bt at *
  generalize wiR ky 1 1000000 = bk at *
  go_enter Tryz.func93, Tryz.ntmps93
  go_upto_region 1 with (fail)
  have e1 : w.alloc (.cells #[.int .i64 tb, .int .i64 ky, .int .i64 a, .int .i64 b, .int .i64 c] 67) = w.alloc (.cells (rowC ⟨tb, ky, a, b, c⟩).toArray 67) := rfl
  rw [e1]
  clear e1
  generalize w.alloc (.cells (rowC ⟨tb, ky, a, b, c⟩).toArray 67) = W at *
  generalize w.heap.size = z at *
  go_wp2_with fail
  go_loopg [3] 4 (fun gh v wr => ∃ k : Nat, gh + k = 4 ∧ k ≤ 3 ∧ v = .int .i64 k ∧ Hid (okRow ⟨tb, ky, a, b, c⟩ = (((if k ≤ 0 then ba else true) && ((if k ≤ 1 then bb else true) && ((if k ≤ 2 then bc else true) && (bt && bk)))))) ∧ W = wr)
  case atStart => exact ⟨0, by omega, by omega, rfl, Lib.hid HO.out, rfl⟩
  case round =>
    obtain ⟨k, hk, hk3, rfl, HE, rfl⟩ := hrel
    obtain ⟨c0, c1, c2, c3, c4⟩ := HB.out.row
    simp only [] at c0 c1 c2 c3 c4
    rcases (show k = 0 ∨ k = 1 ∨ k = 2 ∨ k = 3 by omega) with rfl | rfl | rfl | rfl
    · have HE : Hid (okRow ⟨tb, ky, a, b, c⟩ = (ba && (bb && (bc && (bt && bk))))) := Lib.hid HE.out
      clear HO
      go_wp2_with fail
      with_reducible refine (HA.out _).mono ?_
      rintro e w' ⟨rfl, rfl⟩
      cases ba with
      | false =>
        go_wp2_with fail
        go_ret
        exact ⟨by rw [HE.out]; rfl, HK.out⟩
      | true =>
        go_wp2_with fail
        go_roundg 3
        case rel => exact ⟨1, by omega, by omega, rfl, Lib.hid HE.out, rfl⟩
        case measure => omega
    · have HE : Hid (okRow ⟨tb, ky, a, b, c⟩ = (bb && (bc && (bt && bk)))) := Lib.hid HE.out
      clear HO
      go_wp2_with fail
      with_reducible refine (HBB.out _).mono ?_
      rintro e w' ⟨rfl, rfl⟩
      cases bb with
      | false =>
        go_wp2_with fail
        go_ret
        exact ⟨by rw [HE.out]; rfl, HK.out⟩
      | true =>
        go_wp2_with fail
        go_roundg 2
        case rel => exact ⟨2, by omega, by omega, rfl, Lib.hid HE.out, rfl⟩
        case measure => omega
    · have HE : Hid (okRow ⟨tb, ky, a, b, c⟩ = (bc && (bt && bk))) := Lib.hid HE.out
      clear HO
      go_wp2_with fail
      with_reducible refine (HC.out _).mono ?_
      rintro e w' ⟨rfl, rfl⟩
      cases bc with
      | false =>
        go_wp2_with fail
        go_ret
        exact ⟨by rw [HE.out]; rfl, HK.out⟩
      | true =>
        go_wp2_with fail
        go_roundg 1
        case rel => exact ⟨3, by omega, by omega, rfl, Lib.hid HE.out, rfl⟩
        case measure => omega
    · have HE : Hid (okRow ⟨tb, ky, a, b, c⟩ = (bt && bk)) := Lib.hid HE.out
      clear HO
      go_wp2_with fail
      with_reducible refine (HT.out _).mono ?_
      rintro e w' ⟨rfl, rfl⟩
      cases bt with
      | false =>
        go_wp2_with fail
        go_ret
        exact ⟨by rw [HE.out]; rfl, HK.out⟩
      | true =>
        go_wp2_with fail
        with_reducible refine (HY.out _).mono ?_
        rintro e w' ⟨rfl, rfl⟩
        go_wp2_with fail
        go_ret
        exact ⟨by rw [HE.out]; rfl, HK.out⟩
end Go.Proofs.YtcnpncndecjahaaGreatDoor

/-
  ValidChange of the reference's rows.
-/
namespace Go.Proofs.YtcnpncndecjahaaGreatDoor
open Go.RowKit Go.Shelf

set_option maxRecDepth 100000 in
set_option maxHeartbeats 8000000 in
theorem validCh03_any (c : Chg) (w : World) : Calls Tryz.prog 82 #[chV c] w fun e w' => e = .returned (.bool (okCh c)) ∧ Keep (fun _ => False) w w' := by
  have HK0 := Lib.hid (keep_cells w (chC c).toArray 65)
  have HB0 := Lib.hid (BoxL.new w (chC c) 65)
  have HBE := Lib.hid (halfHad_any c)
  have HAF := Lib.hid (halfHas_any c)
  have HO : Hid (okCh c = ((c.had != c.has || c.had && !(c.o0 == c.n0 && (c.o1 == c.n1 && c.o2 == c.n2))) && ((c.had && okRow (halfR c.old c.had) || !c.had && (c.o0 == 0 && (c.o1 == 0 && c.o2 == 0))) && (c.has && okRow (halfR c.new c.has) || !c.has && (c.n0 == 0 && (c.n1 == 0 && c.n2 == 0)))))) := Lib.hid (by
    unfold okCh soundC halfR
    cases c.had <;> cases c.has <;> rfl)
  have HV1 := Lib.hid (valid03_any (halfR c.old c.had))
  have HV2 := Lib.hid (valid03_any (halfR c.new c.has))
  generalize okRow (halfR c.old c.had) = vo at *
  generalize okRow (halfR c.new c.has) = vn at *
  generalize halfR c.old c.had = r1 at *
  generalize halfR c.new c.has = r2 at *
  obtain ⟨tb, ky, had, o0, o1, o2, has, n0, n1, n2⟩ := c
  simp only [] at *
  obtain ⟨a0, a1, a2, a3, a4⟩ := r1
  obtain ⟨b0, b1, b2, b3, b4⟩ := r2
  have HQ := Lib.hid (fun w => eql_v3 o0 o1 o2 n0 n1 n2 w)
  have HZO := Lib.hid (fun w => eql_v3 o0 o1 o2 0 0 0 w)
  have HZN := Lib.hid (fun w => eql_v3 n0 n1 n2 0 0 0 w)
  generalize (o0 == n0 && (o1 == n1 && o2 == n2)) = q at *
  generalize (o0 == 0 && (o1 == 0 && o2 == 0)) = zo at *
  generalize (n0 == 0 && (n1 == 0 && n2 == 0)) = zn at *
  go_enter Tryz.func82, Tryz.ntmps82
  go_upto_region 1 with (fail)
  have e1 : w.alloc (.cells #[.int .i64 tb, .int .i64 ky, .bool had, .int .i64 o0, .int .i64 o1, .int .i64 o2, .bool has, .int .i64 n0, .int .i64 n1, .int .i64 n2] 65) = w.alloc (.cells (chC ⟨tb, ky, had, o0, o1, o2, has, n0, n1, n2⟩).toArray 65) := rfl
  rw [e1]
  clear e1
  generalize w.alloc (.cells (chC ⟨tb, ky, had, o0, o1, o2, has, n0, n1, n2⟩).toArray 65) = W0 at *
  generalize w.heap.size = zc at *
  obtain ⟨c0, c1, c2, c3, c4, c5, c6, c7, c8, c9⟩ := HB0.out.chg
  simp only [] at c0 c1 c2 c3 c4 c5 c6 c7 c8 c9
  go_wp2_with fail
  clear c0 c1 c2 c3 c4 c5 c6 c7 c8 c9
  with_reducible refine (HBE.out W0).mono ?_
  rintro e W1 ⟨rfl, k⟩
  have kb := keep_cells W1 (rowC ⟨a0, a1, a2, a3, a4⟩).toArray 67
  have HR1 := Lib.hid (BoxL.new W1 (rowC ⟨a0, a1, a2, a3, a4⟩) 67)
  have HB1 := Lib.hid ((HB0.out.kept k).kept kb)
  have HK1 := Lib.hid ((HK0.out.trans k).trans kb)
  clear k kb HB0 HK0
  go_upto_region 2 with (fail)
  have e1 : W1.alloc (.cells #[.int .i64 a0, .int .i64 a1, .int .i64 a2, .int .i64 a3, .int .i64 a4] 67) = W1.alloc (.cells (rowC ⟨a0, a1, a2, a3, a4⟩).toArray 67) := rfl
  rw [e1]
  clear e1
  generalize W1.alloc (.cells (rowC ⟨a0, a1, a2, a3, a4⟩).toArray 67) = W2 at *
  generalize W1.heap.size = z1 at *
  obtain ⟨c0, c1, c2, c3, c4, c5, c6, c7, c8, c9⟩ := HB1.out.chg
  simp only [] at c0 c1 c2 c3 c4 c5 c6 c7 c8 c9
  go_wp2_with fail
  clear c0 c1 c2 c3 c4 c5 c6 c7 c8 c9
  with_reducible refine (HAF.out W2).mono ?_
  rintro e W3 ⟨rfl, k⟩
  have kb := keep_cells W3 (rowC ⟨b0, b1, b2, b3, b4⟩).toArray 67
  have HR2 := Lib.hid (BoxL.new W3 (rowC ⟨b0, b1, b2, b3, b4⟩) 67)
  have HR1 := Lib.hid ((HR1.out.kept k).kept kb)
  have HB2 := Lib.hid ((HB1.out.kept k).kept kb)
  have HK2 := Lib.hid ((HK1.out.trans k).trans kb)
  clear k kb HB1 HK1 HBE HAF
  go_upto_region 3 with (fail)
  have e1 : W3.alloc (.cells #[.int .i64 b0, .int .i64 b1, .int .i64 b2, .int .i64 b3, .int .i64 b4] 67) = W3.alloc (.cells (rowC ⟨b0, b1, b2, b3, b4⟩).toArray 67) := rfl
  rw [e1]
  clear e1
  generalize W3.alloc (.cells (rowC ⟨b0, b1, b2, b3, b4⟩).toArray 67) = W4 at *
  generalize W3.heap.size = z2 at *
  have hm := guardV
  cases had with
  | false =>
    cases has with
    | false =>
      have HX : Hid (okCh _ = false) := Lib.hid (by rw [HO.out]; simp)
      go_wp2_with fail
      go_ret
      exact ⟨by rw [HX.out]; rfl, HK2.out⟩
    | true =>
      obtain ⟨d0, d1, d2, d3, d4⟩ := HR2.out.row
      simp only [] at d0 d1 d2 d3 d4
      go_wp2_with fail
      clear d0 d1 d2 d3 d4
      with_reducible refine (HV2.out W4).mono ?_
      rintro e W5 ⟨rfl, k⟩
      have HK3 := Lib.hid (HK2.out.trans k)
      have HB3 := Lib.hid (HB2.out.kept k)
      clear k
      cases vn with
      | false =>
        have HX : Hid (okCh _ = false) := Lib.hid (by rw [HO.out]; simp)
        go_wp2_with fail
        go_ret
        exact ⟨by rw [HX.out]; rfl, HK3.out⟩
      | true =>
        obtain ⟨c0, c1, c2, c3, c4, c5, c6, c7, c8, c9⟩ := HB3.out.chg
        simp only [] at c0 c1 c2 c3 c4 c5 c6 c7 c8 c9
        have hz := HZO.out
        cases zo with
        | false =>
          have HX : Hid (okCh _ = false) := Lib.hid (by rw [HO.out]; simp)
          go_wp2_with fail
          go_ret
          exact ⟨by rw [HX.out]; rfl, HK3.out⟩
        | true =>
          have HX : Hid (okCh _ = true) := Lib.hid (by rw [HO.out]; simp)
          go_wp2_with fail
          go_ret
          exact ⟨by rw [HX.out]; rfl, HK3.out⟩
  | true =>
    cases has with
    | false =>
      obtain ⟨d0, d1, d2, d3, d4⟩ := HR1.out.row
      simp only [] at d0 d1 d2 d3 d4
      go_wp2_with fail
      clear d0 d1 d2 d3 d4
      with_reducible refine (HV1.out W4).mono ?_
      rintro e W5 ⟨rfl, k⟩
      have HK3 := Lib.hid (HK2.out.trans k)
      have HB3 := Lib.hid (HB2.out.kept k)
      clear k
      cases vo with
      | false =>
        have HX : Hid (okCh _ = false) := Lib.hid (by rw [HO.out]; simp)
        go_wp2_with fail
        go_ret
        exact ⟨by rw [HX.out]; rfl, HK3.out⟩
      | true =>
        obtain ⟨c0, c1, c2, c3, c4, c5, c6, c7, c8, c9⟩ := HB3.out.chg
        simp only [] at c0 c1 c2 c3 c4 c5 c6 c7 c8 c9
        have hz := HZN.out
        cases zn with
        | false =>
          have HX : Hid (okCh _ = false) := Lib.hid (by rw [HO.out]; simp)
          go_wp2_with fail
          go_ret
          exact ⟨by rw [HX.out]; rfl, HK3.out⟩
        | true =>
          have HX : Hid (okCh _ = true) := Lib.hid (by rw [HO.out]; simp)
          go_wp2_with fail
          go_ret
          exact ⟨by rw [HX.out]; rfl, HK3.out⟩
    | true =>
      obtain ⟨c0, c1, c2, c3, c4, c5, c6, c7, c8, c9⟩ := HB2.out.chg
      simp only [] at c0 c1 c2 c3 c4 c5 c6 c7 c8 c9
      obtain ⟨d0, d1, d2, d3, d4⟩ := HR1.out.row
      simp only [] at d0 d1 d2 d3 d4
      have hq := HQ.out
      cases q with
      | true =>
        have HX : Hid (okCh _ = false) := Lib.hid (by rw [HO.out]; simp)
        go_wp2_with fail
        go_ret
        exact ⟨by rw [HX.out]; rfl, HK2.out⟩
      | false =>
        go_wp2_with fail
        clear d0 d1 d2 d3 d4 c0 c1 c2 c3 c4 c5 c6 c7 c8 c9 hq
        with_reducible refine (HV1.out W4).mono ?_
        rintro e W5 ⟨rfl, k⟩
        have HK3 := Lib.hid (HK2.out.trans k)
        have HR3 := Lib.hid (HR2.out.kept k)
        clear k
        cases vo with
        | false =>
          have HX : Hid (okCh _ = false) := Lib.hid (by rw [HO.out]; simp)
          go_wp2_with fail
          go_ret
          exact ⟨by rw [HX.out]; rfl, HK3.out⟩
        | true =>
          obtain ⟨d0, d1, d2, d3, d4⟩ := HR3.out.row
          simp only [] at d0 d1 d2 d3 d4
          go_wp2_with fail
          clear d0 d1 d2 d3 d4
          with_reducible refine (HV2.out W5).mono ?_
          rintro e W6 ⟨rfl, k⟩
          have HK4 := Lib.hid (HK3.out.trans k)
          clear k
          cases vn with
          | false =>
            have HX : Hid (okCh _ = false) := Lib.hid (by rw [HO.out]; simp)
            go_wp2_with fail
            go_ret
            exact ⟨by rw [HX.out]; rfl, HK4.out⟩
          | true =>
            have HX : Hid (okCh _ = true) := Lib.hid (by rw [HO.out]; simp)
            go_wp2_with fail
            go_ret
            exact ⟨by rw [HX.out]; rfl, HK4.out⟩
end Go.Proofs.YtcnpncndecjahaaGreatDoor

/-
  ValidRecord of the reference's rows.
-/
namespace Go.Proofs.YtcnpncndecjahaaGreatDoor
open Go.RowKit Go.Shelf

theorem okCh_tb {c : Chg} (h : okCh c = true) : 0 ≤ c.tb := by
  unfold okCh soundC okRow at h
  have key : ∀ r : R5, r.tb = c.tb → (wiB 0 3 [r.tb] && (wiB 1 1000000 [r.ky] && wiB (-1000000000) 1000000000 [r.a, r.b, r.c])) = true → 0 ≤ c.tb := fun r hr h => by
    have h1 : wiB 0 3 [r.tb] = true := (Bool.and_eq_true_iff.1 h).1
    rw [wiB_wiR] at h1
    unfold wiR at h1
    simp at h1
    omega
  cases h1 : c.had <;> cases h2 : c.has <;> rw [h1, h2] at h
  · simp at h
  · simp only [Bool.and_eq_true] at h
    have := h.2.2
    simp at this
    exact key c.new rfl (by simpa using this)
  · simp only [Bool.and_eq_true] at h
    have := h.2.1
    simp at this
    exact key c.old rfl (by simpa using this)
  · simp only [Bool.and_eq_true] at h
    have := h.2.1
    simp at this
    exact key c.old rfl (by simpa using this)
theorem Chs.at_nth {W : World} {a : Option Addr} {n c : Nat} {l : List Chg} (h : Chs W (.slice a n c) l) {b off : Nat} (hab : a = some ⟨b, off, none⟩) {i : Nat} {ch : Chg} (hi : l[i]? = some ch) :
    ∀ j x, (chC ch)[j]? = some x → W.cell? ⟨b, off + i * 10 + j, none⟩ = some x := by
  obtain ⟨b', off', h1, h2⟩ := h.at_slice hi
  rw [hab] at h1
  cases h1
  exact h2
set_option maxRecDepth 100000 in
set_option maxHeartbeats 8000000 in
theorem validRec03_any (p : Int) (v : Value) (l : List Chg) (w : World) (h : Chs w v l) : Calls Tryz.prog 50 #[recV p v] w fun e w' => e = .returned (.bool (okRec p l)) ∧ Keep (fun _ => False) w w' := by
  have K0 := keep_cells w #[.int .i64 p, v] 73
  have HB0 := Lib.hid (BoxL.new w [.int .i64 p, v] 73)
  have HC0 := Lib.hid (h.kept K0)
  have HK0 := Lib.hid K0
  have HO : Hid (okRec p l = (wiR p 1 10000 && (wiR (l.length : Int) 1 8 && ascC (-1) 0 l))) := Lib.hid (by unfold okRec; rw [wiB_wiR, wiB_wiR])
  obtain ⟨ln, hln⟩ : ∃ n, l.length = n := ⟨_, rfl⟩
  have HLN := Lib.hid hln
  have hn := h.n
  obtain ⟨a, cp, bb, off0, hv, hcp, ha, -⟩ := h.at_
  rw [hln] at HO hv hcp ha hn
  have HA := Lib.hid ha
  subst hv
  have HP := Lib.hid (win03_any p 1 10000)
  have HL := Lib.hid (win03_any (ln : Int) 1 8)
  generalize wiR p 1 10000 = b1 at *
  generalize wiR (ln : Int) 1 8 = b2 at *
  clear h hln ha K0
  go_enter Tryz.func50, Tryz.ntmps50
  go_upto_region 1 with (fail)
  generalize w.alloc (.cells #[.int .i64 p, .slice a ln cp] 73) = W0 at *
  generalize w.heap.size = z at *
  have c0 := HB0.out.cell 0 _ rfl
  have c1 := HB0.out.cell 1 _ rfl
  go_wp2_with fail
  with_reducible refine (HP.out _).mono ?_
  rintro e W1 ⟨rfl, rfl⟩
  cases b1 with
  | false =>
    go_wp2_with fail
    go_ret
    exact ⟨by rw [HO.out]; rfl, HK0.out⟩
  | true =>
    go_wp2_with fail
    with_reducible refine (HL.out _).mono ?_
    rintro e W1 ⟨rfl, rfl⟩
    cases b2 with
    | false =>
      go_wp2_with fail
      go_ret
      exact ⟨by rw [HO.out]; rfl, HK0.out⟩
    | true =>
      have HO : Hid (okRec p l = ascC (-1) 0 l) := Lib.hid HO.out
      clear c0 c1
      go_wp2_with fail
      go_loopg [3] ln (fun gh v wr => ∃ (k : Nat) (lt lk : Int), gh + k = ln ∧ v = .int .i64 k ∧ Keep (fun _ => False) W0 wr ∧ Hid (ascC (-1) 0 l = ascC lt lk (l.drop k)) ∧ Hid ((k = 0 ∧ lt = -1) ∨ ∃ pc, 0 < k ∧ l[k - 1]? = some pc ∧ pc.tb = lt ∧ pc.ky = lk))
      case atStart => exact ⟨0, -1, 0, by omega, rfl, Keep.refl _ _, Lib.hid rfl, Lib.hid (.inl ⟨rfl, rfl⟩)⟩
      case round =>
        obtain ⟨k, lt, lk, hk, rfl, hkw, HE, HPC⟩ := hrel
        have HKW := Lib.hid hkw
        clear hkw
        have c1 := (HB0.out.kept HKW.out).cell 1 _ rfl
        by_cases hlt : k < ln
        · obtain ⟨ch, hch⟩ : ∃ x, l[k]? = some x := ⟨_, List.getElem?_eq_getElem (by have := HLN.out; omega)⟩
          obtain ⟨b, off, hab, hcell⟩ := (HC0.out.kept HKW.out).at_slice hch
          subst hab
          have HV := Lib.hid (validCh03_any ch)
          have HB5 := Lib.hid (BoxL.new wr (chC ch) 65)
          have HK5 := Lib.hid (HKW.out.alloc (.cells (chC ch).toArray 65))
          have HDR : Hid (ascC (-1) 0 l = ascC lt lk (ch :: l.drop (k + 1))) := Lib.hid (by
            rw [HE.out, List.drop_eq_getElem_cons (by have := HLN.out; omega)]
            rw [List.getElem?_eq_getElem (by have := HLN.out; omega)] at hch
            cases hch
            rfl)
          have HCH := Lib.hid hch
          obtain ⟨ok, hok⟩ : ∃ o, okCh ch = o := ⟨_, rfl⟩
          have HOK := Lib.hid hok
          rw [hok] at HV
          clear hok hch
          obtain ⟨tb, ky, had, o0, o1, o2, has, n0, n1, n2⟩ := ch
          have d0 := hcell 0 _ rfl
          have d1 := hcell 1 _ rfl
          have d2 := hcell 2 _ rfl
          have d3 := hcell 3 _ rfl
          have d4 := hcell 4 _ rfl
          have d5 := hcell 5 _ rfl
          have d6 := hcell 6 _ rfl
          have d7 := hcell 7 _ rfl
          have d8 := hcell 8 _ rfl
          have d9 := hcell 9 _ rfl
          rw [Nat.add_zero] at d0
          simp only [] at d0 d1 d2 d3 d4 d5 d6 d7 d8 d9
          clear hcell
          have hkz : (k : Int) < (ln : Int) := by omega
          have hk0 : (0 : Int) ≤ (k : Int) := by omega
          go_upto_region 7 with (fail)
          clear d0 d1 d2 d3 d4 d5 d6 d7 d8 d9 c1
          have e1 : wr.alloc (.cells #[.int .i64 tb, .int .i64 ky, .bool had, .int .i64 o0, .int .i64 o1, .int .i64 o2, .bool has, .int .i64 n0, .int .i64 n1, .int .i64 n2] 65) = wr.alloc (.cells (chC ⟨tb, ky, had, o0, o1, o2, has, n0, n1, n2⟩).toArray 65) := rfl
          rw [e1]
          clear e1
          generalize wr.alloc (.cells (chC ⟨tb, ky, had, o0, o1, o2, has, n0, n1, n2⟩).toArray 65) = W5 at *
          generalize wr.heap.size = zc at *
          obtain ⟨c0, c1, c2, c3, c4, c5, c6, c7, c8, c9⟩ := HB5.out.chg
          simp only [] at c0 c1 c2 c3 c4 c5 c6 c7 c8 c9
          go_wp2_with fail
          clear c0 c1 c2 c3 c4 c5 c6 c7 c8 c9
          with_reducible refine (HV.out W5).mono ?_
          rintro e W6 ⟨rfl, k6⟩
          have HB6 := Lib.hid (HB5.out.kept k6)
          have HK6 := Lib.hid (HK5.out.trans k6)
          clear k6 HV HB5 HK5
          cases ok with
          | false =>
            have HF : Hid (okRec p l = false) := Lib.hid (by rw [HO.out, HDR.out, ascC_false (.inl HOK.out)])
            go_wp2_with fail
            go_ret
            exact ⟨by rw [HF.out]; rfl, HK0.out.trans HK6.out⟩
          | true =>
            have HTB := Lib.hid (okCh_tb HOK.out)
            by_cases hk1 : k = 0
            · have HF : Hid (ascC (-1) 0 l = ascC tb ky (l.drop (k + 1))) := Lib.hid (by
                have h1 : lt = -1 := by
                  rcases HPC.out with h | ⟨pc, h, -⟩
                  · exact h.2
                  · omega
                have h2 : 0 ≤ tb := HTB.out
                rw [HDR.out, ascC_true HOK.out (by show ¬ tb < lt; omega) (by show ¬ (tb = lt ∧ _); omega)])
              subst hk1
              go_wp2_with fail
              go_roundg (gk - 1)
              case rel => exact ⟨1, tb, ky, by omega, rfl, HK6.out, HF, Lib.hid (.inr ⟨_, by omega, HCH.out, rfl, rfl⟩)⟩
              case measure => omega
            · obtain ⟨pc, hpk, hpc, hpt, hpy⟩ : ∃ pc, 0 < k ∧ l[k - 1]? = some pc ∧ pc.tb = lt ∧ pc.ky = lk := by
                rcases HPC.out with h | h
                · exact absurd h.1 hk1
                · exact h
              have hcell := (HC0.out.kept HK6.out).at_nth rfl hpc
              obtain ⟨m, rfl⟩ : ∃ m, k = m + 1 := ⟨k - 1, by omega⟩
              rw [Nat.add_sub_cancel] at hcell
              have HB7 := Lib.hid (BoxL.new W6 (chC pc) 65)
              have HB6' := Lib.hid (HB6.out.kept (keep_cells W6 (chC pc).toArray 65))
              have HK7 := Lib.hid (HK6.out.alloc (.cells (chC pc).toArray 65))
              obtain ⟨ptb, pky, pd, p0, p1, p2, ps, q0, q1, q2⟩ := pc
              simp only [] at hpt hpy
              subst hpt hpy
              have d0 := hcell 0 _ rfl
              have d1 := hcell 1 _ rfl
              have d2 := hcell 2 _ rfl
              have d3 := hcell 3 _ rfl
              have d4 := hcell 4 _ rfl
              have d5 := hcell 5 _ rfl
              have d6 := hcell 6 _ rfl
              have d7 := hcell 7 _ rfl
              have d8 := hcell 8 _ rfl
              have d9 := hcell 9 _ rfl
              rw [Nat.add_zero] at d0
              simp only [] at d0 d1 d2 d3 d4 d5 d6 d7 d8 d9
              clear hcell hpc hk1 hpk
              have x1 := (HB0.out.kept HK6.out).cell 1 _ rfl
              have hmi : (((m + 1 : Nat) : Int)) = (m : Int) + 1 := by omega
              rw [hmi] at hkz hk0 ⊢
              clear hmi
              go_upto_region 11 with (fail)
              clear d0 d1 d2 d3 d4 d5 d6 d7 d8 d9 x1
              have e1 : W6.alloc (.cells #[.int .i64 ptb, .int .i64 pky, .bool pd, .int .i64 p0, .int .i64 p1, .int .i64 p2, .bool ps, .int .i64 q0, .int .i64 q1, .int .i64 q2] 65) = W6.alloc (.cells (chC ⟨ptb, pky, pd, p0, p1, p2, ps, q0, q1, q2⟩).toArray 65) := rfl
              rw [e1]
              clear e1
              generalize W6.alloc (.cells (chC ⟨ptb, pky, pd, p0, p1, p2, ps, q0, q1, q2⟩).toArray 65) = W7 at *
              generalize W6.heap.size = zp at *
              obtain ⟨c0, c1, -, -, -, -, -, -, -, -⟩ := HB6'.out.chg
              obtain ⟨g0, g1, -, -, -, -, -, -, -, -⟩ := HB7.out.chg
              simp only [] at c0 c1 g0 g1
              by_cases h1 : tb < ptb
              · have HF : Hid (okRec p l = false) := Lib.hid (by rw [HO.out, HDR.out, ascC_false (.inr (.inl h1))])
                go_wp2_with fail
                go_ret
                exact ⟨by rw [HF.out]; rfl, HK0.out.trans HK7.out⟩
              · by_cases h2 : tb = ptb
                · subst h2
                  by_cases h3 : ky ≤ pky
                  · have HF : Hid (okRec p l = false) := Lib.hid (by rw [HO.out, HDR.out, ascC_false (t := tb) (.inr (.inr ⟨(rfl : tb = tb), h3⟩))])
                    go_wp2_with fail
                    go_ret
                    exact ⟨by rw [HF.out]; rfl, HK0.out.trans HK7.out⟩
                  · have HF : Hid (ascC (-1) 0 l = ascC tb ky (l.drop (m + 1 + 1))) := Lib.hid (by rw [HDR.out, ascC_true HOK.out h1 (fun h => h3 h.2)])
                    go_wp2_with fail
                    go_roundg (gk - 1)
                    case rel => exact ⟨m + 1 + 1, tb, ky, by omega, by go_num, HK7.out, HF, Lib.hid (.inr ⟨_, by omega, HCH.out, rfl, rfl⟩)⟩
                    case measure => omega
                · have hb2 : (ptb == tb) = false := by simp; omega
                  have HF : Hid (ascC (-1) 0 l = ascC tb ky (l.drop (m + 1 + 1))) := Lib.hid (by rw [HDR.out, ascC_true HOK.out h1 (fun h => h2 h.1)])
                  clear h2
                  go_wp2_with fail
                  go_roundg (gk - 1)
                  case rel => exact ⟨m + 1 + 1, tb, ky, by omega, by go_num, HK7.out, HF, Lib.hid (.inr ⟨_, by omega, HCH.out, rfl, rfl⟩)⟩
                  case measure => omega
        · have HF : Hid (okRec p l = true) := Lib.hid (by
            rw [HO.out, HE.out, List.drop_eq_nil_of_le (by have := HLN.out; omega)]; rfl)
          have hkz : ¬ (k : Int) < (ln : Int) := by omega
          go_wp2_with fail
          go_ret
          exact ⟨by rw [HF.out]; rfl, HK0.out.trans HKW.out⟩
end Go.Proofs.YtcnpncndecjahaaGreatDoor

/-
  DERIVED: THE SHELF's CONTRACTS AT THIS DUMP, IN PLAIN WORDS (tools/lay-plain.mjs out of 'YtcnpncndecjahaaGreatDoorS0.lean', which tools/lay-shelf.mjs wrote): THE SAME DECLARATIONS UNDER THE SAME NAMES: 'import', 'namespace', 'open', 'def', 'theorem' AND NOTHING ELSE: no command of the shelf's: FOR A HAND-IN. Each laying: the table of numbers ('.._ren') and one theorem, a field a fact of the dump's own or the kernel's comparison; each contract: ONE APPLICATION.
-/
namespace Go.Proofs
open Go.Shelf
def Tryz.pdqRow_ren : Go.Shelf.Ren := ⟨fun | 14 => 96 | 20 => 106 | 21 => 107 | 22 => 108 | 23 => 109 | 24 => 110 | 25 => 111 | 26 => 112 | 27 => 113 | 46 => 122 | 47 => 123 | 48 => 124 | 49 => 125 | 50 => 126 | 15 => 97 | 57 => 129 | 28 => 114 | 29 => 115 | n => n, fun | 24 => 67 | 22 => 40 | 3 => 3 | 25 => 154 | 4 => 4 | 0 => 0 | 46 => 173 | 45 => 172 | 50 => 177 | 66 => 185 | 39 => 161 | 55 => 164 | 70 => 107 | 76 => 190 | 77 => 191 | 53 => 180 | 5 => 5 | 9 => 9 | n => n, fun | n => n⟩
theorem Tryz.pdqRow : Go.Proofs.SlLaysF0.n14 Tryz.prog Tryz.pdqRow_ren := {
  mixed := by kernel_rfl
  f14 := ⟨Tryz.f96.name, by decide, Tryz.func96.trans (congrArg some (by kernel_rfl))⟩
  f15 := Tryz.func97.trans (congrArg some (by kernel_rfl))
  f20 := ⟨Tryz.f106.name, by decide, Tryz.func106.trans (congrArg some (by kernel_rfl))⟩
  f21 := ⟨Tryz.f107.name, by decide, Tryz.func107.trans (congrArg some (by kernel_rfl))⟩
  f22 := ⟨Tryz.f108.name, by decide, Tryz.func108.trans (congrArg some (by kernel_rfl))⟩
  f23 := ⟨Tryz.f109.name, by decide, Tryz.func109.trans (congrArg some (by kernel_rfl))⟩
  f24 := ⟨Tryz.f110.name, by decide, Tryz.func110.trans (congrArg some (by kernel_rfl))⟩
  f25 := ⟨Tryz.f111.name, by decide, Tryz.func111.trans (congrArg some (by kernel_rfl))⟩
  f26 := ⟨Tryz.f112.name, by decide, Tryz.func112.trans (congrArg some (by kernel_rfl))⟩
  f27 := ⟨Tryz.f113.name, by decide, Tryz.func113.trans (congrArg some (by kernel_rfl))⟩
  f28 := Tryz.func114.trans (congrArg some (by kernel_rfl))
  f29 := Tryz.func115.trans (congrArg some (by kernel_rfl))
  f46 := ⟨Tryz.f122.name, by decide, Tryz.func122.trans (congrArg some (by kernel_rfl))⟩
  f47 := Tryz.func123.trans (congrArg some (by kernel_rfl))
  f48 := Tryz.func124.trans (congrArg some (by kernel_rfl))
  f49 := ⟨Tryz.f125.name, by decide, Tryz.func125.trans (congrArg some (by kernel_rfl))⟩
  f50 := ⟨Tryz.f126.name, by decide, Tryz.func126.trans (congrArg some (by kernel_rfl))⟩
  f57 := ⟨Tryz.f129.name, by decide, Tryz.func129.trans (congrArg some (by kernel_rfl))⟩
  t0 := Tryz.underlying0
  a0 := Tryz.isAgg0
  z0 := Tryz.sizeOf0
  v0 := Tryz.zeroValue0
  t3 := Tryz.underlying3
  a3 := Tryz.isAgg3
  z3 := Tryz.sizeOf3
  v3 := Tryz.zeroValue3
  t4 := Tryz.underlying4
  a4 := Tryz.isAgg4
  z4 := Tryz.sizeOf4
  v4 := Tryz.zeroValue4
  t5 := Tryz.underlying5
  a5 := Tryz.isAgg5
  z5 := Tryz.sizeOf5
  v5 := Tryz.zeroValue5
  t9 := Tryz.underlying9
  a9 := Tryz.isAgg9
  z9 := Tryz.sizeOf9
  v9 := Tryz.zeroValue9
  t22 := Tryz.underlying40
  a22 := Tryz.isAgg40
  z22 := Tryz.sizeOf40
  v22 := Tryz.zeroValue40
  t25 := Tryz.underlying154
  a25 := Tryz.isAgg154
  z25 := Tryz.sizeOf154
  v25 := Tryz.zeroValue154
  t39 := Tryz.underlying161
  a39 := Tryz.isAgg161
  z39 := Tryz.sizeOf161
  v39 := Tryz.zeroValue161
  t45 := Tryz.underlying172
  a45 := Tryz.isAgg172
  z45 := Tryz.sizeOf172
  v45 := Tryz.zeroValue172
  t46 := Tryz.underlying173
  a46 := Tryz.isAgg173
  z46 := Tryz.sizeOf173
  v46 := Tryz.zeroValue173
  t50 := Tryz.underlying177
  a50 := Tryz.isAgg177
  z50 := Tryz.sizeOf177
  v50 := Tryz.zeroValue177
  t53 := Tryz.underlying180
  a53 := Tryz.isAgg180
  z53 := Tryz.sizeOf180
  v53 := Tryz.zeroValue180
  t55 := Tryz.underlying164
  a55 := Tryz.isAgg164
  z55 := Tryz.sizeOf164
  v55 := Tryz.zeroValue164
  t66 := Tryz.underlying185
  a66 := Tryz.isAgg185
  z66 := Tryz.sizeOf185
  v66 := Tryz.zeroValue185
  t70 := Tryz.underlying107
  a70 := Tryz.isAgg107
  z70 := Tryz.sizeOf107
  v70 := Tryz.zeroValue107
  t76 := Tryz.underlying190
  a76 := Tryz.isAgg190
  z76 := Tryz.sizeOf190
  v76 := Tryz.zeroValue190
  t77 := Tryz.underlying191
  a77 := Tryz.isAgg191
  z77 := Tryz.sizeOf191
  v77 := Tryz.zeroValue191 }
def Tryz.bitsLen_ren : Go.Shelf.Ren := ⟨fun | 15 => 97 | 28 => 114 | 29 => 115 | n => n, fun | 39 => 161 | 3 => 3 | 53 => 180 | 55 => 164 | 4 => 4 | 5 => 5 | 9 => 9 | n => n, fun | n => n⟩
theorem Tryz.bitsLen : Go.Proofs.SlLaysF0.n15 Tryz.prog Tryz.bitsLen_ren := {
  mixed := by kernel_rfl
  f15 := Tryz.func97.trans (congrArg some (by kernel_rfl))
  f28 := Tryz.func114.trans (congrArg some (by kernel_rfl))
  f29 := Tryz.func115.trans (congrArg some (by kernel_rfl))
  t3 := Tryz.underlying3
  a3 := Tryz.isAgg3
  z3 := Tryz.sizeOf3
  v3 := Tryz.zeroValue3
  t4 := Tryz.underlying4
  a4 := Tryz.isAgg4
  z4 := Tryz.sizeOf4
  v4 := Tryz.zeroValue4
  t5 := Tryz.underlying5
  a5 := Tryz.isAgg5
  z5 := Tryz.sizeOf5
  v5 := Tryz.zeroValue5
  t9 := Tryz.underlying9
  a9 := Tryz.isAgg9
  z9 := Tryz.sizeOf9
  v9 := Tryz.zeroValue9
  t39 := Tryz.underlying161
  a39 := Tryz.isAgg161
  z39 := Tryz.sizeOf161
  v39 := Tryz.zeroValue161
  t53 := Tryz.underlying180
  a53 := Tryz.isAgg180
  z53 := Tryz.sizeOf180
  v53 := Tryz.zeroValue180
  t55 := Tryz.underlying164
  a55 := Tryz.isAgg164
  z55 := Tryz.sizeOf164
  v55 := Tryz.zeroValue164 }
end Go.Proofs

/-
  The order of rows; the sort of rows.
-/
namespace Go.Proofs.YtcnpncndecjahaaGreatDoor
open Go.RowKit Go.Shelf
open Go.Sort (grow)

theorem grow_of_keep {W w' : World} (k : Keep (fun _ => False) W w') (hd : W.drawn ≤ w'.drawn) : ∃ q os', w' = grow (W.drewN q) os' := by
  refine ⟨w'.drawn - W.drawn, w'.heap.extract W.heap.size w'.heap.size, ?_⟩
  have hh : w'.heap = W.heap ++ w'.heap.extract W.heap.size w'.heap.size := by
    apply Array.ext_getElem?
    intro i
    by_cases hi : i < W.heap.size
    · rw [k.block i hi (fun h => h), Array.getElem?_append_left hi]
    · rw [Array.getElem?_append_right (by omega), Array.getElem?_extract]
      by_cases h2 : i < w'.heap.size
      · rw [if_pos (by omega)]
        congr 1
        omega
      · rw [if_neg (by omega), Array.getElem?_eq_none (by omega)]
  have h1 := k.os
  have h2 := k.tape
  have h3 := k.output
  unfold grow World.drewN
  cases w'
  cases W
  simp only at *
  subst h1 h2 h3
  congr 1
  omega
theorem cmpI_bd (a b : Int) : I64 (cmpI a b) := by unfold cmpI I64; split <;> (try split) <;> omega
theorem value_kept (r : R5) (c : Int) (w : World) : Calls Tryz.prog 67 #[rowV r, .int .i64 c] w fun e w' => e = .returned (.int .i64 (r.val c)) ∧ Keep (fun _ => False) w w' ∧ w.drawn ≤ w'.drawn :=
  (value_any r c w).mono fun e w' ⟨he, hw⟩ => ⟨he, by rw [hw]; exact keep_cells _ _ _, by rw [hw]; exact Nat.le_refl _⟩
def cmpRow (c : Int) (x y : R5) : Int := orL [cmpI (x.val c) (y.val c), cmpI x.ky y.ky]
theorem its_two (W : World) (x y : Int) (t : TypeId) (hx : I64 x) (hy : I64 y) : Its (W.alloc (.cells #[.int .i64 x, .int .i64 y] t)) (.slice (some ⟨W.heap.size, 0, none⟩) 2 2) [x, y] := by
  have hb := BoxL.new W [.int .i64 x, .int .i64 y] t
  refine ⟨by simp, ?_, some ⟨W.heap.size, 0, none⟩, 2, W.heap.size, 0, rfl, by simp, fun _ => rfl, fun j u hj => ?_⟩
  · intro u hu
    simp only [List.mem_cons, List.not_mem_nil, or_false] at hu
    rcases hu with rfl | rfl <;> assumption
  · rcases j with _ | _ | j
    · simp at hj; subst hj; exact hb.cell 0 _ rfl
    · simp at hj; subst hj; exact hb.cell 1 _ rfl
    · simp at hj
set_option maxRecDepth 100000 in
set_option maxHeartbeats 4000000 in
theorem cmpRow_any (c : Int) (zb : Nat) (x y : R5) (W : World) (hc : W.cell? ⟨zb, 0, none⟩ = some (.int .i64 c)) : Calls Tryz.prog 87 #[rowV x, rowV y, ptr zb] W fun e w' => e = .returned (.int .i64 (cmpRow c x y)) ∧ ∃ q os', w' = grow (W.drewN q) os' := by
  have k1 := keep_cells W (rowC x).toArray 67
  have k2 := keep_cells (W.alloc (.cells (rowC x).toArray 67)) (rowC y).toArray 67
  have b1 := (BoxL.new W (rowC x) 67).kept k2
  have b2 := BoxL.new (W.alloc (.cells (rowC x).toArray 67)) (rowC y) 67
  have h3 := (k1.trans k2).cell hc (fun h => h)
  rw [World.size_alloc] at b2
  have HX := Lib.hid b1
  have HY := Lib.hid b2
  have H3 := Lib.hid h3
  have HK := Lib.hid (k1.trans k2)
  have HD : Hid (W.drawn ≤ ((W.alloc (.cells (rowC x).toArray 67)).alloc (.cells (rowC y).toArray 67)).drawn) := Lib.hid (Nat.le_refl _)
  have HC : Hid (cmpRow c x y = orL [cmpI (x.val c) (y.val c), cmpI x.ky y.ky]) := Lib.hid rfl
  have HV1 := Lib.hid (value_kept x c)
  have HV2 := Lib.hid (value_kept y c)
  generalize x.val c = vx at *
  generalize y.val c = vy at *
  obtain ⟨x0, x1, x2, x3, x4⟩ := x
  obtain ⟨y0, y1, y2, y3, y4⟩ := y
  clear k1 k2 b1 b2 h3 hc
  go_enter Tryz.func87, Tryz.ntmps87
  go_wp2_with fail
  have e1 : (W.alloc (.cells #[.int .i64 x0, .int .i64 x1, .int .i64 x2, .int .i64 x3, .int .i64 x4] 67)).alloc (.cells #[.int .i64 y0, .int .i64 y1, .int .i64 y2, .int .i64 y3, .int .i64 y4] 67) = (W.alloc (.cells (rowC ⟨x0, x1, x2, x3, x4⟩).toArray 67)).alloc (.cells (rowC ⟨y0, y1, y2, y3, y4⟩).toArray 67) := rfl
  rw [e1]
  clear e1
  generalize (W.alloc (.cells (rowC ⟨x0, x1, x2, x3, x4⟩).toArray 67)).alloc (.cells (rowC ⟨y0, y1, y2, y3, y4⟩).toArray 67) = W1 at *
  generalize W.heap.size = z at *
  have a0 : ∀ p : KA (fun _ => False) W1, p.val.cell? ⟨z, 0, none⟩ = some (.int .i64 x0) := fun p => (HX.out.kept p.k).row.1
  have a1 : ∀ p : KA (fun _ => False) W1, p.val.cell? ⟨z, 1, none⟩ = some (.int .i64 x1) := fun p => (HX.out.kept p.k).row.2.1
  have a2 : ∀ p : KA (fun _ => False) W1, p.val.cell? ⟨z, 2, none⟩ = some (.int .i64 x2) := fun p => (HX.out.kept p.k).row.2.2.1
  have a3 : ∀ p : KA (fun _ => False) W1, p.val.cell? ⟨z, 3, none⟩ = some (.int .i64 x3) := fun p => (HX.out.kept p.k).row.2.2.2.1
  have a4 : ∀ p : KA (fun _ => False) W1, p.val.cell? ⟨z, 4, none⟩ = some (.int .i64 x4) := fun p => (HX.out.kept p.k).row.2.2.2.2
  have b0 : ∀ p : KA (fun _ => False) W1, p.val.cell? ⟨z + 1, 0, none⟩ = some (.int .i64 y0) := fun p => (HY.out.kept p.k).row.1
  have b1 : ∀ p : KA (fun _ => False) W1, p.val.cell? ⟨z + 1, 1, none⟩ = some (.int .i64 y1) := fun p => (HY.out.kept p.k).row.2.1
  have b2 : ∀ p : KA (fun _ => False) W1, p.val.cell? ⟨z + 1, 2, none⟩ = some (.int .i64 y2) := fun p => (HY.out.kept p.k).row.2.2.1
  have b3 : ∀ p : KA (fun _ => False) W1, p.val.cell? ⟨z + 1, 3, none⟩ = some (.int .i64 y3) := fun p => (HY.out.kept p.k).row.2.2.2.1
  have b4 : ∀ p : KA (fun _ => False) W1, p.val.cell? ⟨z + 1, 4, none⟩ = some (.int .i64 y4) := fun p => (HY.out.kept p.k).row.2.2.2.2
  have c0 : ∀ p : KA (fun _ => False) W1, p.val.cell? ⟨zb, 0, none⟩ = some (.int .i64 c) := fun p => p.k.cell H3.out (fun h => h)
  refine wp_region_walk [(true, 0), (true, 1), (true, 3), (true, 4), (true, 7), (true, 8), (true, 9), (true, 10), (false, 2), (false, 5), (false, 6), (false, 11), (false, 12), (false, 13), (false, 14)] (inKA (fun _ => False) W1) (by kernel_rfl) (by kernel_rfl) ?_
  iterate 8 (refine walkW_read rfl (fun K hK => ?_); go_simp; refine hK _ ?_; clear hK K)
  clear a0 a1 a2 a3 a4 b0 b1 b2 b3 b4 c0
  have HK1 : Hid (Keep (fun _ => False) W1 W1.drew) := Lib.hid (Keep.refl _ W1).drew
  refine walkW_do rfl (inKA.of HK1.out) (fun K hK => ?_)
  go_simp
  refine (HV1.out _).mono ?_
  rintro e W2 ⟨rfl, k, kd⟩
  have HK2 := Lib.hid (HK1.out.trans k)
  have HD2 : Hid (W.drawn ≤ W2.drawn) := Lib.hid (Nat.le_trans (Nat.le_succ_of_le HD.out) kd)
  clear k kd
  refine hK _ _ ?_; clear hK K
  refine walkW_do rfl (inKA.of HK2.out) (fun K hK => ?_)
  go_simp
  refine (HV2.out _).mono ?_
  rintro e W2' ⟨rfl, k, kd⟩
  have HK3 := Lib.hid (HK2.out.trans k)
  have HD3 : Hid (W.drawn ≤ W2'.drawn) := Lib.hid (Nat.le_trans HD2.out kd)
  clear k kd
  refine hK _ _ ?_; clear hK K
  refine walkW_do rfl (inKA.of HK3.out) (fun K hK => ?_)
  go_simp
  refine (cmp_int vx vy _).mono ?_
  rintro e w' ⟨rfl, rfl⟩
  refine hK _ _ ?_; clear hK K
  refine walkW_do rfl (inKA.of HK3.out) (fun K hK => ?_)
  go_simp
  refine (cmp_int x1 y1 _).mono ?_
  rintro e w' ⟨rfl, rfl⟩
  refine hK _ _ ?_; clear hK K
  have q0 := cmpI_bd vx vy
  have q1 := cmpI_bd x1 y1
  generalize cmpI vx vy = m0 at *
  generalize cmpI x1 y1 = m1 at *
  have HI := Lib.hid (its_two W2' m0 m1 3 q0 q1)
  have HK4 := Lib.hid (HK3.out.alloc (.cells #[.int .i64 m0, .int .i64 m1] 3))
  have HD4 : Hid (W.drawn ≤ (W2'.alloc (.cells #[.int .i64 m0, .int .i64 m1] 3)).drawn) := Lib.hid HD3.out
  clear q0 q1
  refine walkW_do rfl (inKA.of HK3.out) (fun K hK => ?_)
  go_simp
  refine hK _ _ ?_; clear hK K
  generalize W2'.alloc (.cells #[.int .i64 m0, .int .i64 m1] 3) = W3 at *
  refine walkW_do rfl (inKA.of HK4.out) (fun K hK => ?_)
  go_simp
  refine (cmp_or _ [m0, m1] _ HI.out).mono ?_
  rintro e w' ⟨rfl, rfl⟩
  refine hK _ _ ?_; clear hK K
  refine walkW_do rfl (inKA.of HK4.out) (fun K hK => ?_)
  go_simp
  refine hK _ _ ?_; clear hK K
  refine ⟨inKA.of HK4.out, ?_⟩
  go_wp2_with fail
  go_ret
  exact ⟨by rw [HC.out]; rfl, grow_of_keep (HK.out.trans HK4.out) HD4.out⟩
theorem cmpRow_neg (c : Int) (x y : R5) : cmpRow c x y < 0 ↔ x.val c < y.val c ∨ (x.val c = y.val c ∧ x.ky < y.ky) := by
  unfold cmpRow
  have h : ∀ a b : Int, (a < b ∧ cmpI a b = -1) ∨ (a = b ∧ cmpI a b = 0) ∨ (b < a ∧ cmpI a b = 1) := fun a b => by
    unfold cmpI
    rcases Int.lt_trichotomy a b with h | h | h
    · exact .inl ⟨h, by rw [if_pos h]⟩
    · exact .inr (.inl ⟨h, by rw [if_neg (by omega), if_neg (by omega)]⟩)
    · exact .inr (.inr ⟨h, by rw [if_neg (by omega), if_pos h]⟩)
  simp only [orL]
  rcases h (x.val c) (y.val c) with ⟨h1, e1⟩ | ⟨h1, e1⟩ | ⟨h1, e1⟩
  · rw [e1, if_neg (by omega)]; omega
  · rw [e1, if_pos rfl]
    rcases h x.ky y.ky with ⟨h2, e2⟩ | ⟨h2, e2⟩ | ⟨h2, e2⟩
    · rw [e2, if_neg (by omega)]; omega
    · rw [e2, if_pos rfl]; omega
    · rw [e2, if_neg (by omega)]; omega
  · rw [e1, if_neg (by omega)]; omega
theorem cmpRow_lt (c : Int) (x y : R5) : Go.Proofs.ltOf (cmpRow c) x y = decide (x.val c < y.val c ∨ (x.val c = y.val c ∧ x.ky < y.ky)) := by
  unfold Go.Proofs.ltOf
  exact decide_eq_decide.2 (cmpRow_neg c x y)
theorem swoR (c : Int) : Go.Sort.SWO (Go.Proofs.ltOf (cmpRow c)) where
  irrefl x := by rw [cmpRow_lt]; exact decide_eq_false (by omega)
  trans x y z h1 h2 := by rw [cmpRow_lt, decide_eq_true_eq] at *; omega
  ntrans x y z h1 h2 := by rw [cmpRow_lt, decide_eq_false_iff_not] at *; omega
instance : Inhabited R5 := ⟨⟨0, 0, 0, 0, 0⟩⟩
theorem keep_sortR (w : World) (blk off m : Nat) (d : Array R5) (os : Array Obj) : Keep (fun j => j = blk) w (Go.Proofs.sortWorldK rowC 5 w blk off m d os) := by
  unfold Go.Proofs.sortWorldK
  refine ⟨rfl, rfl, rfl, ?_, fun k hk hn => ?_⟩
  · rw [Go.Sort.size_grow, Go.Sort.size_putRowK]
    exact Nat.le_add_right _ _
  · unfold grow
    show ((Go.Sort.putRowK rowC 5 (Go.Sort.ahead w m) blk off d).heap ++ os)[k]? = _
    rw [Array.getElem?_append_left (by rw [Go.Sort.size_putRowK]; exact hk)]
    unfold Go.Sort.putRowK Go.Sort.putRow Go.Sort.mapBlock
    show ((Go.Sort.ahead w m).heap.modify blk _)[k]? = _
    rw [Array.getElem?_modify, if_neg (fun e => hn e.symm)]
    rfl
theorem cmpLaysR (c : Int) (zb : Nat) (blk off size : Nat) (w : World) (hc : w.cell? ⟨zb, 0, none⟩ = some (.int .i64 c)) (hne : zb ≠ blk) : Go.Proofs.CmpLays Tryz.prog 87 #[ptr zb] rowC 5 (cmpRow c) blk off size w :=
  fun m os dk _ x y => cmpRow_any c zb x y _ ((keep_sortR w blk off m dk os).cell hc hne)
open Go.Sort in
set_option maxRecDepth 100000 in
set_option maxHeartbeats 2000000 in
theorem sortRows (c : Int) (zb blk off cap : Nat) (d : Array R5) (w : World) (hc : w.cell? ⟨zb, 0, none⟩ = some (.int .i64 c)) (hne : zb ≠ blk) (hH : Go.Sort.HoldsK rowC 5 w blk off d) (hblk : blk < w.heap.size) (hsz : d.size < 1000000) :
    Calls Tryz.prog 86 #[.slice (some ⟨blk, off, none⟩) d.size cap, .func (.func 87) #[] #[ptr zb]] w fun e w' =>
      e = .returned (.tuple #[]) ∧ ∃ d' n os, PermIn 0 d.size d d' ∧ SortedIn (Go.Proofs.ltOf (cmpRow c)) 0 d.size d' ∧ w' = Go.Proofs.sortWorldK rowC 5 w blk off n d' os := by
  have eg : ∀ args w, (callFunc 87 args).run Tryz.prog w = .ok (.enter 87 args) w := enters_of Tryz.func87 (by kernel_rfl) rfl
  have hlim : Lib.bitLen d.size < 4611686018427387904 := Nat.lt_of_le_of_lt (Lib.bitLen_le d.size 62 (by omega) (by omega)) (by omega)
  have hp := Go.Proofs.AnyQ.pdqsortCmpFunc_all (P := Tryz.prog) Tryz.pdqRow 5 Tryz.isAgg67 Tryz.sizeOf67 rowC (cmpRow c) 87 #[ptr zb] (swoR c) blk off cap d w eg (cmpLaysR c zb blk off d.size w hc hne) ⟨fun _ => rfl, fun x v hv => by simp at hv; rcases hv with rfl | rfl | rfl | rfl | rfl <;> rfl, hH, hblk⟩ (d.size + 1) 0 d.size (Lib.bitLen d.size) d w (by omega) rfl (Go.Proofs.SWK.start hH) (Nat.zero_le _) (Nat.le_refl _) (by omega) hlim (Or.inl rfl)
  have hl : Calls Tryz.prog 97 #[.int .u64 (d.size : Int)] w fun e w' => e = .returned (.int .i64 (Lib.bitLen d.size : Nat)) ∧ w' = w := by
    have h := Go.Proofs.Any.bits_Len (Go.Proofs.SlLaysF0.n15.bits Tryz.bitsLen) (d.size : Int) w (by omega) (by omega)
    rwa [Int.toNat_natCast] at h
  change Calls Tryz.prog 96 _ _ _ at hp
  have hsorts := Go.Sort.pdq_sorts (Go.Proofs.ltOf (cmpRow c)) (swoR c) d 0 d.size (Lib.bitLen d.size) true true (Nat.zero_le _) (Nat.le_refl _) (Or.inl rfl)
  generalize Go.Sort.pdq (Go.Proofs.ltOf (cmpRow c)) d 0 d.size (Lib.bitLen d.size) true true = r at *
  generalize Lib.bitLen d.size = bl at *
  obtain ⟨n, hn⟩ : ∃ n, d.size = n := ⟨_, rfl⟩
  rw [hn] at hp hl hsorts hsz ⊢
  rw [show ((0 : Nat) : Int) = 0 from rfl] at hp
  have wr : IntKind.u64.wrap (n : Int) = n := by simp [IntKind.wrap, IntKind.bits, IntKind.signed]; omega
  have HP := Lib.hid hp
  have HL := Lib.hid hl
  have HS := Lib.hid hsorts
  clear hp hl hsorts hH eg hn hc
  go_enter Tryz.func86, Tryz.ntmps86
  go_wp2_with fail
  with_reducible refine HL.out.mono ?_
  rintro e w' ⟨rfl, rfl⟩
  go_wp2_with fail
  with_reducible refine HP.out.mono ?_
  rintro e w' ⟨rfl, m, os, rfl⟩
  go_wp2_with fail
  go_end0
  exact ⟨rfl, r, m, os, HS.out.1, HS.out.2, rfl⟩
end Go.Proofs.YtcnpncndecjahaaGreatDoor
