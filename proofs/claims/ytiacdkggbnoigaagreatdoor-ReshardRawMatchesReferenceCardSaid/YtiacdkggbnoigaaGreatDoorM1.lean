/-
  Several texts in one, each under its own heading below (merged by a program of ours): the contracts of the functions that the law reaches, part 1 of 5.
-/
import Derived.WalkKit
import Derived.RangeFuncRecord
import Derived.RangeFuncOwn
import Derived.Maps.Keyed
import Derived.Maps.Range
import Derived.Deep.QuietTactic
import Derived.StillTail
import Derived.Test.YtiacdkggbnoigaaGreatDoorProg
import Derived.WalkMore
import Derived.WalkSpells
import Derived.WalkLawsBesides
import Derived.LoopTactic
import Derived.StillTailTactics
import Derived.BigQuiet
import Derived.Below
import Derived.Shelf.Abstract
import Derived.Lib.Hide
import Derived.Laws.BitsAll
import Derived.Deep.DeepCutAuto
import Derived.Laws.CopyOwn
import Derived.Shelf.Strconv.Itoa3
import Derived.Ground.NamesProg
import Derived.Shelf.SlGeneric
import Derived.Shelf.SlSortCmp.WholeK
import Derived.Ground.SlsfProg

/-
  Rings: members, limits, the circle, owners; what the laws say of them.
-/
namespace Go.Proofs.YtiacdkggbnoigaaGreatDoor
/-- A member. -/
structure Mb where
  node : Int
  region : Int
  weight : Int
deriving DecidableEq

def okMb (m : Mb) : Prop := 0 ≤ m.node ∧ m.node ≤ 23 ∧ 0 ≤ m.region ∧ m.region ≤ 3 ∧ 1 ≤ m.weight ∧ m.weight ≤ 16
/-- Valid, from a last node on. -/
def validFrom (last : Int) : List Mb → Bool
  | [] => decide (0 ≤ last)
  | m :: l => decide (last + 1 ≤ m.node ∧ m.node ≤ 23 ∧ 0 ≤ m.region ∧ m.region ≤ 3 ∧ 1 ≤ m.weight ∧ m.weight ≤ 16) && validFrom m.node l
def validL (l : List Mb) : Bool := validFrom (-1) l

theorem validFrom_spec : ∀ (l : List Mb) (last : Int), -1 ≤ last → validFrom last l = true → (∀ m ∈ l, okMb m ∧ last < m.node) ∧ l.Pairwise (fun a b => a.node < b.node) ∧ (0 ≤ last ∨ l ≠ [])
  | [], last, _, h => ⟨by simp, List.Pairwise.nil, .inl (by simpa [validFrom] using h)⟩
  | m :: l, last, hl, h => by
    simp only [validFrom, Bool.and_eq_true, decide_eq_true_eq] at h
    obtain ⟨h1, h2⟩ := h
    obtain ⟨i1, i2, _⟩ := validFrom_spec l m.node (by omega) h2
    refine ⟨fun x hx => ?_, List.Pairwise.cons (fun x hx => (i1 x hx).2) i2, .inr (by simp)⟩
    rcases List.mem_cons.1 hx with rfl | hx
    · exact ⟨⟨by omega, by omega, by omega, by omega, by omega, by omega⟩, by omega⟩
    · exact ⟨(i1 x hx).1, by have := (i1 x hx).2; omega⟩
theorem validFrom_of : ∀ (l : List Mb) (last : Int), (∀ m ∈ l, okMb m ∧ last < m.node) → l.Pairwise (fun a b => a.node < b.node) → (0 ≤ last ∨ l ≠ []) → validFrom last l = true
  | [], last, _, _, h => by simpa [validFrom] using h
  | m :: l, last, h1, h2, _ => by
    have hm := h1 m (by simp)
    rw [List.pairwise_cons] at h2
    simp only [validFrom, Bool.and_eq_true, decide_eq_true_eq]
    unfold okMb at hm
    exact ⟨by omega, validFrom_of l m.node (fun x hx => ⟨(h1 x (by simp [hx])).1, h2.1 x hx⟩) h2.2 (.inl (by omega))⟩

/-- Members that are valid. -/
structure VL (l : List Mb) : Prop where
  ok : ∀ m ∈ l, okMb m
  asc : l.Pairwise (fun a b => a.node < b.node)
  ne : l ≠ []
theorem validL_iff (l : List Mb) : validL l = true ↔ VL l :=
  ⟨fun h => by
    obtain ⟨h1, h2, h3⟩ := validFrom_spec l (-1) (by omega) h
    exact ⟨fun m hm => (h1 m hm).1, h2, h3.resolve_left (by omega)⟩,
   fun h => validFrom_of l (-1) (fun m hm => ⟨h.ok m hm, by have := h.ok m hm; unfold okMb at this; omega⟩) h.asc (.inr h.ne)⟩

theorem asc_len : ∀ (l : List Mb) (k : Int), (∀ m ∈ l, k < m.node ∧ m.node ≤ 23) → l.Pairwise (fun a b => a.node < b.node) → (l.length : Int) ≤ max 0 (23 - k)
  | [], k, _, _ => by simp; omega
  | m :: l, k, h1, h2 => by
    rw [List.pairwise_cons] at h2
    have := asc_len l m.node (fun x hx => ⟨h2.1 x hx, (h1 x (by simp [hx])).2⟩) h2.2
    have hm := h1 m (by simp)
    simp only [List.length_cons]
    omega
theorem VL.len {l : List Mb} (h : VL l) : l.length ≤ 24 := by
  have := asc_len l (-1) (fun m hm => by have := h.ok m hm; unfold okMb at this; omega) h.asc
  omega

/-- The sum of the weights. -/
def wsum : List Mb → Int
  | [] => 0
  | m :: l => m.weight + wsum l
theorem wsum_append : ∀ (a b : List Mb), wsum (a ++ b) = wsum a + wsum b
  | [], b => by simp [wsum]
  | m :: a, b => by simp only [List.cons_append, wsum, wsum_append a b]; omega
theorem wsum_bd : ∀ (l : List Mb), (∀ m ∈ l, okMb m) → (l.length : Int) ≤ wsum l ∧ wsum l ≤ 16 * l.length
  | [], _ => by simp [wsum]
  | m :: l, h => by
    have := wsum_bd l (fun x hx => h x (by simp [hx]))
    have hm := h m (by simp)
    unfold okMb at hm
    simp only [wsum, List.length_cons]
    omega
theorem VL.wsum {l : List Mb} (h : VL l) : 1 ≤ wsum l ∧ wsum l ≤ 384 := by
  have := wsum_bd l h.ok
  have h1 := h.len
  have h2 : 0 < l.length := List.length_pos_iff.2 h.ne
  omega

def findN (l : List Mb) (n : Int) : Option Mb := l.find? (fun m => decide (m.node = n))
/-- The limit of a node. -/
def limitL (l : List Mb) (n : Int) : Int := if validL l = true then (match findN l n with | some m => (80 * m.weight + wsum l - 1) / wsum l | none => 0) else 0

theorem findN_mem {l : List Mb} (h : l.Pairwise (fun a b => a.node < b.node)) {m : Mb} (hm : m ∈ l) : findN l m.node = some m := by
  unfold findN
  induction l with
  | nil => cases hm
  | cons x l ih =>
    rw [List.pairwise_cons] at h
    rw [List.find?_cons]
    rcases List.mem_cons.1 hm with rfl | hm
    · simp
    · have : ¬ x.node = m.node := by have := h.1 m hm; omega
      simp only [this, decide_false]
      exact ih h.2 hm
theorem findN_none {l : List Mb} {n : Int} (h : ∀ m ∈ l, m.node ≠ n) : findN l n = none := by
  unfold findN
  rw [List.find?_eq_none]
  intro m hm
  simpa using h m hm
theorem findN_some {l : List Mb} {n : Int} {m : Mb} (h : findN l n = some m) : m ∈ l ∧ m.node = n := by
  unfold findN at h
  exact ⟨List.mem_of_find?_eq_some h, by simpa using List.find?_some h⟩
theorem limitL_mem {l : List Mb} (h : VL l) {m : Mb} (hm : m ∈ l) : limitL l m.node = (80 * m.weight + wsum l - 1) / wsum l := by
  unfold limitL
  rw [if_pos ((validL_iff l).2 h), findN_mem h.asc hm]
theorem limitL_none {l : List Mb} {n : Int} (h : ∀ m ∈ l, m.node ≠ n) : limitL l n = 0 := by
  unfold limitL
  rw [findN_none h]
  simp
theorem limitL_bad {l : List Mb} {n : Int} (h : ¬ VL l) : limitL l n = 0 := by
  unfold limitL
  rw [if_neg (fun e => h ((validL_iff l).1 e))]
theorem limit_pos {l : List Mb} (h : VL l) {m : Mb} (hm : m ∈ l) : 1 ≤ limitL l m.node ∧ limitL l m.node ≤ 1280 ∧ limitL l m.node * wsum l ≥ 80 * m.weight ∧ (limitL l m.node - 1) * wsum l < 80 * m.weight := by
  rw [limitL_mem h hm]
  have hs := h.wsum
  have hw := h.ok m hm
  unfold okMb at hw
  have h1 := Int.emod_add_mul_ediv (80 * m.weight + wsum l - 1) (wsum l)
  have h2 := Int.emod_nonneg (80 * m.weight + wsum l - 1) (show wsum l ≠ 0 by omega)
  have h3 := Int.emod_lt_of_pos (80 * m.weight + wsum l - 1) (show 0 < wsum l by omega)
  generalize (80 * m.weight + wsum l - 1) / wsum l = q at *
  generalize wsum l = s at *
  have e1 : s * q = q * s := Int.mul_comm _ _
  have e2 : (q - 1) * s = q * s - s := by rw [Int.sub_mul, Int.one_mul]
  have hq1 : 1 ≤ q := by
    rcases Int.lt_or_le q 1 with hq | hq
    · have : q * s ≤ 0 := Int.mul_nonpos_of_nonpos_of_nonneg (by omega) (by omega)
      omega
    · exact hq
  have hq2 : q ≤ 1280 := by
    rcases Int.lt_or_le 1280 q with hq | hq
    · have : 1280 * s < q * s := Int.mul_lt_mul_of_pos_right hq (by omega)
      omega
    · exact hq
  exact ⟨hq1, hq2, by omega, by omega⟩
theorem limitL_nn (l : List Mb) (n : Int) : 0 ≤ limitL l n ∧ limitL l n ≤ 1280 := by
  by_cases h : VL l
  · by_cases hn : ∃ m ∈ l, m.node = n
    · obtain ⟨m, hm, rfl⟩ := hn
      have := limit_pos h hm
      omega
    · rw [limitL_none (fun m hm e => hn ⟨m, hm, e⟩)]; omega
  · rw [limitL_bad h]; omega
/-- A point of a member. -/
structure Mk where
  point : Int
  node : Int
  i : Int
deriving DecidableEq
def ltMk (a b : Mk) : Prop := a.point < b.point ∨ (a.point = b.point ∧ (a.node < b.node ∨ (a.node = b.node ∧ a.i < b.i)))
instance (a b : Mk) : Decidable (ltMk a b) := by unfold ltMk; infer_instance
theorem ltMk_irrefl (a : Mk) : ¬ ltMk a a := by unfold ltMk; omega
theorem ltMk_trans {a b c : Mk} (h1 : ltMk a b) (h2 : ltMk b c) : ltMk a c := by unfold ltMk at *; omega
theorem ltMk_total {a b : Mk} (h : a ≠ b) : ltMk a b ∨ ltMk b a := by
  by_cases h1 : a.point = b.point
  · by_cases h2 : a.node = b.node
    · have h3 : a.i ≠ b.i := fun h3 => h (by cases a; cases b; simp_all)
      unfold ltMk; omega
    · unfold ltMk; omega
  · unfold ltMk; omega
theorem ltMk_asymm {a b : Mk} (h : ltMk a b) : ¬ ltMk b a := by unfold ltMk at *; omega

def insMk (x : Mk) : List Mk → List Mk
  | [] => [x]
  | y :: l => if ltMk x y then x :: y :: l else y :: insMk x l
theorem insMk_perm (x : Mk) : ∀ l, (insMk x l).Perm (x :: l)
  | [] => List.Perm.refl _
  | y :: l => by
    unfold insMk
    split
    · exact List.Perm.refl _
    · exact ((insMk_perm x l).cons y).trans (List.Perm.swap x y l)
theorem insMk_sorted (x : Mk) : ∀ l : List Mk, x ∉ l → l.Pairwise ltMk → (insMk x l).Pairwise ltMk
  | [], _, _ => by simp [insMk]
  | y :: l, hx, h => by
    rw [List.pairwise_cons] at h
    unfold insMk
    split
    · rename_i hxy
      rw [List.pairwise_cons, List.pairwise_cons]
      refine ⟨fun z hz => ?_, h⟩
      rcases List.mem_cons.1 hz with rfl | hz
      · exact hxy
      · exact ltMk_trans hxy (h.1 z hz)
    · rename_i hxy
      rw [List.pairwise_cons]
      refine ⟨fun z hz => ?_, insMk_sorted x l (fun h => hx (by simp [h])) h.2⟩
      rcases List.mem_cons.1 ((insMk_perm x l).mem_iff.1 hz) with rfl | hz
      · exact (ltMk_total (fun e => hx (by simp [e]))).resolve_left hxy
      · exact h.1 z hz
def sortMk (l : List Mk) : List Mk := l.foldr insMk []
theorem sortMk_perm : ∀ l : List Mk, (sortMk l).Perm l
  | [] => List.Perm.refl _
  | x :: l => (insMk_perm x (sortMk l)).trans ((sortMk_perm l).cons x)
theorem sortMk_sorted : ∀ l : List Mk, l.Nodup → (sortMk l).Pairwise ltMk
  | [], _ => List.Pairwise.nil
  | x :: l, h => by
    rw [List.nodup_cons] at h
    exact insMk_sorted x _ (fun hx => h.1 ((sortMk_perm l).mem_iff.1 hx)) (sortMk_sorted l h.2)
theorem sorted_uniq : ∀ {a b : List Mk}, a.Pairwise ltMk → b.Pairwise ltMk → a.Perm b → a = b
  | [], b, _, _, h => h.nil_eq
  | x :: a, b, ha, hb, h => by
    cases b with
    | nil => exact absurd h.length_eq (by simp)
    | cons y b =>
      rw [List.pairwise_cons] at ha hb
      have hxy : x = y := by
        by_cases e : x = y
        · exact e
        · have h1 : y ∈ a := by
            rcases List.mem_cons.1 (h.mem_iff.2 (List.mem_cons_self)) with e' | h'
            · exact absurd e'.symm e
            · exact h'
          have h2 : x ∈ b := by
            rcases List.mem_cons.1 (h.mem_iff.1 (List.mem_cons_self)) with e' | h'
            · exact absurd e' e
            · exact h'
          exact absurd (ha.1 y h1) (ltMk_asymm (hb.1 x h2))
      subst hxy
      rw [sorted_uniq ha.2 hb.2 (List.Perm.cons_inv h)]
theorem sorted_filter {a : List Mk} (h : a.Pairwise ltMk) (p : Mk → Bool) : (a.filter p).Pairwise ltMk := h.sublist List.filter_sublist

section
variable (P : Int → Nat → Int)
/-- The points of a member. -/
def drawM (m : Mb) : List Mk := (List.range (4 * m.weight.toNat)).map (fun i => ⟨P m.node i, m.node, i⟩)
/-- The points of members, as they are drawn. -/
def draws (l : List Mb) : List Mk := l.flatMap (drawM P)
/-- The circle. -/
def circ (l : List Mb) : List Mk := sortMk (draws P l)

theorem mem_drawM {m : Mb} {x : Mk} : x ∈ drawM P m ↔ x.node = m.node ∧ ∃ i : Nat, i < 4 * m.weight.toNat ∧ x.i = i ∧ x.point = P m.node i := by
  unfold drawM
  simp only [List.mem_map, List.mem_range]
  constructor
  · rintro ⟨i, hi, rfl⟩; exact ⟨rfl, i, hi, rfl, rfl⟩
  · rintro ⟨h1, i, hi, h2, h3⟩
    exact ⟨i, hi, by cases x; simp_all⟩
theorem drawM_nodup (m : Mb) : (drawM P m).Nodup := by
  unfold drawM
  rw [List.nodup_iff_pairwise_ne, List.pairwise_map]
  refine (List.nodup_iff_pairwise_ne.1 (List.nodup_range)).imp ?_
  intro a b h e
  have := congrArg Mk.i e
  simp only [] at this
  omega
theorem mem_draws {l : List Mb} {x : Mk} : x ∈ draws P l ↔ ∃ m ∈ l, x ∈ drawM P m := by unfold draws; rw [List.mem_flatMap]
theorem draws_nodup : ∀ {l : List Mb}, l.Pairwise (fun a b => a.node < b.node) → (draws P l).Nodup
  | [], _ => List.nodup_nil
  | m :: l, h => by
    rw [List.pairwise_cons] at h
    unfold draws
    rw [List.flatMap_cons, List.nodup_append]
    refine ⟨drawM_nodup P m, draws_nodup h.2, fun a ha b hb e => ?_⟩
    subst e
    obtain ⟨m', hm', hb⟩ := (mem_draws P).1 hb
    have h1 := ((mem_drawM P).1 ha).1
    have h2 := ((mem_drawM P).1 hb).1
    have := h.1 m' hm'
    omega
theorem circ_sorted {l : List Mb} (h : l.Pairwise (fun a b => a.node < b.node)) : (circ P l).Pairwise ltMk := sortMk_sorted _ (draws_nodup P h)
theorem mem_circ {l : List Mb} {x : Mk} : x ∈ circ P l ↔ ∃ m ∈ l, x ∈ drawM P m := by unfold circ; rw [(sortMk_perm _).mem_iff, mem_draws]
theorem circ_uniq {l : List Mb} (h : l.Pairwise (fun a b => a.node < b.node)) {c : List Mk} (hp : c.Perm (draws P l)) (hs : c.Pairwise ltMk) : c = circ P l :=
  sorted_uniq hs (circ_sorted P h) (hp.trans (sortMk_perm _).symm)
theorem draws_len : ∀ (l : List Mb), (∀ m ∈ l, okMb m) → ((draws P l).length : Int) = 4 * wsum l
  | [], _ => by simp [draws, wsum]
  | m :: l, h => by
    have := draws_len l (fun x hx => h x (by simp [hx]))
    have hm := h m (by simp)
    unfold okMb at hm
    unfold draws at this ⊢
    rw [List.flatMap_cons, List.length_append]
    simp only [wsum, drawM, List.length_map, List.length_range]
    omega

/-- Clockwise from a point on. -/
def rot (c : List Mk) (p : Int) : List Mk := c.filter (fun x => decide (p ≤ x.point)) ++ c.filter (fun x => decide (x.point < p))
def ords (l : List Mb) (p : Int) : List Int := (rot (circ P l) p).map Mk.node
theorem mem_rot {c : List Mk} {p : Int} {x : Mk} : x ∈ rot c p ↔ x ∈ c := by
  unfold rot
  simp only [List.mem_append, List.mem_filter, decide_eq_true_eq]
  constructor
  · rintro (h | h) <;> exact h.1
  · intro h
    rcases Int.lt_or_le x.point p with h' | h'
    · exact .inr ⟨h, h'⟩
    · exact .inl ⟨h, h'⟩
theorem mem_ords {l : List Mb} (h : VL l) {p n : Int} : n ∈ ords P l p ↔ ∃ m ∈ l, m.node = n := by
  unfold ords
  simp only [List.mem_map, mem_rot, mem_circ]
  constructor
  · rintro ⟨x, ⟨m, hm, hx⟩, rfl⟩; exact ⟨m, hm, (((mem_drawM P).1 hx).1).symm⟩
  · rintro ⟨m, hm, rfl⟩
    have := h.ok m hm
    unfold okMb at this
    exact ⟨⟨P m.node 0, m.node, ((0 : Nat) : Int)⟩, ⟨m, hm, (mem_drawM P).2 ⟨rfl, 0, by omega, rfl, rfl⟩⟩, rfl⟩
/-- A sorted list is split at the first one that is not below. -/
theorem rot_split : ∀ {c : List Mk}, c.Pairwise ltMk → ∀ (p : Int), ∃ k, k ≤ c.length ∧ c.filter (fun x => decide (x.point < p)) = c.take k ∧ c.filter (fun x => decide (p ≤ x.point)) = c.drop k ∧ (∀ x ∈ c.take k, x.point < p) ∧ ∀ x ∈ c.drop k, p ≤ x.point
  | [], _, p => ⟨0, by simp, by simp, by simp, by simp, by simp⟩
  | x :: c, h, p => by
    rw [List.pairwise_cons] at h
    by_cases hx : x.point < p
    · obtain ⟨k, hk, h1, h2, h3, h4⟩ := rot_split h.2 p
      refine ⟨k + 1, by simp; omega, ?_, ?_, ?_, ?_⟩
      · rw [List.filter_cons_of_pos (by simpa using hx), h1]; rfl
      · rw [List.filter_cons_of_neg (by simp; omega), h2]; rfl
      · intro y hy
        rw [List.take_succ_cons] at hy
        rcases List.mem_cons.1 hy with rfl | hy
        · exact hx
        · exact h3 y hy
      · intro y hy
        rw [List.drop_succ_cons] at hy
        exact h4 y hy
    · have hall : ∀ y ∈ x :: c, p ≤ y.point := fun y hy => by
        rcases List.mem_cons.1 hy with rfl | hy
        · omega
        · have := h.1 y hy; unfold ltMk at this; omega
      refine ⟨0, by simp, ?_, ?_, by simp, by simpa using hall⟩
      · rw [List.take_zero, List.filter_eq_nil_iff]
        intro y hy
        have := hall y hy
        simp; omega
      · rw [List.drop_zero, List.filter_eq_self]
        intro y hy
        simpa using hall y hy
end

/-! ### the assignment -/
def upd (g : Int → Int) (n v : Int) : Int → Int := fun k => if k = n then v else g k
def firstN (g : Int → Int) (o : List Int) : Option Int := o.find? (fun n => decide (0 < g n))
def stepA (o : List Int) (st : (Int → Int) × List Int) : (Int → Int) × List Int := match firstN st.1 o with
  | some n => (upd st.1 n (st.1 n - 1), st.2 ++ [n])
  | none => st
/-- The first k slots are assigned. -/
def assignK (ord : Nat → List Int) (g : Int → Int) : Nat → (Int → Int) × List Int
  | 0 => (g, [])
  | k + 1 => stepA (ord k) (assignK ord g k)

/-- How often n is among the owners. -/
def cnt (l : List Int) (n : Int) : Int := (l.count n : Nat)
theorem cnt_nn (l : List Int) (n : Int) : 0 ≤ cnt l n := by unfold cnt; omega
theorem cnt_snoc (l : List Int) (a n : Int) : cnt (l ++ [a]) n = cnt l n + if n = a then 1 else 0 := by
  unfold cnt
  rw [List.count_append, List.count_singleton]
  by_cases h : n = a
  · subst h; simp
  · have : ¬ a = n := fun e => h e.symm
    simp [h, this]

theorem firstN_some {g : Int → Int} {o : List Int} {n : Int} (h : firstN g o = some n) : n ∈ o ∧ 0 < g n := by
  unfold firstN at h
  exact ⟨List.mem_of_find?_eq_some h, by simpa using List.find?_some h⟩

/-- What holds behind k slots. -/
structure AsgK (g : Int → Int) (ns : List Int) (k : Nat) (st : (Int → Int) × List Int) : Prop where
  len : st.2.length = k
  room : ∀ n, st.1 n = g n - cnt st.2 n
  nn : ∀ n, 0 ≤ st.1 n
  mem : ∀ n ∈ st.2, n ∈ ns

def sumF (g : Int → Int) : List Int → Int
  | [] => 0
  | n :: l => g n + sumF g l
theorem sumF_sub (g f : Int → Int) : ∀ l, sumF (fun n => g n - f n) l = sumF g l - sumF f l
  | [] => by simp [sumF]
  | n :: l => by simp only [sumF, sumF_sub g f l]; omega
theorem sumF_pos (g : Int → Int) : ∀ l, 0 < sumF g l → ∃ n ∈ l, 0 < g n
  | [], h => by simp [sumF] at h
  | n :: l, h => by
    simp only [sumF] at h
    by_cases hn : 0 < g n
    · exact ⟨n, by simp, hn⟩
    · obtain ⟨m, hm, h'⟩ := sumF_pos g l (by omega)
      exact ⟨m, by simp [hm], h'⟩
theorem sumF_cnt : ∀ (ns : List Int), ns.Nodup → ∀ (l : List Int), sumF (cnt l) ns ≤ l.length
  | [], _, l => by simp [sumF]
  | n :: ns, h, l => by
    rw [List.nodup_cons] at h
    have h1 := sumF_cnt ns h.2 (l.filter (fun x => decide (x ≠ n)))
    have h2 : sumF (cnt (l.filter (fun x => decide (x ≠ n)))) ns = sumF (cnt l) ns := by
      have : ∀ ns' : List Int, n ∉ ns' → sumF (cnt (l.filter (fun x => decide (x ≠ n)))) ns' = sumF (cnt l) ns' := by
        intro ns'
        induction ns' with
        | nil => intro _; rfl
        | cons a ns' ih =>
          intro ha
          simp only [List.mem_cons, not_or] at ha
          simp only [sumF]
          rw [ih ha.2]
          congr 1
          unfold cnt
          rw [List.count_filter (by simp; exact fun e => ha.1 e.symm)]
      exact this ns h.1
    have h3 : (l.filter (fun x => decide (x ≠ n))).length + l.count n = l.length := by
      clear h1 h2
      induction l with
      | nil => rfl
      | cons a l ih =>
        by_cases e : a = n
        · subst e; rw [List.filter_cons_of_neg (by simp), List.count_cons_self, List.length_cons]; omega
        · rw [List.filter_cons_of_pos (by simpa using e), List.count_cons_of_ne (by simpa using e), List.length_cons, List.length_cons]; omega
    simp only [sumF]
    rw [← h2]
    unfold cnt at h1 ⊢
    omega
theorem sumF_mono {g f : Int → Int} : ∀ (l : List Int), (∀ n ∈ l, g n ≤ f n) → sumF g l ≤ sumF f l
  | [], _ => Int.le_refl _
  | n :: l, h => by
    simp only [sumF]
    have := h n (by simp)
    have := sumF_mono l (fun m hm => h m (by simp [hm]))
    omega

/-- There is always room. -/
theorem assignK_ok {ord : Nat → List Int} {g : Int → Int} {ns : List Int} (hn : ns.Nodup) (hg : ∀ n, 0 ≤ g n) (hord : ∀ s n, n ∈ ord s ↔ n ∈ ns) : ∀ (k : Nat), (k : Int) ≤ sumF g ns → AsgK g ns k (assignK ord g k)
  | 0, _ => ⟨rfl, fun n => by simp [assignK, cnt], fun n => hg n, by simp [assignK]⟩
  | k + 1, hk => by
    have ih := assignK_ok hn hg hord k (by omega)
    unfold assignK
    generalize assignK ord g k = st at *
    have h1 : sumF st.1 ns = sumF g ns - sumF (cnt st.2) ns := by
      rw [← sumF_sub]
      congr 1
      funext n
      exact ih.room n
    have h2 := sumF_cnt ns hn st.2
    obtain ⟨n, hn1, hn2⟩ := sumF_pos st.1 ns (by rw [h1]; have := ih.len; omega)
    cases hf : firstN st.1 (ord k) with
    | none =>
      unfold firstN at hf
      rw [List.find?_eq_none] at hf
      have := hf n ((hord k n).2 hn1)
      simp at this
      omega
    | some m =>
      obtain ⟨hm1, hm2⟩ := firstN_some hf
      have e : stepA (ord k) st = (upd st.1 m (st.1 m - 1), st.2 ++ [m]) := by unfold stepA; rw [hf]
      rw [e]
      refine ⟨by simp [ih.len], fun x => ?_, fun x => ?_, fun x hx => ?_⟩
      · show upd st.1 m (st.1 m - 1) x = g x - cnt (st.2 ++ [m]) x
        rw [cnt_snoc]
        unfold upd
        have := ih.room x
        split
        · rename_i e; subst e; omega
        · omega
      · show 0 ≤ upd st.1 m (st.1 m - 1) x
        unfold upd
        have := ih.nn x
        split <;> omega
      · rcases List.mem_append.1 hx with hx | hx
        · exact ih.mem x hx
        · rw [List.mem_singleton] at hx
          subst hx
          exact (hord k x).1 hm1

theorem limit_sum {l : List Mb} (h : VL l) : 80 ≤ sumF (limitL l) (l.map Mb.node) := by
  have key : ∀ l' : List Mb, (∀ m ∈ l', m ∈ l) → 80 * wsum l' ≤ sumF (limitL l) (l'.map Mb.node) * wsum l := by
    intro l'
    induction l' with
    | nil => intro _; simp [wsum, sumF]
    | cons m l' ih =>
      intro hm
      have h1 := ih (fun x hx => hm x (by simp [hx]))
      have h2 := (limit_pos h (hm m (by simp))).2.2.1
      simp only [List.map_cons, sumF, wsum]
      rw [Int.add_mul]
      omega
  have h1 := key l (fun _ h => h)
  have h2 := h.wsum
  rcases Int.lt_or_le (sumF (limitL l) (l.map Mb.node)) 80 with h3 | h3
  · have : sumF (limitL l) (l.map Mb.node) * wsum l < 80 * wsum l := Int.mul_lt_mul_of_pos_right h3 (by omega)
    omega
  · exact h3
theorem VL.nodup {l : List Mb} (h : VL l) : (l.map Mb.node).Nodup := by
  have := h.asc
  rw [List.nodup_iff_pairwise_ne, List.pairwise_map]
  exact this.imp (fun h e => by omega)

section
variable (P : Int → Nat → Int) (Q : Nat → Int)
/-- The owners. -/
def ownersL (l : List Mb) : List Int := (assignK (fun s => ords P l (Q s)) (limitL l) 64).2
theorem assign_at {l : List Mb} (h : VL l) {k : Nat} (hk : k ≤ 80) : AsgK (limitL l) (l.map Mb.node) k (assignK (fun s => ords P l (Q s)) (limitL l) k) :=
  assignK_ok h.nodup (fun n => (limitL_nn l n).1) (fun s n => by rw [mem_ords P h, List.mem_map]) k (by have := limit_sum h; omega)
theorem owners_ok {l : List Mb} (h : VL l) : (ownersL P Q l).length = 64 ∧ (∀ n, cnt (ownersL P Q l) n ≤ limitL l n) ∧ ∀ n ∈ ownersL P Q l, ∃ m ∈ l, m.node = n := by
  have a := assign_at P Q h (show 64 ≤ 80 by decide)
  refine ⟨a.len, fun n => ?_, fun n hn => List.mem_map.1 (a.mem n hn)⟩
  have h1 := a.room n
  have h2 := a.nn n
  unfold ownersL
  omega
end
section
variable (ord : Nat → List Int) (g : Int → Int)
theorem stepA_prefix (o : List Int) (st : (Int → Int) × List Int) : ∃ t, (stepA o st).2 = st.2 ++ t := by
  unfold stepA
  split
  · exact ⟨_, rfl⟩
  · exact ⟨[], by simp⟩
theorem assignK_prefix (k : Nat) : ∀ j, ∃ t, (assignK ord g (k + j)).2 = (assignK ord g k).2 ++ t
  | 0 => ⟨[], by simp⟩
  | j + 1 => by
    obtain ⟨t, ht⟩ := assignK_prefix k j
    obtain ⟨u, hu⟩ := stepA_prefix (ord (k + j)) (assignK ord g (k + j))
    exact ⟨t ++ u, by rw [← Nat.add_assoc, assignK, hu, ht, List.append_assoc]⟩
end
theorem cnt_append (a b : List Int) (n : Int) : cnt (a ++ b) n = cnt a n + cnt b n := by unfold cnt; rw [List.count_append]; omega

section
variable (P : Int → Nat → Int) (Q : Nat → Int)
abbrev asg (l : List Mb) (k : Nat) : (Int → Int) × List Int := assignK (fun s => ords P l (Q s)) (limitL l) k
/-- The owner of a slot: the first with room, at the slot's time. -/
theorem owner_at {l : List Mb} (h : VL l) {s : Nat} (hs : s < 64) : ∃ n, firstN (asg P Q l s).1 (ords P l (Q s)) = some n ∧ (ownersL P Q l)[s]? = some n ∧ ∀ x, cnt (asg P Q l s).2 x ≤ cnt (ownersL P Q l) x := by
  have a0 := assign_at P Q h (show s ≤ 80 by omega)
  have a1 := assign_at P Q h (show s + 1 ≤ 80 by omega)
  obtain ⟨t, ht⟩ := assignK_prefix (fun s => ords P l (Q s)) (limitL l) (s + 1) (63 - s)
  rw [show s + 1 + (63 - s) = 64 by omega] at ht
  cases hf : firstN (asg P Q l s).1 (ords P l (Q s)) with
  | none =>
    have : asg P Q l (s + 1) = asg P Q l s := by
      show stepA _ _ = _
      unfold stepA
      rw [show firstN (assignK (fun s => ords P l (Q s)) (limitL l) s).1 (ords P l (Q s)) = none from hf]
    have h1 := a1.len
    have h2 := a0.len
    rw [show assignK (fun s => ords P l (Q s)) (limitL l) (s + 1) = assignK (fun s => ords P l (Q s)) (limitL l) s from this] at h1
    omega
  | some n =>
    have e : (asg P Q l (s + 1)).2 = (asg P Q l s).2 ++ [n] := by
      show (stepA _ _).2 = _
      unfold stepA
      rw [show firstN (assignK (fun s => ords P l (Q s)) (limitL l) s).1 (ords P l (Q s)) = some n from hf]
    have e2 : ownersL P Q l = (asg P Q l s).2 ++ [n] ++ t := by
      unfold ownersL
      rw [ht]
      show (asg P Q l (s + 1)).2 ++ t = _
      rw [e]
    refine ⟨n, rfl, ?_, fun x => ?_⟩
    · rw [e2, List.append_assoc, List.getElem?_append_right (by rw [a0.len]; omega), a0.len]
      simp
    · rw [e2, cnt_append, cnt_append]
      have := cnt_nn [n] x
      have := cnt_nn t x
      omega
theorem find_before {p : Int → Bool} : ∀ {o : List Int} {n : Int}, o.find? p = some n → ∀ (i : Nat) (x : Int), o[i]? = some x → (∀ k, k ≤ i → o[k]? ≠ some n) → p x = false
  | [], _, h, _, _, _, _ => by simp at h
  | y :: o, n, h, i, x, hx, hk => by
    rw [List.find?_cons] at h
    by_cases hy : p y = true
    · rw [hy] at h
      simp only [Option.some.injEq] at h
      subst h
      exact absurd rfl (hk 0 (Nat.zero_le _))
    · have hy' : p y = false := by simpa using hy
      rw [hy'] at h
      simp only [] at h
      cases i with
      | zero =>
        simp only [List.getElem?_cons_zero, Option.some.injEq] at hx
        subst hx
        exact hy'
      | succ i =>
        simp only [List.getElem?_cons_succ] at hx
        exact find_before h i x hx (fun k hk' => by have := hk (k + 1) (by omega); simpa using this)
/-- Clockwise: who comes before the owner has as many slots as its limit. -/
theorem clockwise {l : List Mb} (h : VL l) {s : Nat} (hs : s < 64) {n : Int} (hn : (ownersL P Q l)[s]? = some n) {i : Nat} {x : Int} (hx : (ords P l (Q s))[i]? = some x) (hb : ∀ k, k ≤ i → (ords P l (Q s))[k]? ≠ some n) : limitL l x ≤ cnt (ownersL P Q l) x := by
  obtain ⟨m, h1, h2, h3⟩ := owner_at P Q h hs
  rw [hn] at h2
  cases h2
  have h4 := find_before h1 i x hx hb
  have h5 := (assign_at P Q h (show s ≤ 80 by omega)).room x
  have h6 := h3 x
  simp only [decide_eq_false_iff_not] at h4
  have h7 : (asg P Q l s).1 x = limitL l x - cnt (asg P Q l s).2 x := h5
  omega
/-- No member is at its limit: every slot goes to the first one clockwise. -/
theorem free_first {l : List Mb} (h : VL l) (hf : ∀ m ∈ l, cnt (ownersL P Q l) m.node < limitL l m.node) {s : Nat} (hs : s < 64) : ∃ n, (ords P l (Q s)).head? = some n ∧ (ownersL P Q l)[s]? = some n := by
  obtain ⟨n, h1, h2, h3⟩ := owner_at P Q h hs
  refine ⟨n, ?_, h2⟩
  cases ho : ords P l (Q s) with
  | nil => rw [ho] at h1; simp [firstN] at h1
  | cons y o =>
    rw [ho] at h1
    unfold firstN at h1
    obtain ⟨m, hm, he⟩ := (mem_ords P h).1 (show y ∈ ords P l (Q s) by rw [ho]; exact List.mem_cons_self)
    have h5 := (assign_at P Q h (show s ≤ 80 by omega)).room y
    have h6 := h3 y
    have h7 := hf m hm
    rw [he] at h7
    have h8 : 0 < (asg P Q l s).1 y := by
      have : (asg P Q l s).1 y = limitL l y - cnt (asg P Q l s).2 y := h5
      omega
    rw [List.find?_cons] at h1
    simp only [h8, decide_true, Option.some.injEq] at h1
    subst h1
    rfl

theorem draws_append (a b : List Mb) : draws P (a ++ b) = draws P a ++ draws P b := by unfold draws; rw [List.flatMap_append]
theorem filter_draws_other {l : List Mb} {n : Int} (h : ∀ m ∈ l, m.node ≠ n) : (draws P l).filter (fun x => decide (x.node ≠ n)) = draws P l := by
  rw [List.filter_eq_self]
  intro x hx
  obtain ⟨m, hm, hx⟩ := (mem_draws P).1 hx
  simpa [((mem_drawM P).1 hx).1] using h m hm
theorem filter_draw_own (m : Mb) : (drawM P m).filter (fun x => decide (x.node ≠ m.node)) = [] := by
  rw [List.filter_eq_nil_iff]
  intro x hx
  simp [((mem_drawM P).1 hx).1]
/-- With a further member, the circle of the others is as it was. -/
theorem circ_more {a b : List Mb} {m : Mb} (h : VL (a ++ b)) (hm : VL (a ++ m :: b)) (hn : ∀ x ∈ a ++ b, x.node ≠ m.node) : (circ P (a ++ m :: b)).filter (fun x => decide (x.node ≠ m.node)) = circ P (a ++ b) := by
  refine circ_uniq P h.asc ?_ (sorted_filter (circ_sorted P hm.asc) _)
  refine ((sortMk_perm _).filter _).trans ?_
  rw [draws_append, draws_append, List.filter_append]
  show (List.filter _ (draws P a) ++ List.filter _ (List.flatMap (drawM P) (m :: b))).Perm _
  rw [List.flatMap_cons, List.filter_append, filter_draw_own, List.nil_append]
  have e1 := filter_draws_other P (l := a) (n := m.node) (fun x hx => hn x (by simp [hx]))
  have e2 := filter_draws_other P (l := b) (n := m.node) (fun x hx => hn x (by simp [hx]))
  rw [e1, show List.filter (fun x => decide (x.node ≠ m.node)) (List.flatMap (drawM P) b) = draws P b from e2]
theorem head_filter {α : Type} {q : α → Bool} : ∀ {c : List α} {x : α}, c.head? = some x → q x = true → (c.filter q).head? = some x
  | [], _, h, _ => by simp at h
  | y :: c, x, h, hq => by
    simp only [List.head?_cons, Option.some.injEq] at h
    subst h
    rw [List.filter_cons_of_pos hq]
    rfl
theorem consistent {a b : List Mb} {m : Mb} (h : VL (a ++ b)) (hm : VL (a ++ m :: b)) (hn : ∀ x ∈ a ++ b, x.node ≠ m.node)
    (hf : ∀ x ∈ a ++ b, cnt (ownersL P Q (a ++ b)) x.node < limitL (a ++ b) x.node) (hf' : ∀ x ∈ a ++ m :: b, cnt (ownersL P Q (a ++ m :: b)) x.node < limitL (a ++ m :: b) x.node)
    {s : Nat} (hs : s < 64) : ∃ x y, (ownersL P Q (a ++ b))[s]? = some x ∧ (ownersL P Q (a ++ m :: b))[s]? = some y ∧ (y = x ∨ y = m.node) := by
  obtain ⟨x, h1, h2⟩ := free_first P Q h hf hs
  obtain ⟨y, h3, h4⟩ := free_first P Q hm hf' hs
  refine ⟨x, y, h2, h4, ?_⟩
  by_cases e : y = m.node
  · exact .inr e
  · left
    unfold ords at h1 h3
    rw [List.head?_map] at h1 h3
    cases hc : (rot (circ P (a ++ m :: b)) (Q s)).head? with
    | none => rw [hc] at h3; simp at h3
    | some z =>
      rw [hc] at h3
      simp only [Option.map_some, Option.some.injEq] at h3
      have h5 := head_filter (q := fun x => decide (x.node ≠ m.node)) hc (by rw [h3]; simpa using e)
      have h6 : (rot (circ P (a ++ m :: b)) (Q s)).filter (fun x => decide (x.node ≠ m.node)) = rot (circ P (a ++ b)) (Q s) := by
        unfold rot
        rw [List.filter_append, List.filter_filter, List.filter_filter, ← circ_more P h hm hn, List.filter_filter, List.filter_filter]
        congr 1 <;> (apply List.filter_congr; intro x _; exact Bool.and_comm _ _)
      rw [h6] at h5
      rw [h5] at h1
      simp only [Option.map_some, Option.some.injEq] at h1
      rw [← h1, h3]

/-- Owners depend on nodes and weights alone. -/
theorem map_same : ∀ {a b : List Mb}, a.map (fun m => (m.node, m.weight)) = b.map (fun m => (m.node, m.weight)) → draws P a = draws P b ∧ wsum a = wsum b ∧ ∀ n, (findN a n).map Mb.weight = (findN b n).map Mb.weight
  | [], [], _ => ⟨rfl, rfl, fun _ => rfl⟩
  | [], _ :: _, h => by simp at h
  | _ :: _, [], h => by simp at h
  | x :: a, y :: b, h => by
    simp only [List.map_cons, List.cons.injEq, Prod.mk.injEq] at h
    obtain ⟨⟨h1, h2⟩, h3⟩ := h
    obtain ⟨i1, i2, i3⟩ := map_same h3
    refine ⟨?_, by simp only [wsum, h2, i2], fun n => ?_⟩
    · unfold draws at i1 ⊢
      rw [List.flatMap_cons, List.flatMap_cons, i1]
      congr 1
      unfold drawM
      rw [h1, h2]
    · unfold findN at i3 ⊢
      rw [List.find?_cons, List.find?_cons, h1]
      by_cases e : y.node = n
      · simp [e, h2]
      · simp only [e, decide_false]; exact i3 n
theorem limitL_eq {a b : List Mb} (h : a.map (fun m => (m.node, m.weight)) = b.map (fun m => (m.node, m.weight))) (ha : VL a) (hb : VL b) (n : Int) : limitL a n = limitL b n := by
  obtain ⟨_, h2, h3⟩ := map_same (fun _ _ => 0) h
  unfold limitL
  rw [if_pos ((validL_iff a).2 ha), if_pos ((validL_iff b).2 hb)]
  have := h3 n
  cases ea : findN a n with
  | none =>
    rw [ea] at this
    cases eb : findN b n with
    | none => rfl
    | some y => rw [eb] at this; simp at this
  | some x =>
    rw [ea] at this
    cases eb : findN b n with
    | none => rw [eb] at this; simp at this
    | some y =>
      rw [eb] at this
      simp only [Option.map_some, Option.some.injEq] at this
      simp only [this, h2]
theorem owners_eq {a b : List Mb} (h : a.map (fun m => (m.node, m.weight)) = b.map (fun m => (m.node, m.weight))) (ha : VL a) (hb : VL b) : ownersL P Q a = ownersL P Q b := by
  unfold ownersL
  have h1 : limitL a = limitL b := funext (limitL_eq h ha hb)
  have h2 : (fun s => ords P a (Q s)) = (fun s => ords P b (Q s)) := by
    funext s
    unfold ords circ
    rw [(map_same P h).1]
  rw [h1, h2]
end
/-- Weights that are multiplied change no limit. -/
theorem limit_scaled {w s t : Int} (ht : 1 ≤ t) (hs : 1 ≤ s) : (80 * (t * w) + t * s - 1) / (t * s) = (80 * w + s - 1) / s := by
  have hts : 0 < t * s := Int.mul_pos (by omega) (by omega)
  apply Int.le_antisymm
  · apply Int.le_of_lt_add_one
    rw [Int.ediv_lt_iff_lt_mul hts]
    have h1 := Int.lt_mul_ediv_self_add (x := 80 * w + s - 1) (k := s) (by omega)
    generalize (80 * w + s - 1) / s = q at *
    have : 80 * w + s - 1 < (q + 1) * s := by rw [Int.add_mul, Int.mul_comm q s]; omega
    have h2 : t * (80 * w + s - 1 + 1) ≤ t * ((q + 1) * s) := Int.mul_le_mul_of_nonneg_left (by omega) (by omega)
    have e1 : t * (80 * w + s - 1 + 1) = 80 * (t * w) + t * s := by rw [show 80 * w + s - 1 + 1 = 80 * w + s by omega, Int.mul_add, ← Int.mul_assoc, Int.mul_comm t 80, Int.mul_assoc]
    have e2 : t * ((q + 1) * s) = (q + 1) * (t * s) := by rw [← Int.mul_assoc, ← Int.mul_assoc, Int.mul_comm t (q + 1)]
    omega
  · rw [Int.le_ediv_iff_mul_le hts]
    have h1 := Int.mul_ediv_self_le (x := 80 * w + s - 1) (k := s) (by omega)
    generalize (80 * w + s - 1) / s = q at *
    have h2 : t * (s * q) ≤ t * (80 * w + s - 1) := Int.mul_le_mul_of_nonneg_left h1 (by omega)
    have e1 : t * (80 * w + s - 1) = 80 * (t * w) + t * s - t := by rw [Int.mul_sub, Int.mul_add, Int.mul_one, ← Int.mul_assoc, Int.mul_comm t 80, Int.mul_assoc]
    have e2 : t * (s * q) = q * (t * s) := by rw [← Int.mul_assoc, Int.mul_comm]
    omega
/-! ### rotation by index -/
theorem rot_get {α : Type} (c : List α) {k i : Nat} (hk : k ≤ c.length) (hi : i < c.length) : (c.drop k ++ c.take k)[i]? = c[(k + i) % c.length]? := by
  by_cases h : i < c.length - k
  · rw [List.getElem?_append_left (by simpa using h), List.getElem?_drop, Nat.mod_eq_of_lt (by omega)]
  · rw [List.getElem?_append_right (by simpa using h)]
    have e : (k + i) % c.length = i - (c.length - k) := by
      have : k + i = (i - (c.length - k)) + c.length := by omega
      rw [this, Nat.add_mod_right, Nat.mod_eq_of_lt (by omega)]
    rw [e, List.length_drop, List.getElem?_take_of_lt (by omega)]
/-- How many points lie below p. -/
def lows (c : List Mk) (p : Int) : Nat := (c.filter (fun x => decide (x.point < p))).length
theorem lows_le (c : List Mk) (p : Int) : lows c p ≤ c.length := List.length_filter_le _ _
theorem rot_eq {c : List Mk} (h : c.Pairwise ltMk) (p : Int) : rot c p = c.drop (lows c p) ++ c.take (lows c p) := by
  obtain ⟨k, hk, h1, h2, _, _⟩ := rot_split h p
  have e : lows c p = k := by unfold lows; rw [h1, List.length_take]; omega
  unfold rot
  rw [h2, h1, e]
theorem rot_at {c : List Mk} (h : c.Pairwise ltMk) (p : Int) {i : Nat} (hi : i < c.length) : (rot c p)[i]? = c[(lows c p + i) % c.length]? := by
  rw [rot_eq h, rot_get c (lows_le c p) hi]
theorem rot_len {c : List Mk} (p : Int) : (rot c p).length = c.length := by
  unfold rot
  rw [List.length_append]
  induction c with
  | nil => rfl
  | cons x c ih =>
    by_cases hx : p ≤ x.point
    · rw [List.filter_cons_of_pos (by simpa using hx), List.filter_cons_of_neg (by simp; omega), List.length_cons, List.length_cons]; omega
    · rw [List.filter_cons_of_neg (by simpa using hx), List.filter_cons_of_pos (by simp; omega), List.length_cons, List.length_cons]; omega
theorem lows_below {c : List Mk} (h : c.Pairwise ltMk) (p : Int) {i : Nat} {x : Mk} (hx : c[i]? = some x) : x.point < p ↔ i < lows c p := by
  obtain ⟨k, hk, h1, _, h3, h4⟩ := rot_split h p
  have e : lows c p = k := by unfold lows; rw [h1, List.length_take]; omega
  rw [e]
  constructor
  · intro hp
    rcases Nat.lt_or_ge i k with h' | h'
    · exact h'
    · have := h4 x (List.mem_iff_getElem?.2 ⟨i - k, by rw [List.getElem?_drop]; rw [show k + (i - k) = i by omega]; exact hx⟩)
      omega
  · intro hi
    exact h3 x (List.mem_iff_getElem?.2 ⟨i, by rw [List.getElem?_take_of_lt hi]; exact hx⟩)

/-! ### the order of drawing -/
def dLt (a b : Mk) : Prop := a.node < b.node ∨ (a.node = b.node ∧ a.i < b.i)
theorem draws_order (P : Int → Nat → Int) : ∀ {l : List Mb}, l.Pairwise (fun a b => a.node < b.node) → (draws P l).Pairwise dLt
  | [], _ => List.Pairwise.nil
  | m :: l, h => by
    rw [List.pairwise_cons] at h
    unfold draws
    rw [List.flatMap_cons, List.pairwise_append]
    refine ⟨?_, draws_order P h.2, fun a ha b hb => ?_⟩
    · unfold drawM
      rw [List.pairwise_map]
      refine (List.pairwise_lt_range).imp ?_
      intro a b hab
      exact .inr ⟨rfl, by simp only []; omega⟩
    · obtain ⟨m', hm', hb⟩ := (mem_draws P).1 hb
      have h1 := ((mem_drawM P).1 ha).1
      have h2 := ((mem_drawM P).1 hb).1
      have := h.1 m' hm'
      exact .inl (by omega)
/-- A later point goes behind all that are not above it. -/
theorem ins_at {S : List Mk} {x : Mk} (hs : S.Pairwise ltMk) (hd : ∀ y ∈ S, dLt y x) {k : Nat} (h1 : ∀ y ∈ S.take k, y.point ≤ x.point) (h2 : ∀ y ∈ S.drop k, x.point < y.point) : (S.take k ++ x :: S.drop k).Pairwise ltMk := by
  have hs' : (S.take k ++ S.drop k).Pairwise ltMk := by rw [List.take_append_drop]; exact hs
  rw [List.pairwise_append] at hs' ⊢
  obtain ⟨a1, a2, a3⟩ := hs'
  refine ⟨a1, List.Pairwise.cons (fun y hy => .inl (h2 y hy)) a2, fun a ha b hb => ?_⟩
  rcases List.mem_cons.1 hb with rfl | hb
  · have e1 := h1 a ha
    have e2 := hd a (List.mem_of_mem_take ha)
    unfold ltMk
    unfold dLt at e2
    omega
  · exact a3 a ha b hb
theorem ins_perm (S : List Mk) (x : Mk) (k : Nat) : (S.take k ++ x :: S.drop k).Perm (S ++ [x]) := by
  have h1 : (S.take k ++ x :: S.drop k).Perm (x :: (S.take k ++ S.drop k)) := List.perm_middle
  rw [List.take_append_drop] at h1
  exact h1.trans (List.perm_append_singleton x S).symm
theorem sorted_points {S : List Mk} (hs : S.Pairwise ltMk) {i j : Nat} {x y : Mk} (hx : S[i]? = some x) (hy : S[j]? = some y) (hij : i ≤ j) : x.point ≤ y.point := by
  rcases Nat.lt_or_ge i j with h | h
  · obtain ⟨h1, rfl⟩ := List.getElem?_eq_some_iff.1 hx
    obtain ⟨h2, rfl⟩ := List.getElem?_eq_some_iff.1 hy
    have := List.pairwise_iff_getElem.1 hs i j h1 h2 h
    unfold ltMk at this
    omega
  · have : i = j := by omega
    subst this
    rw [hx] at hy
    cases hy
    omega

/-! ### valid rings -/
def okRing (ep : Int) (l : List Mb) (ow : List Int) : Prop := 1 ≤ ep ∧ ep ≤ 1000000 ∧ VL l ∧ ow.length = 64 ∧ ∀ n, cnt ow n ≤ limitL l n
theorem cnt_take_le (ow : List Int) (j : Nat) (n : Int) : cnt (ow.take j) n ≤ cnt ow n := by
  have : cnt ow n = cnt (ow.take j) n + cnt (ow.drop j) n := by rw [← cnt_append, List.take_append_drop]
  have := cnt_nn (ow.drop j) n
  omega
theorem cnt_take_succ {ow : List Int} {j : Nat} {x : Int} (h : ow[j]? = some x) (n : Int) : cnt (ow.take (j + 1)) n = cnt (ow.take j) n + if n = x then 1 else 0 := by
  rw [List.take_add_one, h]
  exact cnt_snoc _ _ _
theorem cnt_pos_mem {ow : List Int} {n : Int} (h : 0 < cnt ow n) : n ∈ ow := by
  unfold cnt at h
  exact List.count_pos_iff.1 (by omega)
theorem mem_cnt_pos {ow : List Int} {n : Int} (h : n ∈ ow) : 1 ≤ cnt ow n := by
  unfold cnt
  have := List.count_pos_iff.2 h
  omega
end Go.Proofs.YtiacdkggbnoigaaGreatDoor

/-
  A further member in its place; other regions and weights; owners that are changed.
-/
namespace Go.Proofs.YtiacdkggbnoigaaGreatDoor

/-! ### a further member -/
def loM (l : List Mb) (n : Int) : List Mb := l.filter (fun x => decide (x.node < n))
def hiM (l : List Mb) (n : Int) : List Mb := l.filter (fun x => decide (n < x.node))
/-- What is built so far: the further member is there if one behind it is. -/
def withM (l : List Mb) (m : Mb) : List Mb := loM l m.node ++ (if (hiM l m.node).length = 0 then [] else m :: hiM l m.node)
def moreM (l : List Mb) (m : Mb) : List Mb := loM l m.node ++ m :: hiM l m.node
theorem withM_nil (m : Mb) : withM [] m = [] := by simp [withM, loM, hiM]
theorem hiM_nil (n : Int) : (hiM [] n).length = 0 := by simp [hiM]
theorem loM_snoc (l : List Mb) (x : Mb) (n : Int) : loM (l ++ [x]) n = loM l n ++ (if x.node < n then [x] else []) := by
  unfold loM
  rw [List.filter_append]
  by_cases h : x.node < n <;> simp [h]
theorem hiM_snoc (l : List Mb) (x : Mb) (n : Int) : hiM (l ++ [x]) n = hiM l n ++ (if n < x.node then [x] else []) := by
  unfold hiM
  rw [List.filter_append]
  by_cases h : n < x.node <;> simp [h]
theorem withM_lt {l : List Mb} {x m : Mb} (hx : x.node < m.node) (ha : ∀ y ∈ l, y.node < x.node) : (hiM (l ++ [x]) m.node).length = 0 ∧ withM (l ++ [x]) m = withM l m ++ [x] := by
  have h0 : hiM l m.node = [] := by
    unfold hiM
    rw [List.filter_eq_nil_iff]
    intro y hy
    have := ha y hy
    simp; omega
  have h1 : hiM (l ++ [x]) m.node = [] := by rw [hiM_snoc, h0, if_neg (by omega)]; rfl
  refine ⟨by rw [h1]; rfl, ?_⟩
  unfold withM
  rw [h1, h0, loM_snoc, if_pos hx]
  simp
theorem withM_first {l : List Mb} {x m : Mb} (hx : m.node < x.node) (h0 : (hiM l m.node).length = 0) : (hiM (l ++ [x]) m.node).length ≠ 0 ∧ withM (l ++ [x]) m = withM l m ++ [m] ++ [x] := by
  have h0' : hiM l m.node = [] := List.eq_nil_of_length_eq_zero h0
  have h1 : hiM (l ++ [x]) m.node = [x] := by rw [hiM_snoc, h0', if_pos hx]; rfl
  refine ⟨by rw [h1]; simp, ?_⟩
  unfold withM
  rw [h1, h0', loM_snoc, if_neg (by omega)]
  simp
theorem withM_next {l : List Mb} {x m : Mb} (hx : m.node < x.node) (h0 : (hiM l m.node).length ≠ 0) : (hiM (l ++ [x]) m.node).length ≠ 0 ∧ withM (l ++ [x]) m = withM l m ++ [x] := by
  have h1 : hiM (l ++ [x]) m.node = hiM l m.node ++ [x] := by rw [hiM_snoc, if_pos hx]
  have h2 : (hiM (l ++ [x]) m.node).length ≠ 0 := by rw [h1]; simp
  refine ⟨h2, ?_⟩
  unfold withM
  rw [if_neg h2, if_neg h0, h1, loM_snoc, if_neg (by omega)]
  simp
theorem withM_end0 {l : List Mb} {m : Mb} (h0 : (hiM l m.node).length = 0) : withM l m ++ [m] = moreM l m := by
  unfold withM moreM
  rw [if_pos h0, List.eq_nil_of_length_eq_zero h0]
  simp
theorem withM_end1 {l : List Mb} {m : Mb} (h0 : (hiM l m.node).length ≠ 0) : withM l m = moreM l m := by
  unfold withM moreM
  rw [if_neg h0]
theorem withM_len (l : List Mb) (m : Mb) : (withM l m).length ≤ 2 * l.length := by
  have h1 : (loM l m.node).length ≤ l.length := List.length_filter_le _ _
  have h2 : (hiM l m.node).length ≤ l.length := List.length_filter_le _ _
  have h3 : (loM l m.node).length + (hiM l m.node).length ≤ l.length := by
    clear h1 h2
    induction l with
    | nil => simp [loM, hiM]
    | cons a l ih =>
      unfold loM hiM at ih ⊢
      rw [List.filter_cons, List.filter_cons]
      by_cases ha : a.node < m.node
      · have hb : ¬ m.node < a.node := by omega
        simp [ha, hb]; omega
      · by_cases hb : m.node < a.node <;> simp [ha, hb] <;> omega
  unfold withM
  rw [List.length_append]
  split
  · simp; omega
  · simp only [List.length_cons]; omega
theorem split_lo_hi : ∀ {l : List Mb}, l.Pairwise (fun a b => a.node < b.node) → ∀ (n : Int), (∀ x ∈ l, x.node ≠ n) → l = loM l n ++ hiM l n
  | [], _, _, _ => by simp [loM, hiM]
  | a :: l, h, n, hn => by
    rw [List.pairwise_cons] at h
    have hne := hn a (by simp)
    have ih := split_lo_hi h.2 n (fun x hx => hn x (by simp [hx]))
    by_cases ha : a.node < n
    · have e1 : loM (a :: l) n = a :: loM l n := by unfold loM; rw [List.filter_cons_of_pos (by simpa using ha)]
      have e2 : hiM (a :: l) n = hiM l n := by unfold hiM; rw [List.filter_cons_of_neg (by simp; omega)]
      rw [e1, e2, List.cons_append, ← ih]
    · have e1 : loM (a :: l) n = [] := by
        unfold loM
        rw [List.filter_eq_nil_iff]
        intro y hy
        rcases List.mem_cons.1 hy with rfl | hy
        · simpa using ha
        · have := h.1 y hy; simp; omega
      have e2 : hiM (a :: l) n = a :: l := by
        unfold hiM
        rw [List.filter_eq_self]
        intro y hy
        rcases List.mem_cons.1 hy with rfl | hy
        · simp; omega
        · have := h.1 y hy; simp; omega
      rw [e1, e2, List.nil_append]
theorem moreM_ok {l : List Mb} {m : Mb} (h : VL l) (hm : okMb m) : VL (moreM l m) := by
  refine ⟨fun x hx => ?_, ?_, by unfold moreM; simp⟩
  · unfold moreM loM hiM at hx
    rcases List.mem_append.1 hx with hx | hx
    · exact h.ok x (List.mem_filter.1 hx).1
    · rcases List.mem_cons.1 hx with rfl | hx
      · exact hm
      · exact h.ok x (List.mem_filter.1 hx).1
  · unfold moreM loM hiM
    rw [List.pairwise_append, List.pairwise_cons]
    refine ⟨h.asc.sublist List.filter_sublist, ⟨fun x hx => ?_, h.asc.sublist List.filter_sublist⟩, fun x hx y hy => ?_⟩
    · simpa using (List.mem_filter.1 hx).2
    · have h1 : x.node < m.node := by simpa using (List.mem_filter.1 hx).2
      rcases List.mem_cons.1 hy with rfl | hy
      · exact h1
      · have h2 : m.node < y.node := by simpa using (List.mem_filter.1 hy).2
        omega
theorem consistentM (P : Int → Nat → Int) (Q : Nat → Int) {l : List Mb} {m : Mb} (h : VL l) (hm : VL (moreM l m)) (hn : ∀ x ∈ l, x.node ≠ m.node)
    (hf : ∀ x ∈ l, cnt (ownersL P Q l) x.node < limitL l x.node) (hf' : ∀ x ∈ moreM l m, cnt (ownersL P Q (moreM l m)) x.node < limitL (moreM l m) x.node)
    {s : Nat} (hs : s < 64) : ∃ x y, (ownersL P Q l)[s]? = some x ∧ (ownersL P Q (moreM l m))[s]? = some y ∧ (y = x ∨ y = m.node) := by
  have e := split_lo_hi h.asc m.node hn
  unfold moreM at hm hf' ⊢
  revert hm hf' e
  generalize loM l m.node = a
  generalize hiM l m.node = b
  intro hm hf' e
  subst e
  exact consistent P Q h hm hn hf hf' hs
def freeB (l : List Mb) (ow : List Int) : Bool := l.all (fun m => decide (cnt ow m.node < limitL l m.node))
theorem freeB_iff (l : List Mb) (ow : List Int) : freeB l ow = true ↔ ∀ m ∈ l, cnt ow m.node < limitL l m.node := by
  unfold freeB
  rw [List.all_eq_true]
  exact ⟨fun h m hm => by simpa using h m hm, fun h m hm => by simpa using h m hm⟩

/-! ### other regions and weights -/
/-- Behind k members: lo has other regions, the first k of lh have t times the weight. -/
structure RegSt (l lo lh : List Mb) (t : Int) (k : Nat) : Prop where
  lenO : lo.length = l.length
  lenH : lh.length = l.length
  o : ∀ (i : Nat) (m : Mb), l[i]? = some m → ∃ r, lo[i]? = some ⟨m.node, r, m.weight⟩ ∧ 0 ≤ r ∧ r ≤ 3
  h : ∀ (i : Nat) (m : Mb), l[i]? = some m → lh[i]? = some (if i < k then ⟨m.node, m.region, t * m.weight⟩ else m)
  w : ∀ (i : Nat) (m : Mb), i < k → l[i]? = some m → t * m.weight ≤ 16
theorem RegSt.start {l : List Mb} (hv : VL l) (t : Int) : RegSt l l l t 0 :=
  ⟨rfl, rfl, fun i m hm => ⟨m.region, hm, by have := hv.ok m (List.mem_of_getElem? hm); unfold okMb at this; omega⟩, fun i m hm => by rw [if_neg (by omega)]; exact hm, fun i m h => absurd h (by omega)⟩
theorem RegSt.region {l lo lh : List Mb} {t : Int} {k i : Nat} {m : Mb} (h : RegSt l lo lh t k) (hm : l[i]? = some m) {r : Int} (hr : 0 ≤ r ∧ r ≤ 3) : RegSt l (lo.set i ⟨m.node, r, m.weight⟩) lh t k := by
  refine ⟨by rw [List.length_set]; exact h.lenO, h.lenH, fun j x hx => ?_, h.h, h.w⟩
  by_cases e : i = j
  · subst e
    rw [hm] at hx
    cases hx
    have : i < lo.length := by rw [h.lenO]; exact (List.getElem?_eq_some_iff.1 hm).1
    exact ⟨r, by rw [List.getElem?_set_self this], hr⟩
  · rw [List.getElem?_set_ne e]
    exact h.o j x hx
theorem RegSt.heavy {l lo lh : List Mb} {t : Int} {k : Nat} {m : Mb} (h : RegSt l lo lh t k) (hm : l[k]? = some m) (hw : t * m.weight ≤ 16) : RegSt l lo (lh.set k ⟨m.node, m.region, t * m.weight⟩) t (k + 1) := by
  refine ⟨h.lenO, by rw [List.length_set]; exact h.lenH, h.o, fun j x hx => ?_, fun j x hj hx => ?_⟩
  · by_cases e : k = j
    · subst e
      rw [hm] at hx
      cases hx
      have : k < lh.length := by rw [h.lenH]; exact (List.getElem?_eq_some_iff.1 hm).1
      rw [List.getElem?_set_self this, if_pos (by omega)]
    · rw [List.getElem?_set_ne e, h.h j x hx]
      by_cases hj : j < k
      · rw [if_pos hj, if_pos (by omega)]
      · rw [if_neg hj, if_neg (by omega)]
  · by_cases e : j = k
    · subst e
      rw [hm] at hx
      cases hx
      exact hw
    · exact h.w j x (by omega) hx
theorem RegSt.mapO {l lo lh : List Mb} {t : Int} {k : Nat} (h : RegSt l lo lh t k) : l.map (fun m => (m.node, m.weight)) = lo.map (fun m => (m.node, m.weight)) := by
  apply List.ext_getElem?
  intro i
  rw [List.getElem?_map, List.getElem?_map]
  cases hm : l[i]? with
  | none =>
    have : lo[i]? = none := by rw [List.getElem?_eq_none_iff] at hm ⊢; rw [h.lenO]; exact hm
    rw [this]
  | some m =>
    obtain ⟨r, hr, _⟩ := h.o i m hm
    rw [hr]; rfl
theorem pairwise_map_node {l l' : List Mb} (h : l.Pairwise (fun a b => a.node < b.node)) (e : l.map Mb.node = l'.map Mb.node) : l'.Pairwise (fun a b => a.node < b.node) := by
  have h1 : (l.map Mb.node).Pairwise (fun a b => a < b) := by rw [List.pairwise_map]; exact h
  rw [e, List.pairwise_map] at h1
  exact h1
theorem RegSt.okO {l lo lh : List Mb} {t : Int} {k : Nat} (h : RegSt l lo lh t k) (hv : VL l) : VL lo := by
  have hmap := h.mapO
  refine ⟨fun x hx => ?_, pairwise_map_node hv.asc ?_, fun e => ?_⟩
  · obtain ⟨i, hi⟩ := List.mem_iff_getElem?.1 hx
    have hl : i < l.length := by rw [← h.lenO]; exact (List.getElem?_eq_some_iff.1 hi).1
    obtain ⟨r, hr, h0, h3⟩ := h.o i _ (List.getElem?_eq_getElem hl)
    rw [hi] at hr
    cases hr
    have := hv.ok _ (List.getElem_mem hl)
    unfold okMb at this ⊢
    exact ⟨this.1, this.2.1, h0, h3, this.2.2.2.2⟩
  · have := congrArg (List.map Prod.fst) hmap
    simpa [List.map_map, Function.comp_def] using this
  · have h1 := h.lenO
    rw [e] at h1
    exact hv.ne (List.eq_nil_of_length_eq_zero h1.symm)
def scaled (l : List Mb) (t : Int) : List Mb := l.map (fun m => ⟨m.node, m.region, t * m.weight⟩)
theorem RegSt.all {l lo lh : List Mb} {t : Int} {k : Nat} (h : RegSt l lo lh t k) (hk : l.length ≤ k) : lh = scaled l t := by
  apply List.ext_getElem?
  intro i
  unfold scaled
  rw [List.getElem?_map]
  cases hm : l[i]? with
  | none =>
    have : lh[i]? = none := by rw [List.getElem?_eq_none_iff] at hm ⊢; rw [h.lenH]; exact hm
    rw [this]; rfl
  | some m =>
    have hi : i < l.length := (List.getElem?_eq_some_iff.1 hm).1
    rw [h.h i m hm, if_pos (by omega)]; rfl
theorem wsum_scaled (t : Int) : ∀ l, wsum (scaled l t) = t * wsum l
  | [] => by simp [scaled, wsum]
  | m :: l => by
    have := wsum_scaled t l
    unfold scaled at this ⊢
    simp only [List.map_cons, wsum]
    rw [this, Int.mul_add]
theorem scaled_ok {l : List Mb} {t : Int} (hv : VL l) (ht : 1 ≤ t) (hw : ∀ m ∈ l, t * m.weight ≤ 16) : VL (scaled l t) := by
  refine ⟨fun x hx => ?_, pairwise_map_node hv.asc (by unfold scaled; rw [List.map_map]; rfl), fun e => ?_⟩
  · unfold scaled at hx
    obtain ⟨m, hm, rfl⟩ := List.mem_map.1 hx
    have h1 := hv.ok m hm
    have h2 := hw m hm
    unfold okMb at h1 ⊢
    have h3 : 1 * 1 ≤ t * m.weight := Int.mul_le_mul ht (by omega) (by omega) (by omega)
    exact ⟨h1.1, h1.2.1, h1.2.2.1, h1.2.2.2.1, by simp only []; omega, h2⟩
  · unfold scaled at e
    exact hv.ne (List.map_eq_nil_iff.1 e)
theorem limitL_scaled {l : List Mb} {t : Int} (hv : VL l) (hs : VL (scaled l t)) (ht : 1 ≤ t) (n : Int) : limitL (scaled l t) n = limitL l n := by
  by_cases hn : ∃ m ∈ l, m.node = n
  · obtain ⟨m, hm, rfl⟩ := hn
    have h1 : (⟨m.node, m.region, t * m.weight⟩ : Mb) ∈ scaled l t := List.mem_map.2 ⟨m, hm, rfl⟩
    have h2 := limitL_mem hs h1
    simp only [] at h2
    rw [h2, limitL_mem hv hm, wsum_scaled]
    exact limit_scaled ht hv.wsum.1
  · rw [limitL_none (fun m hm e => hn ⟨m, hm, e⟩), limitL_none]
    intro x hx e
    obtain ⟨m, hm, rfl⟩ := List.mem_map.1 hx
    exact hn ⟨m, hm, e⟩

/-! ### owners that are changed -/
theorem cnt_set {ow : List Int} {s : Nat} {was : Int} (h : ow[s]? = some was) (n q : Int) : cnt (ow.set s n) q = cnt ow q - (if q = was then 1 else 0) + (if q = n then 1 else 0) := by
  induction ow generalizing s with
  | nil => simp at h
  | cons a ow ih =>
    cases s with
    | zero =>
      simp only [List.getElem?_cons_zero, Option.some.injEq] at h
      subst h
      rw [List.set_cons_zero]
      have e1 := cnt_append [n] ow q
      have e2 := cnt_append [a] ow q
      have e3 := cnt_snoc [] n q
      have e4 := cnt_snoc [] a q
      simp only [List.singleton_append, List.nil_append] at e1 e2 e3 e4
      have e5 : cnt [] q = 0 := by simp [cnt]
      omega
    | succ s =>
      simp only [List.getElem?_cons_succ] at h
      rw [List.set_cons_succ]
      have e1 := cnt_append [a] (ow.set s n) q
      have e2 := cnt_append [a] ow q
      simp only [List.singleton_append] at e1 e2
      have := ih h
      omega
theorem okRing_set {ep : Int} {l : List Mb} {ow : List Int} {s : Nat} {was n : Int} (h : okRing ep l ow) (hs : ow[s]? = some was) : okRing ep l (ow.set s n) ↔ cnt (ow.set s n) n ≤ limitL l n := by
  unfold okRing at h ⊢
  obtain ⟨h1, h2, h3, h4, h5⟩ := h
  constructor
  · intro h; exact h.2.2.2.2 n
  · intro hn
    refine ⟨h1, h2, h3, by rw [List.length_set]; exact h4, fun q => ?_⟩
    by_cases e : q = n
    · subst e; exact hn
    · have := cnt_set hs n q
      rw [if_neg e] at this
      have := h5 q
      split at * <;> omega
theorem cnt_replicate (k : Nat) (n q : Int) : cnt (List.replicate k n) q = if q = n then (k : Int) else 0 := by
  unfold cnt
  rw [List.count_replicate]
  by_cases e : q = n
  · subst e; simp
  · have : ¬ (n = q) := fun h => e h.symm
    simp [e, this]
theorem okRing_all {ep : Int} {l : List Mb} {n : Int} (h1 : 1 ≤ ep) (h2 : ep ≤ 1000000) (h3 : VL l) : okRing ep l (List.replicate 64 n) ↔ 64 ≤ limitL l n := by
  unfold okRing
  constructor
  · rintro ⟨-, -, -, -, h⟩
    have := h n
    rw [cnt_replicate, if_pos rfl] at this
    exact this
  · intro h
    refine ⟨h1, h2, h3, by simp, fun q => ?_⟩
    rw [cnt_replicate]
    by_cases e : q = n
    · rw [if_pos e, e]; exact h
    · rw [if_neg e]; exact (limitL_nn l q).1
end Go.Proofs.YtiacdkggbnoigaaGreatDoor

/-
  The next ring: what a change keeps, moves and names.
-/
namespace Go.Proofs.YtiacdkggbnoigaaGreatDoor

/-- The owners that the first k slots keep; -1: none. -/
def keepR (ow : List Int) (g : Int → Int) : Nat → List Int
  | 0 => []
  | k + 1 => keepR ow g k ++ [if cnt (keepR ow g k) (ow.getD k 0) < g (ow.getD k 0) then ow.getD k 0 else -1]
theorem keepR_len (ow : List Int) (g : Int → Int) : ∀ k, (keepR ow g k).length = k
  | 0 => rfl
  | k + 1 => by simp [keepR, keepR_len ow g k]
theorem keepR_succ (ow : List Int) (g : Int → Int) (k : Nat) : keepR ow g (k + 1) = keepR ow g k ++ [if cnt (keepR ow g k) (ow.getD k 0) < g (ow.getD k 0) then ow.getD k 0 else -1] := rfl
theorem keepR_get {ow : List Int} {g : Int → Int} : ∀ {k s : Nat}, s < k → (keepR ow g k)[s]? = some (if cnt (keepR ow g s) (ow.getD s 0) < g (ow.getD s 0) then ow.getD s 0 else -1)
  | 0, _, h => by omega
  | k + 1, s, h => by
    rw [keepR_succ]
    by_cases e : s < k
    · rw [List.getElem?_append_left (by rw [keepR_len]; exact e)]; exact keepR_get e
    · obtain rfl : s = k := by omega
      rw [List.getElem?_append_right (by rw [keepR_len]; exact Nat.le_refl _), keepR_len, Nat.sub_self]; rfl
/-- How many it keeps. -/
theorem keepR_cnt {ow : List Int} {g : Int → Int} (hg : ∀ n, 0 ≤ g n) {n : Int} (hn : n ≠ -1) : ∀ {k : Nat}, k ≤ ow.length → cnt (keepR ow g k) n = min (g n) (cnt (ow.take k) n)
  | 0, _ => by have := hg n; simp [keepR, cnt]; omega
  | k + 1, h => by
    have ih := keepR_cnt hg hn (show k ≤ ow.length by omega)
    obtain ⟨x, hx⟩ : ∃ x, ow[k]? = some x := ⟨_, List.getElem?_eq_getElem (by omega)⟩
    have e : ow.getD k 0 = x := by rw [List.getD_eq_getElem?_getD, hx]; rfl
    rw [keepR_succ, cnt_snoc, cnt_take_succ hx, e]
    have hn2 : ¬ n = -1 := hn
    by_cases hxn : n = x
    · subst hxn
      rw [if_pos (rfl : n = n)]
      by_cases hlt : cnt (keepR ow g k) n < g n
      · rw [if_pos hlt, if_pos (rfl : n = n)]; omega
      · rw [if_neg hlt, if_neg hn2]; omega
    · rw [if_neg hxn]
      by_cases hlt : cnt (keepR ow g k) x < g x
      · rw [if_pos hlt, if_neg hxn]; omega
      · rw [if_neg hlt, if_neg hn2]; omega
theorem keepR_all {ow : List Int} {g : Int → Int} (h : ∀ n, cnt ow n ≤ g n) : ∀ {k : Nat}, k ≤ ow.length → keepR ow g k = ow.take k
  | 0, _ => rfl
  | k + 1, hk => by
    obtain ⟨x, hx⟩ : ∃ x, ow[k]? = some x := ⟨_, List.getElem?_eq_getElem (by omega)⟩
    have e : ow.getD k 0 = x := by rw [List.getD_eq_getElem?_getD, hx]; rfl
    rw [keepR_succ, keepR_all h (by omega), e, if_pos, List.take_add_one, hx]
    · rfl
    · have h1 := cnt_take_succ hx x
      rw [if_pos rfl] at h1
      have h2 := cnt_take_le ow (k + 1) x
      have h3 := h x
      omega

/-- The slots without an owner. -/
def homeL (R : List Int) : List Nat := (List.range R.length).filter (fun s => decide (R[s]? = some (-1)))
theorem homeL_snoc (R : List Int) (x : Int) : homeL (R ++ [x]) = homeL R ++ if x = -1 then [R.length] else [] := by
  unfold homeL
  rw [List.length_append, List.length_singleton, List.range_succ, List.filter_append]
  congr 1
  · apply List.filter_congr
    intro s hs
    rw [List.getElem?_append_left (List.mem_range.1 hs)]
  · simp only [List.filter_cons, List.filter_nil]
    rw [List.getElem?_append_right (Nat.le_refl _), Nat.sub_self]
    by_cases e : x = -1 <;> simp [e]
theorem mem_homeL {R : List Int} {s : Nat} : s ∈ homeL R ↔ R[s]? = some (-1) := by
  unfold homeL
  rw [List.mem_filter, List.mem_range, decide_eq_true_eq]
  exact ⟨fun h => h.2, fun h => ⟨(List.getElem?_eq_some_iff.1 h).1, h⟩⟩
theorem homeL_len (R : List Int) : (homeL R).length ≤ R.length := by
  unfold homeL
  exact Nat.le_trans (List.length_filter_le _ _) (by simp)
theorem homeL_nodup (R : List Int) : (homeL R).Nodup := List.Nodup.sublist List.filter_sublist List.nodup_range
theorem homeL_asc (R : List Int) : (homeL R).Pairwise (· < ·) := List.Pairwise.sublist List.filter_sublist List.pairwise_lt_range

section
variable (ord : Nat → List Int) (g : Int → Int)
/-- A slot gets the first owner that has room. -/
def placeS (R : List Int) (s : Nat) : List Int := match firstN (fun n => g n - cnt R n) (ord s) with
  | some n => R.set s n
  | none => R
def placeL (hs : List Nat) (R : List Int) : List Int := hs.foldl (placeS ord g) R
theorem placeL_snoc (hs : List Nat) (s : Nat) (R : List Int) : placeL ord g (hs ++ [s]) R = placeS ord g (placeL ord g hs R) s := by unfold placeL; rw [List.foldl_append]; rfl
theorem placeL_take {hs : List Nat} {k s : Nat} (h : hs[k]? = some s) (R : List Int) : placeL ord g (hs.take (k + 1)) R = placeS ord g (placeL ord g (hs.take k) R) s := by
  rw [List.take_add_one, h]; exact placeL_snoc ord g _ _ _
theorem placeS_len (R : List Int) (s : Nat) : (placeS ord g R s).length = R.length := by unfold placeS; split <;> simp
theorem placeL_len (R : List Int) : ∀ (hs : List Nat), (placeL ord g hs R).length = R.length := by
  intro hs
  induction hs generalizing R with
  | nil => rfl
  | cons s hs ih => show (placeL ord g hs (placeS ord g R s)).length = _; rw [ih, placeS_len]
theorem placeS_other (R : List Int) {s q : Nat} (h : q ≠ s) : (placeS ord g R s)[q]? = R[q]? := by
  unfold placeS
  split
  · exact List.getElem?_set_ne (fun e => h e.symm)
  · rfl
theorem placeL_other {q : Nat} : ∀ (hs : List Nat) (R : List Int), q ∉ hs → (placeL ord g hs R)[q]? = R[q]? := by
  intro hs
  induction hs with
  | nil => intro R _; rfl
  | cons s hs ih =>
    intro R h
    simp only [List.mem_cons, not_or] at h
    show (placeL ord g hs (placeS ord g R s))[q]? = _
    rw [ih _ h.2, placeS_other ord g R h.1]
/-- Slot after slot, where none has been named. -/
def placeA (R : List Int) : Nat → List Int
  | 0 => R
  | k + 1 => if (placeA R k)[k]? = some (-1) then placeS ord g (placeA R k) k else placeA R k
theorem placeA_eq (R : List Int) : ∀ k, placeA ord g R k = placeL ord g ((List.range k).filter (fun s => decide (R[s]? = some (-1)))) R
  | 0 => rfl
  | k + 1 => by
    unfold placeA
    rw [placeA_eq R k, List.range_succ, List.filter_append]
    have h : (placeL ord g ((List.range k).filter (fun s => decide (R[s]? = some (-1)))) R)[k]? = R[k]? := placeL_other ord g _ _ (fun h => by
      have := List.mem_range.1 (List.mem_filter.1 h).1
      omega)
    rw [h]
    by_cases e : R[k]? = some (-1)
    · rw [if_pos e]
      simp only [List.filter_cons, e, decide_true, List.filter_nil, if_true]
      exact (placeL_snoc ord g _ _ _).symm
    · rw [if_neg e]
      simp only [List.filter_cons, e, decide_false, List.filter_nil, Bool.false_eq_true, if_false, List.append_nil]
end

/-- Owners of which some are none. -/
structure RowK (g : Int → Int) (ns : List Int) (R : List Int) : Prop where
  len : R.length = 64
  le : ∀ n, n ≠ -1 → cnt R n ≤ g n
  mem : ∀ n ∈ R, n ≠ -1 → n ∈ ns
theorem place_ok {ord : Nat → List Int} {g : Int → Int} {ns : List Int} (hn : ns.Nodup) (hneg : ∀ n ∈ ns, n ≠ -1) (hord : ∀ s n, n ∈ ord s ↔ n ∈ ns) (hsum : 64 < sumF g ns) {R : List Int} (h : RowK g ns R) {s : Nat} (hs : R[s]? = some (-1)) :
    ∃ n, firstN (fun n => g n - cnt R n) (ord s) = some n ∧ n ∈ ns ∧ cnt R n < g n ∧ RowK g ns (R.set s n) := by
  have h2 : sumF (fun n => g n - cnt R n) ns = sumF g ns - sumF (cnt R) ns := sumF_sub _ _ _
  have h3 := sumF_cnt ns hn R
  obtain ⟨n, hn1, hn2⟩ := sumF_pos (fun n => g n - cnt R n) ns (by rw [h2, ]; have := h.len; omega)
  cases hf : firstN (fun n => g n - cnt R n) (ord s) with
  | none =>
    unfold firstN at hf
    rw [List.find?_eq_none] at hf
    have := hf n ((hord s n).2 hn1)
    simp at this
    omega
  | some m =>
    obtain ⟨hm1, hm2⟩ := firstN_some hf
    have hmn := (hord s m).1 hm1
    have hm3 := hneg m hmn
    refine ⟨m, rfl, hmn, by omega, by simp [h.len], fun q hq => ?_, fun q hq hq1 => ?_⟩
    · rw [cnt_set hs]
      have := h.le q hq
      rw [if_neg hq]
      split
      · rename_i e; subst e; omega
      · omega
    · rcases List.mem_or_eq_of_mem_set hq with hq | rfl
      · exact h.mem q hq hq1
      · exact hmn

/-- The owners of the next ring. -/
def changeL (P : Int → Nat → Int) (Q : Nat → Int) (l : List Mb) (ow : List Int) : List Int :=
  placeL (fun s => ords P l (Q s)) (limitL l) (homeL (keepR ow (limitL l) 64)) (keepR ow (limitL l) 64)
section
variable (P : Int → Nat → Int) (Q : Nat → Int)
theorem VL.node {l : List Mb} (h : VL l) : ∀ n ∈ l.map Mb.node, 0 ≤ n ∧ n ≤ 23 := fun n hn => by
  obtain ⟨m, hm, rfl⟩ := List.mem_map.1 hn
  have := h.ok m hm
  unfold okMb at this
  omega
theorem keepR_mem {l : List Mb} {ow : List Int} {k : Nat} : ∀ n ∈ keepR ow (limitL l) k, n ≠ -1 → n ∈ l.map Mb.node := by
  intro n hn h1
  obtain ⟨s, hs⟩ := List.mem_iff_getElem?.1 hn
  have hsk : s < k := by have := (List.getElem?_eq_some_iff.1 hs).1; rwa [keepR_len] at this
  rw [keepR_get hsk] at hs
  simp only [Option.some.injEq] at hs
  split at hs
  · rename_i hlt
    subst hs
    have h0 := cnt_nn (keepR ow (limitL l) s) (ow.getD s 0)
    by_cases e : ∃ m ∈ l, m.node = ow.getD s 0
    · obtain ⟨m, hm, e⟩ := e
      exact List.mem_map.2 ⟨m, hm, e⟩
    · rw [limitL_none (fun m hm e' => e ⟨m, hm, e'⟩)] at hlt
      omega
  · exact absurd hs.symm h1
theorem keep_row {l : List Mb} {ow : List Int} (hl : ow.length = 64) : RowK (limitL l) (l.map Mb.node) (keepR ow (limitL l) 64) :=
  ⟨keepR_len _ _ _, fun n hn => by rw [keepR_cnt (fun n => (limitL_nn l n).1) hn (by omega)]; omega, keepR_mem⟩
/-- Behind each placement there is a row; what has been named stays. -/
theorem place_row {l : List Mb} (h : VL l) {ow : List Int} (hl : ow.length = 64) : ∀ (k : Nat), k ≤ (homeL (keepR ow (limitL l) 64)).length →
    RowK (limitL l) (l.map Mb.node) (placeL (fun s => ords P l (Q s)) (limitL l) ((homeL (keepR ow (limitL l) 64)).take k) (keepR ow (limitL l) 64)) ∧
    (∀ (i : Nat) s, i < k → (homeL (keepR ow (limitL l) 64))[i]? = some s → ∃ n, (placeL (fun s => ords P l (Q s)) (limitL l) ((homeL (keepR ow (limitL l) 64)).take k) (keepR ow (limitL l) 64))[s]? = some n ∧ n ≠ -1 ∧ n ≠ ow.getD s 0) ∧
    ∀ n, n ≠ -1 → cnt (keepR ow (limitL l) 64) n ≤ cnt (placeL (fun s => ords P l (Q s)) (limitL l) ((homeL (keepR ow (limitL l) 64)).take k) (keepR ow (limitL l) 64)) n
  | 0, _ => ⟨keep_row hl, fun i s hi => by omega, fun n _ => Int.le_refl _⟩
  | k + 1, hk => by
    obtain ⟨h1, h2, h3⟩ := place_row h hl k (by omega)
    obtain ⟨s, hs⟩ : ∃ s, (homeL (keepR ow (limitL l) 64))[k]? = some s := ⟨_, List.getElem?_eq_getElem (by omega)⟩
    rw [placeL_take _ _ hs]
    have hneg := mem_homeL.1 (List.mem_of_getElem? hs)
    have hnd := homeL_nodup (keepR ow (limitL l) 64)
    have hnot : s ∉ (homeL (keepR ow (limitL l) 64)).take k := fun hm => by
      obtain ⟨j, hj⟩ := List.mem_iff_getElem?.1 hm
      have hjk : j < k := by have := (List.getElem?_eq_some_iff.1 hj).1; rw [List.length_take] at this; omega
      rw [List.getElem?_take_of_lt hjk] at hj
      obtain ⟨a1, a2⟩ := List.getElem?_eq_some_iff.1 hj
      obtain ⟨b1, b2⟩ := List.getElem?_eq_some_iff.1 hs
      have := (List.getElem_inj hnd).1 (a2.trans b2.symm)
      omega
    have hs1 := placeL_other (fun s => ords P l (Q s)) (limitL l) _ (keepR ow (limitL l) 64) hnot
    rw [hneg] at hs1
    generalize placeL (fun s => ords P l (Q s)) (limitL l) ((homeL (keepR ow (limitL l) 64)).take k) (keepR ow (limitL l) 64) = R at *
    obtain ⟨n, hf, hm, hlt, hrow⟩ := place_ok (ord := fun s => ords P l (Q s)) h.nodup (fun n hn => by have := h.node n hn; omega) (fun s n => by rw [mem_ords P h, List.mem_map]) (by have := limit_sum h; omega) h1 hs1
    have hn0 := h.node n hm
    have e : placeS (fun s => ords P l (Q s)) (limitL l) R s = R.set s n := by unfold placeS; rw [hf]
    rw [e]
    have hsl : s < R.length := (List.getElem?_eq_some_iff.1 hs1).1
    refine ⟨hrow, fun i q hi hq => ?_, fun q hq => ?_⟩
    · by_cases hik : i = k
      · subst hik
        rw [hs] at hq
        cases hq
        refine ⟨n, List.getElem?_set_self hsl, by omega, fun en => ?_⟩
        -- no room for the old owner
        have hs64 : s < 64 := by have := h1.len; omega
        have h5 := keepR_get (ow := ow) (g := limitL l) hs64
        rw [hneg] at h5
        simp only [Option.some.injEq] at h5
        rw [← en] at h5
        split at h5
        · omega
        · rename_i hge
          have h6 : cnt (keepR ow (limitL l) s) n ≤ cnt (keepR ow (limitL l) 64) n := by
            rw [keepR_cnt (fun n => (limitL_nn l n).1) (by omega) (by omega), keepR_cnt (fun n => (limitL_nn l n).1) (by omega) (by omega)]
            have : cnt (ow.take s) n ≤ cnt (ow.take 64) n := by
              have := cnt_take_le (ow.take 64) s n
              rwa [List.take_take, Nat.min_eq_left (by omega)] at this
            omega
          have h7 := h3 n (by omega)
          omega
      · obtain ⟨m, a1, a2, a3⟩ := h2 i q (by omega) hq
        have hne : q ≠ s := fun e => by
          subst e
          obtain ⟨a1, a2⟩ := List.getElem?_eq_some_iff.1 hq
          obtain ⟨b1, b2⟩ := List.getElem?_eq_some_iff.1 hs
          have := (List.getElem_inj hnd).1 (a2.trans b2.symm)
          omega
        exact ⟨m, by rw [List.getElem?_set_ne (fun e => hne e.symm)]; exact a1, a2, a3⟩
    · have := h3 q hq
      rw [cnt_set hs1, if_neg hq]
      split <;> omega

theorem change_len {l : List Mb} (h : VL l) {ow : List Int} (hl : ow.length = 64) : (changeL P Q l ow).length = 64 := by
  have := (place_row P Q h hl (homeL (keepR ow (limitL l) 64)).length (Nat.le_refl _)).1.len
  rwa [List.take_length] at this
/-- A slot keeps its owner, or goes to another one. -/
theorem change_at {l : List Mb} (h : VL l) {ow : List Int} (hl : ow.length = 64) {s : Nat} (hs : s < 64) : ∃ n, (changeL P Q l ow)[s]? = some n ∧ n ≠ -1 ∧
    ((keepR ow (limitL l) 64)[s]? = some (-1) ∧ n ≠ ow.getD s 0 ∨ (keepR ow (limitL l) 64)[s]? = some n ∧ (n = ow.getD s 0)) ∨ ow.getD s 0 = -1 := by
  by_cases hm1 : ow.getD s 0 = -1
  · exact ⟨0, .inr hm1⟩
  obtain ⟨h1, h2, h3⟩ := place_row P Q h hl (homeL (keepR ow (limitL l) 64)).length (Nat.le_refl _)
  rw [List.take_length] at h1 h2
  have hk := keepR_get (ow := ow) (g := limitL l) hs
  by_cases he : (keepR ow (limitL l) 64)[s]? = some (-1)
  · obtain ⟨i, hi⟩ := List.mem_iff_getElem?.1 (mem_homeL.2 he)
    obtain ⟨n, a1, a2, a3⟩ := h2 i s (List.getElem?_eq_some_iff.1 hi).1 hi
    exact ⟨n, .inl ⟨a1, a2, .inl ⟨he, a3⟩⟩⟩
  · have hnot : s ∉ homeL (keepR ow (limitL l) 64) := fun hm => he (mem_homeL.1 hm)
    have hp := placeL_other (fun s => ords P l (Q s)) (limitL l) _ (keepR ow (limitL l) 64) hnot
    rw [hk] at he hp
    split at hk
    · rename_i hlt
      rw [if_pos hlt] at hp
      exact ⟨_, .inl ⟨hp, hm1, .inr ⟨hk, rfl⟩⟩⟩
    · rename_i hge
      rw [if_neg hge] at he
      exact absurd rfl he
theorem change_at' {l : List Mb} (h : VL l) {ow : List Int} (hl : ow.length = 64) (hneg : ∀ n ∈ ow, n ≠ -1) {s : Nat} (hs : s < 64) : ∃ n, (changeL P Q l ow).getD s 0 = n ∧
    (cnt (keepR ow (limitL l) s) (ow.getD s 0) < limitL l (ow.getD s 0) ∧ n = ow.getD s 0 ∨ ¬ cnt (keepR ow (limitL l) s) (ow.getD s 0) < limitL l (ow.getD s 0) ∧ n ≠ ow.getD s 0) := by
  obtain ⟨n, hm⟩ := change_at P Q h hl hs
  obtain ⟨x, hx⟩ : ∃ x, ow[s]? = some x := ⟨_, List.getElem?_eq_getElem (by omega)⟩
  have e : ow.getD s 0 = x := by rw [List.getD_eq_getElem?_getD, hx]; rfl
  have hx1 := hneg x (List.mem_of_getElem? hx)
  have hg := keepR_get (ow := ow) (g := limitL l) hs
  generalize keepR ow (limitL l) 64 = R at *
  rw [e] at hm hg ⊢
  rcases hm with ⟨a1, a2, ⟨b1, b2⟩ | ⟨b1, b2⟩⟩ | hm
  · refine ⟨n, by rw [List.getD_eq_getElem?_getD, a1]; rfl, .inr ⟨fun hlt => ?_, b2⟩⟩
    rw [if_pos hlt, b1] at hg
    simp only [Option.some.injEq] at hg
    exact hx1 hg.symm
  · refine ⟨n, by rw [List.getD_eq_getElem?_getD, a1]; rfl, ?_⟩
    by_cases hlt : cnt (keepR ow (limitL l) s) x < limitL l x
    · exact .inl ⟨hlt, b2⟩
    · rw [if_neg hlt, b1] at hg
      simp only [Option.some.injEq] at hg
      exact absurd hg a2
  · exact absurd hm hx1
theorem change_ok {l : List Mb} (h : VL l) {ow : List Int} (hl : ow.length = 64) (hneg : ∀ n ∈ ow, n ≠ -1) : (∀ n, cnt (changeL P Q l ow) n ≤ limitL l n) ∧ ∀ n ∈ changeL P Q l ow, n ∈ l.map Mb.node := by
  have h1 := (place_row P Q h hl (homeL (keepR ow (limitL l) 64)).length (Nat.le_refl _)).1
  rw [List.take_length] at h1
  have hno : ∀ n ∈ changeL P Q l ow, n ≠ -1 := fun n hn => by
    obtain ⟨s, hs⟩ := List.mem_iff_getElem?.1 hn
    have hs64 : s < 64 := by have := (List.getElem?_eq_some_iff.1 hs).1; rwa [change_len P Q h hl] at this
    obtain ⟨m, hm⟩ := change_at P Q h hl hs64
    obtain ⟨x, hx⟩ : ∃ x, ow[s]? = some x := ⟨_, List.getElem?_eq_getElem (by omega)⟩
    have e : ow.getD s 0 = x := by rw [List.getD_eq_getElem?_getD, hx]; rfl
    rcases hm with ⟨a1, a2, _⟩ | hm
    · rw [hs] at a1; cases a1; exact a2
    · exact absurd (e ▸ hm) (hneg x (List.mem_of_getElem? hx))
  refine ⟨fun n => ?_, fun n hn => h1.mem n hn (hno n hn)⟩
  by_cases e : n = -1
  · subst e
    have h0 : cnt (changeL P Q l ow) (-1) = 0 := by
      unfold cnt
      have : (changeL P Q l ow).count (-1) = 0 := List.count_eq_zero.2 (fun h => hno _ h rfl)
      omega
    rw [h0]
    exact (limitL_nn l _).1
  · exact h1.le n e
/-- Members that have room for all that they own keep it. -/
theorem change_same {l : List Mb} {ow : List Int} (hl : ow.length = 64) (hc : ∀ n, cnt ow n ≤ limitL l n) (hneg : ∀ n ∈ ow, n ≠ -1) : changeL P Q l ow = ow := by
  unfold changeL
  have e := keepR_all hc (show 64 ≤ ow.length by omega)
  rw [List.take_of_length_le (by omega)] at e
  rw [e]
  have : homeL ow = [] := by
    rw [List.eq_nil_iff_forall_not_mem]
    intro s hs
    exact hneg (-1) (List.mem_of_getElem? (mem_homeL.1 hs)) rfl
  rw [this]
  rfl
end

/-! ### moves -/
/-- A move. -/
structure Mv where
  slot : Int
  frm : Int
  to_ : Int
deriving DecidableEq
def movesK (a b : List Int) : Nat → List Mv
  | 0 => []
  | k + 1 => movesK a b k ++ if b.getD k 0 ≠ a.getD k 0 then [⟨k, a.getD k 0, b.getD k 0⟩] else []
theorem movesK_len (a b : List Int) : ∀ k, (movesK a b k).length ≤ k
  | 0 => Nat.le_refl _
  | k + 1 => by
    have := movesK_len a b k
    unfold movesK
    rw [List.length_append]
    split <;> simp <;> omega
theorem mem_movesK {a b : List Int} {m : Mv} : ∀ {k : Nat}, m ∈ movesK a b k ↔ ∃ s, s < k ∧ b.getD s 0 ≠ a.getD s 0 ∧ m = ⟨s, a.getD s 0, b.getD s 0⟩
  | 0 => by simp [movesK]
  | k + 1 => by
    unfold movesK
    rw [List.mem_append, mem_movesK (k := k)]
    constructor
    · rintro (⟨s, h1, h2, h3⟩ | h)
      · exact ⟨s, by omega, h2, h3⟩
      · split at h
        · rename_i hne
          exact ⟨k, by omega, hne, by simpa using h⟩
        · simp at h
    · rintro ⟨s, h1, h2, h3⟩
      by_cases e : s = k
      · subst e
        rw [if_pos h2]
        exact .inr (by simp [h3])
      · exact .inl ⟨s, by omega, h2, h3⟩
theorem movesK_nodup (a b : List Int) : ∀ k, ((movesK a b k).map Mv.slot).Nodup
  | 0 => List.nodup_nil
  | k + 1 => by
    unfold movesK
    rw [List.map_append, List.nodup_append]
    refine ⟨movesK_nodup a b k, by split <;> simp, fun x hx y hy e => ?_⟩
    obtain ⟨m, hm, rfl⟩ := List.mem_map.1 hx
    obtain ⟨s, h1, _, rfl⟩ := mem_movesK.1 hm
    split at hy
    · simp only [List.map_cons, List.map_nil, List.mem_singleton] at hy
      rw [hy] at e
      simp only [] at e
      omega
    · simp at hy
theorem movesK_self (a : List Int) : ∀ k, movesK a a k = []
  | 0 => rfl
  | k + 1 => by unfold movesK; rw [movesK_self a k]; simp

def applyS (o : List Int) (m : Mv) : List Int := if 0 ≤ m.slot ∧ m.slot < o.length ∧ o.getD m.slot.toNat 0 = m.frm then o.set m.slot.toNat m.to_ else o
def applyL (o : List Int) (ms : List Mv) : List Int := ms.foldl applyS o
theorem applyL_append (o : List Int) (a b : List Mv) : applyL o (a ++ b) = applyL (applyL o a) b := by unfold applyL; rw [List.foldl_append]
theorem applyL_take {o : List Int} {ms : List Mv} {k : Nat} {m : Mv} (h : ms[k]? = some m) : applyL o (ms.take (k + 1)) = applyS (applyL o (ms.take k)) m := by
  rw [List.take_add_one, h]
  exact applyL_append o _ [m]
theorem applyS_len (o : List Int) (m : Mv) : (applyS o m).length = o.length := by unfold applyS; split <;> simp
theorem applyL_len (ms : List Mv) : ∀ o, (applyL o ms).length = o.length := by
  induction ms with
  | nil => intro o; rfl
  | cons m ms ih => intro o; show (applyL (applyS o m) ms).length = _; rw [ih, applyS_len]
theorem applyS_other {o : List Int} {m : Mv} {q : Nat} (h : m.slot ≠ q) : (applyS o m)[q]? = o[q]? := by
  unfold applyS
  split
  · exact List.getElem?_set_ne (by omega)
  · rfl
theorem applyL_other {q : Nat} : ∀ (ms : List Mv) (o : List Int), (∀ m ∈ ms, m.slot ≠ q) → (applyL o ms)[q]? = o[q]? := by
  intro ms
  induction ms with
  | nil => intro o _; rfl
  | cons m ms ih =>
    intro o h
    show (applyL (applyS o m) ms)[q]? = _
    rw [ih _ (fun x hx => h x (by simp [hx])), applyS_other (h m (by simp))]
/-- A list of moves of different slots, applied: what it names goes there. -/
theorem applyL_at {q : Nat} {x y : Int} : ∀ (ms : List Mv) (o : List Int), (ms.map Mv.slot).Nodup → (⟨q, x, y⟩ : Mv) ∈ ms → o[q]? = some x → (applyL o ms)[q]? = some y := by
  intro ms
  induction ms with
  | nil => intro o _ h; simp at h
  | cons m ms ih =>
    intro o hn h ho
    simp only [List.map_cons, List.nodup_cons] at hn
    show (applyL (applyS o m) ms)[q]? = _
    rcases List.mem_cons.1 h with e | h
    · subst e
      rw [applyL_other ms _ (fun m hm e => hn.1 (e ▸ List.mem_map.2 ⟨m, hm, rfl⟩))]
      have hq := (List.getElem?_eq_some_iff.1 ho).1
      unfold applyS
      rw [if_pos ⟨by simp only []; omega, by simp only []; omega, by simp only [Int.toNat_natCast]; rw [List.getD_eq_getElem?_getD, ho]; rfl⟩]
      simp only [Int.toNat_natCast]
      exact List.getElem?_set_self hq
    · refine ih _ hn.2 h ?_
      rw [applyS_other (fun e => hn.1 (e ▸ List.mem_map.2 ⟨_, h, rfl⟩))]
      exact ho
/-- In whatever order. -/
theorem apply_moves {a b : List Int} (hab : a.length = b.length) {ms : List Mv} (hp : ms.Perm (movesK a b a.length)) : applyL a ms = b := by
  have hn : (ms.map Mv.slot).Nodup := (hp.map Mv.slot).nodup_iff.2 (movesK_nodup a b _)
  apply List.ext_getElem?
  intro q
  by_cases hq : q < a.length
  · obtain ⟨x, hx⟩ : ∃ x, a[q]? = some x := ⟨_, List.getElem?_eq_getElem hq⟩
    obtain ⟨y, hy⟩ : ∃ y, b[q]? = some y := ⟨_, List.getElem?_eq_getElem (by omega)⟩
    have ex : a.getD q 0 = x := by rw [List.getD_eq_getElem?_getD, hx]; rfl
    have ey : b.getD q 0 = y := by rw [List.getD_eq_getElem?_getD, hy]; rfl
    by_cases e : y = x
    · rw [applyL_other ms a (fun m hm e' => by
        obtain ⟨s, h1, h2, rfl⟩ := mem_movesK.1 (hp.mem_iff.1 hm)
        simp only [] at e'
        obtain rfl : s = q := by omega
        rw [ex, ey] at h2
        exact h2 e), hx, hy, e]
    · rw [hy]
      refine applyL_at ms a hn (hp.mem_iff.2 (mem_movesK.2 ⟨q, hq, by rw [ex, ey]; exact e, by rw [ex, ey]⟩)) hx
  · rw [List.getElem?_eq_none (by rw [applyL_len]; omega), List.getElem?_eq_none (by omega)]
theorem apply_again {a b : List Int} (_hab : a.length = b.length) : applyL b (movesK a b a.length) = b := by
  have key : ∀ ms : List Mv, (∀ m ∈ ms, m ∈ movesK a b a.length) → applyL b ms = b := by
    intro ms
    induction ms with
    | nil => intro _; rfl
    | cons m ms ih =>
      intro h
      show applyL (applyS b m) ms = b
      obtain ⟨s, h1, h2, rfl⟩ := mem_movesK.1 (h m (by simp))
      have e : applyS b ⟨s, a.getD s 0, b.getD s 0⟩ = b := by
        unfold applyS
        rw [if_neg]
        rintro ⟨_, _, h3⟩
        simp only [Int.toNat_natCast] at h3
        exact h2 h3
      rw [e]
      exact ih (fun x hx => h x (by simp [hx]))
  exact key _ (fun _ h => h)

/-! ### how many move -/
def keptC (a b : List Int) (n : Int) : Nat → Int
  | 0 => 0
  | k + 1 => keptC a b n k + if a.getD k 0 = n ∧ b.getD k 0 = n then 1 else 0
theorem keptC_succ (a b : List Int) (n : Int) (k : Nat) : keptC a b n (k + 1) = keptC a b n k + if a.getD k 0 = n ∧ b.getD k 0 = n then 1 else 0 := rfl
theorem movesK_succ (a b : List Int) (k : Nat) : movesK a b (k + 1) = movesK a b k ++ if b.getD k 0 ≠ a.getD k 0 then [⟨k, a.getD k 0, b.getD k 0⟩] else [] := rfl
theorem keptC_bd (a b : List Int) (n : Int) : ∀ k, 0 ≤ keptC a b n k ∧ keptC a b n k ≤ k
  | 0 => by simp [keptC]
  | k + 1 => by
    have := keptC_bd a b n k
    unfold keptC
    split <;> omega
theorem kept_change (P : Int → Nat → Int) (Q : Nat → Int) {l : List Mb} (h : VL l) {ow : List Int} (hl : ow.length = 64) (hneg : ∀ n ∈ ow, n ≠ -1) {n : Int} (hn : n ≠ -1) {k : Nat} (hk : k ≤ 64) : keptC ow (changeL P Q l ow) n k = cnt (keepR ow (limitL l) k) n := by
  have hat := fun s (hs : s < 64) => change_at' P Q h hl hneg hs
  generalize changeL P Q l ow = nw at *
  induction k with
  | zero => rfl
  | succ k ih =>
    have ih := ih (by omega)
    obtain ⟨m, e2, hm⟩ := hat k (by omega)
    rw [keptC_succ, keepR_succ, cnt_snoc, ih, e2]
    generalize ow.getD k 0 = x at *
    congr 1
    rcases hm with ⟨b1, b2⟩ | ⟨b1, b2⟩
    · subst b2
      rw [if_pos b1]
      by_cases en : n = m
      · rw [if_pos ⟨en.symm, en.symm⟩, if_pos en]
      · rw [if_neg (fun h => en h.1.symm), if_neg en]
    · rw [if_neg b1, if_neg hn, if_neg]
      rintro ⟨h1, h2⟩
      exact b2 (h2.trans h1.symm)
/-- The sum over the first k nodes. -/
def sumK (f : Nat → Int) : Nat → Int
  | 0 => 0
  | k + 1 => sumK f k + f k
theorem sumK_sub (f h : Nat → Int) : ∀ k, sumK (fun n => f n - h n) k = sumK f k - sumK h k
  | 0 => by simp [sumK]
  | k + 1 => by simp only [sumK, sumK_sub f h k]; omega
theorem sumK_congr {f h : Nat → Int} : ∀ {k : Nat}, (∀ n, n < k → f n = h n) → sumK f k = sumK h k
  | 0, _ => rfl
  | k + 1, e => by simp only [sumK]; rw [sumK_congr (fun n hn => e n (by omega)), e k (by omega)]
theorem sumK_one (x : Int) : ∀ k : Nat, sumK (fun n => if (n : Int) = x then 1 else 0) k = if 0 ≤ x ∧ x < k then 1 else 0
  | 0 => by
    show (0 : Int) = _
    rw [if_neg (by omega)]
  | k + 1 => by
    simp only [sumK]
    rw [sumK_one x k]
    by_cases e : (k : Int) = x
    · rw [if_pos e, if_neg (by omega), if_pos (by omega)]; rfl
    · rw [if_neg e]
      by_cases h : 0 ≤ x ∧ x < k
      · rw [if_pos h, if_pos (by omega)]; rfl
      · rw [if_neg h, if_neg (by omega)]; rfl
theorem sumK_add (f h : Nat → Int) : ∀ k, sumK (fun n => f n + h n) k = sumK f k + sumK h k
  | 0 => by simp [sumK]
  | k + 1 => by simp only [sumK, sumK_add f h k]; omega
theorem cnt_cons' (a : Int) (l : List Int) (n : Int) : cnt (a :: l) n = cnt l n + if n = a then 1 else 0 := by
  unfold cnt
  rw [List.count_cons]
  by_cases h : n = a
  · subst h; simp
  · have : ¬ a = n := fun e => h e.symm
    simp [h, this]
theorem sumK_zero : ∀ k : Nat, sumK (fun _ => 0) k = 0
  | 0 => rfl
  | k + 1 => by simp only [sumK]; rw [sumK_zero k]; rfl
theorem sumK_cnt (k : Nat) : ∀ (l : List Int), (∀ x ∈ l, x = -1 ∨ 0 ≤ x ∧ x < k) → sumK (fun n => cnt l n) k = l.length - cnt l (-1)
  | [], _ => by
    have : (fun n : Nat => cnt [] (n : Int)) = fun _ => 0 := by funext n; simp [cnt]
    rw [this, sumK_zero]; simp [cnt]
  | a :: l, h => by
    have ih := sumK_cnt k l (fun x hx => h x (by simp [hx]))
    have e : (fun n : Nat => cnt (a :: l) (n : Int)) = fun n : Nat => cnt l n + if (n : Int) = a then 1 else 0 := by funext n; exact cnt_cons' a l n
    rw [e, sumK_add, sumK_one, ih, cnt_cons', List.length_cons]
    rcases h a (by simp) with rfl | ⟨h1, h2⟩
    · rw [if_neg (by omega), if_pos rfl]; omega
    · rw [if_pos ⟨h1, h2⟩, if_neg (by omega)]; omega
theorem moves_cnt (P : Int → Nat → Int) (Q : Nat → Int) {l : List Mb} (h : VL l) {ow : List Int} (hl : ow.length = 64) (hneg : ∀ n ∈ ow, n ≠ -1) {k : Nat} (hk : k ≤ 64) : ((movesK ow (changeL P Q l ow) k).length : Int) = cnt (keepR ow (limitL l) k) (-1) := by
  have hat := fun s (hs : s < 64) => change_at' P Q h hl hneg hs
  generalize changeL P Q l ow = nw at *
  induction k with
  | zero => rfl
  | succ k ih =>
    have ih := ih (by omega)
    obtain ⟨m, e2, hm⟩ := hat k (by omega)
    have hx : ow.getD k 0 ≠ -1 := by
      obtain ⟨x, hx⟩ : ∃ x, ow[k]? = some x := ⟨_, List.getElem?_eq_getElem (by omega)⟩
      have e : ow.getD k 0 = x := by rw [List.getD_eq_getElem?_getD, hx]; rfl
      rw [e]
      exact hneg x (List.mem_of_getElem? hx)
    rw [movesK_succ, keepR_succ, cnt_snoc, List.length_append, Int.natCast_add, ih, e2]
    generalize ow.getD k 0 = x at *
    congr 1
    rcases hm with ⟨b1, b2⟩ | ⟨b1, b2⟩
    · rw [if_pos b1, if_neg (fun h : m ≠ x => h b2), if_neg (fun e : -1 = x => hx e.symm)]; rfl
    · rw [if_neg b1, if_pos rfl, if_pos b2]; rfl
/-- As many move as must. -/
theorem must_sum (P : Int → Nat → Int) (Q : Nat → Int) {l : List Mb} (h : VL l) {ow : List Int} (hl : ow.length = 64) (hb : ∀ n ∈ ow, 0 ≤ n ∧ n < 24) : sumK (fun n => cnt ow n - keptC ow (changeL P Q l ow) n 64) 24 = (movesK ow (changeL P Q l ow) 64).length := by
  have hneg : ∀ n ∈ ow, n ≠ -1 := fun n hn => by have := hb n hn; omega
  rw [sumK_sub, moves_cnt P Q h hl hneg (Nat.le_refl _), sumK_congr (f := fun n => keptC ow (changeL P Q l ow) n 64) (h := fun n : Nat => cnt (keepR ow (limitL l) 64) n) (fun n _ => kept_change P Q h hl hneg (by omega) (Nat.le_refl _))]
  rw [sumK_cnt 24 ow (fun x hx => .inr (hb x hx)), sumK_cnt 24 (keepR ow (limitL l) 64) (fun x hx => by
    by_cases e : x = -1
    · exact .inl e
    · have := h.node x (keepR_mem x hx e)
      exact .inr (by omega)), keepR_len, hl]
  have h0 : cnt ow (-1) = 0 := by
    unfold cnt
    have : ow.count (-1) = 0 := List.count_eq_zero.2 (fun h => hneg _ h rfl)
    omega
  omega
/-! ### the owners while they are given out -/
/-- What lies in memory: where no owner is named yet, the old one. -/
def progL (ow R : List Int) : List Int := (List.range 64).map (fun s => if R.getD s 0 = -1 then ow.getD s 0 else R.getD s 0)
theorem progL_len (ow R : List Int) : (progL ow R).length = 64 := by simp [progL]
theorem progL_get (ow R : List Int) {s : Nat} (hs : s < 64) : (progL ow R)[s]? = some (if R.getD s 0 = -1 then ow.getD s 0 else R.getD s 0) := by
  unfold progL
  rw [List.getElem?_map, List.getElem?_range hs]; rfl
theorem progL_ext {ow R L : List Int} (hL : L.length = 64) (h : ∀ s, s < 64 → L.getD s 0 = if R.getD s 0 = -1 then ow.getD s 0 else R.getD s 0) : progL ow R = L := by
  apply List.ext_getElem?
  intro s
  by_cases hs : s < 64
  · rw [progL_get ow R hs, ← h s hs, List.getD_eq_getElem?_getD, List.getElem?_eq_getElem (by omega)]; rfl
  · rw [List.getElem?_eq_none (by rw [progL_len]; omega), List.getElem?_eq_none (by omega)]
theorem progL_start {ow : List Int} {g : Int → Int} (hl : ow.length = 64) : progL ow (keepR ow g 64) = ow := by
  refine progL_ext hl (fun s hs => ?_)
  have h := keepR_get (ow := ow) (g := g) hs
  have e : (keepR ow g 64).getD s 0 = if cnt (keepR ow g s) (ow.getD s 0) < g (ow.getD s 0) then ow.getD s 0 else -1 := by rw [List.getD_eq_getElem?_getD, h]; rfl
  rw [e]
  generalize ow.getD s 0 = x
  generalize cnt (keepR ow g s) x = y
  by_cases hlt : y < g x
  · rw [if_pos hlt]; split <;> rfl
  · rw [if_neg hlt, if_pos rfl]
theorem progL_set {ow R : List Int} {s : Nat} {n : Int} (hR : R.length = 64) (hs : s < 64) (hn : n ≠ -1) : progL ow (R.set s n) = (progL ow R).set s n := by
  refine progL_ext (by rw [List.length_set, progL_len]) (fun q hq => ?_)
  rw [List.getD_eq_getElem?_getD, List.getD_eq_getElem?_getD]
  by_cases e : s = q
  · subst e
    rw [List.getElem?_set_self (by rw [progL_len]; exact hs), List.getElem?_set_self (by omega)]
    show n = if n = -1 then _ else n
    rw [if_neg hn]
  · rw [List.getElem?_set_ne e, List.getElem?_set_ne e, progL_get ow R hq, ← List.getD_eq_getElem?_getD]; rfl
theorem progL_end {ow R : List Int} (hR : R.length = 64) (hn : ∀ n ∈ R, n ≠ -1) : progL ow R = R := by
  refine progL_ext hR (fun s hs => ?_)
  have h : R[s]? = some (R.getD s 0) := by rw [List.getD_eq_getElem?_getD, List.getElem?_eq_getElem (by omega)]; rfl
  rw [if_neg (hn _ (List.mem_of_getElem? h))]
theorem change_noneg (P : Int → Nat → Int) (Q : Nat → Int) {l : List Mb} (h : VL l) {ow : List Int} (hl : ow.length = 64) (hneg : ∀ n ∈ ow, n ≠ -1) : ∀ n ∈ changeL P Q l ow, n ≠ -1 := fun n hn => by
  have := (change_ok P Q h hl hneg).2 n hn
  have := h.node n this
  omega
/-- A place is found, and nobody ahead of it has room. -/
theorem place_find (P : Int → Nat → Int) (Q : Nat → Int) {l : List Mb} (h : VL l) {ow : List Int} (hl : ow.length = 64) {k s : Nat} (hs : (homeL (keepR ow (limitL l) 64))[k]? = some s) {R : List Int}
    (hR : placeL (fun s => ords P l (Q s)) (limitL l) ((homeL (keepR ow (limitL l) 64)).take k) (keepR ow (limitL l) 64) = R) :
    s < 64 ∧ R.length = 64 ∧ (∀ n, n ≠ -1 → cnt R n ≤ limitL l n) ∧ ∃ n, firstN (fun n => limitL l n - cnt R n) (ords P l (Q s)) = some n ∧ 0 ≤ n ∧ n ≤ 23 ∧ R[s]? = some (-1) ∧ placeL (fun s => ords P l (Q s)) (limitL l) ((homeL (keepR ow (limitL l) 64)).take (k + 1)) (keepR ow (limitL l) 64) = R.set s n := by
  have hk : k < (homeL (keepR ow (limitL l) 64)).length := (List.getElem?_eq_some_iff.1 hs).1
  obtain ⟨h1, -, -⟩ := place_row P Q h hl k (by omega)
  have hneg := mem_homeL.1 (List.mem_of_getElem? hs)
  have hs64 : s < 64 := by have := (List.getElem?_eq_some_iff.1 hneg).1; rwa [keepR_len] at this
  have hnd := homeL_nodup (keepR ow (limitL l) 64)
  have hnot : s ∉ (homeL (keepR ow (limitL l) 64)).take k := fun hm => by
    obtain ⟨j, hj⟩ := List.mem_iff_getElem?.1 hm
    have hjk : j < k := by have := (List.getElem?_eq_some_iff.1 hj).1; rw [List.length_take] at this; omega
    rw [List.getElem?_take_of_lt hjk] at hj
    obtain ⟨a1, a2⟩ := List.getElem?_eq_some_iff.1 hj
    obtain ⟨b1, b2⟩ := List.getElem?_eq_some_iff.1 hs
    have := (List.getElem_inj hnd).1 (a2.trans b2.symm)
    omega
  have hs1 := placeL_other (fun s => ords P l (Q s)) (limitL l) _ (keepR ow (limitL l) 64) hnot
  rw [hneg] at hs1
  rw [placeL_take _ _ hs]
  rw [hR] at h1 hs1 ⊢
  obtain ⟨n, hf, hm, -, -⟩ := place_ok (ord := fun s => ords P l (Q s)) h.nodup (fun n hn => by have := h.node n hn; omega) (fun s n => by rw [mem_ords P h, List.mem_map]) (by have := limit_sum h; omega) h1 hs1
  have hn0 := h.node n hm
  refine ⟨hs64, h1.len, h1.le, n, hf, hn0.1, hn0.2, hs1, ?_⟩
  unfold placeS
  rw [hf]
theorem okRing_nodes {ep : Int} {l : List Mb} {ow : List Int} (h : okRing ep l ow) : ∀ n ∈ ow, 0 ≤ n ∧ n < 24 := fun n hn => by
  have h1 := mem_cnt_pos hn
  have h2 := h.2.2.2.2 n
  by_cases e : ∃ m ∈ l, m.node = n
  · obtain ⟨m, hm, e⟩ := e
    have := h.2.2.1.ok m hm
    unfold okMb at this
    omega
  · rw [limitL_none (fun m hm e' => e ⟨m, hm, e'⟩)] at h2
    omega
/-- The slots without an owner, and the owners behind the first i placements (under names, so that no search unfolds them). -/
structure HomeAt (l : List Mb) (ow : List Int) (hs : List Nat) : Prop where
  eq : homeL (keepR ow (limitL l) 64) = hs
structure PlaceAt (P : Int → Nat → Int) (Q : Nat → Int) (l : List Mb) (ow : List Int) (i : Nat) (R : List Int) : Prop where
  eq : placeL (fun s => ords P l (Q s)) (limitL l) ((homeL (keepR ow (limitL l) 64)).take i) (keepR ow (limitL l) 64) = R
theorem PlaceAt.find {P : Int → Nat → Int} {Q : Nat → Int} {l : List Mb} (h : VL l) {ow : List Int} (hl : ow.length = 64) {hl' : List Nat} (hh : HomeAt l ow hl') {k s : Nat} (hs : hl'[k]? = some s) {R : List Int} (hR : PlaceAt P Q l ow k R) :
    s < 64 ∧ R.length = 64 ∧ (∀ n, n ≠ -1 → cnt R n ≤ limitL l n) ∧ ∃ n, firstN (fun n => limitL l n - cnt R n) (ords P l (Q s)) = some n ∧ 0 ≤ n ∧ n ≤ 23 ∧ R[s]? = some (-1) ∧ PlaceAt P Q l ow (k + 1) (R.set s n) := by
  obtain ⟨h1⟩ := hh
  obtain ⟨h2⟩ := hR
  rw [← h1] at hs
  obtain ⟨a1, a2, a3, n, a4, a5, a6, a7, a8⟩ := place_find P Q h hl hs h2
  exact ⟨a1, a2, a3, n, a4, a5, a6, a7, ⟨a8⟩⟩
theorem PlaceAt.last {P : Int → Nat → Int} {Q : Nat → Int} {l : List Mb} (h : VL l) {ow : List Int} (hl : ow.length = 64) (hneg : ∀ n ∈ ow, n ≠ -1) {hl' : List Nat} (hh : HomeAt l ow hl') {R : List Int} (hR : PlaceAt P Q l ow hl'.length R) : R = changeL P Q l ow ∧ progL ow R = changeL P Q l ow := by
  obtain ⟨h1⟩ := hh
  obtain ⟨h2⟩ := hR
  rw [← h1, List.take_length] at h2
  have e : R = changeL P Q l ow := h2.symm
  refine ⟨e, ?_⟩
  rw [e]
  exact progL_end (change_len P Q h hl) (change_noneg P Q h hl hneg)
theorem PlaceAt.first {P : Int → Nat → Int} {Q : Nat → Int} {l : List Mb} {ow : List Int} : PlaceAt P Q l ow 0 (keepR ow (limitL l) 64) := ⟨rfl⟩
end Go.Proofs.YtiacdkggbnoigaaGreatDoor

/-
  The checksum, bit by bit and by half bytes.
-/
namespace Go.Proofs.YtiacdkggbnoigaaGreatDoor
def poly : Nat := 2197175160
/-- One bit of the checksum's register. -/
def bit1 (r : Nat) : Nat := (r / 2) ^^^ (if r % 2 = 1 then poly else 0)
def tabL : List Nat := [0x00000000, 0x105EC76F, 0x20BD8EDE, 0x30E349B1, 0x417B1DBC, 0x5125DAD3, 0x61C69362, 0x7198540D, 0x82F63B78, 0x92A8FC17, 0xA24BB5A6, 0xB21572C9, 0xC38D26C4, 0xD3D3E1AB, 0xE330A81A, 0xF36E6F75]
def nib (r : Nat) : Nat := (r / 16) ^^^ (tabL.getD (r % 16) 0)
theorem xor_mod2 (a b : Nat) : (a ^^^ b) % 2 = if a % 2 = b % 2 then 0 else 1 := by
  have h := Nat.testBit_xor a b 0
  simp only [Nat.testBit_zero] at h
  have h1 := Nat.mod_two_eq_zero_or_one a
  have h2 := Nat.mod_two_eq_zero_or_one b
  have h3 := Nat.mod_two_eq_zero_or_one (a ^^^ b)
  rcases h1 with h1 | h1 <;> rcases h2 with h2 | h2 <;> rcases h3 with h3 | h3 <;> simp [h1, h2, h3] at h ⊢
theorem xor_lc (a b c : Nat) : a ^^^ (b ^^^ c) = b ^^^ (a ^^^ c) := by rw [← Nat.xor_assoc, Nat.xor_comm a b, Nat.xor_assoc]
theorem bit1_xor (a b : Nat) : bit1 (a ^^^ b) = bit1 a ^^^ bit1 b := by
  unfold bit1
  have h2 : (a ^^^ b) / 2 = a / 2 ^^^ b / 2 := by
    have := Nat.shiftRight_xor_distrib (a := a) (b := b) (i := 1)
    simpa [Nat.shiftRight_succ, Nat.shiftRight_zero] using this
  rw [h2, xor_mod2]
  have h1 := Nat.mod_two_eq_zero_or_one a
  have h2 := Nat.mod_two_eq_zero_or_one b
  rcases h1 with h1 | h1 <;> rcases h2 with h2 | h2 
  · simp [h1, h2]
  · simp [h1, h2, Nat.xor_assoc]
  · simp [h1, h2, Nat.xor_assoc, Nat.xor_comm poly]
  · simp [h1, h2, Nat.xor_assoc]; rw [xor_lc poly, Nat.xor_self, Nat.xor_zero]
theorem low_xor (q n : Nat) (hn : n < 16) : q * 16 + n = (q * 16) ^^^ n := by
  have := Nat.two_pow_add_eq_or_of_lt (i := 4) (b := n) (by omega) q
  apply Nat.eq_of_testBit_eq
  intro i
  rw [Nat.testBit_xor]
  have h1 : (2 ^ 4 * q + n).testBit i = if i < 4 then n.testBit i else q.testBit (i - 4) := Nat.testBit_two_pow_mul_add q (by omega) i
  have h2 : (2 ^ 4 * q).testBit i = (decide (i ≥ 4) && q.testBit (i - 4)) := Nat.testBit_two_pow_mul ..
  rw [show q * 16 + n = 2 ^ 4 * q + n by omega, show q * 16 = 2 ^ 4 * q by omega, h1, h2]
  by_cases hi : i < 4
  · simp [hi, Nat.not_le.2 hi]
  · have : n.testBit i = false := Nat.testBit_lt_two_pow (Nat.lt_of_lt_of_le hn (by
      have : 2 ^ 4 ≤ 2 ^ i := Nat.pow_le_pow_right (by omega) (by omega)
      omega))
    simp [hi, this, Nat.le_of_not_lt hi]
theorem bit1_even (q : Nat) : bit1 (q * 2) = q := by unfold bit1; simp
theorem nib_eq (r : Nat) : bit1 (bit1 (bit1 (bit1 r))) = nib r := by
  have hr : r = (r / 16) * 16 ^^^ (r % 16) := by rw [← low_xor _ _ (Nat.mod_lt _ (by omega))]; omega
  unfold nib
  generalize r / 16 = q at *
  have hn : r % 16 < 16 := Nat.mod_lt _ (by omega)
  generalize r % 16 = n at *
  rw [hr, bit1_xor, bit1_xor, bit1_xor, bit1_xor]
  rw [show q * 16 = ((q * 2 * 2) * 2) * 2 by omega, bit1_even, bit1_even, bit1_even, bit1_even]
  congr 1
  revert n
  have : ∀ n : Fin 16, bit1 (bit1 (bit1 (bit1 n.val))) = tabL.getD n.val 0 := by decide
  intro n _ hn
  exact this ⟨n, hn⟩
theorem nib_lt {r : Nat} (h : r < 4294967296) : nib r < 4294967296 := by
  unfold nib
  refine Nat.xor_lt_two_pow (n := 32) (by omega) ?_
  have : ∀ n : Fin 16, tabL.getD n.val 0 < 2 ^ 32 := by decide
  exact this ⟨r % 16, Nat.mod_lt _ (by omega)⟩
/-- The register behind a byte. -/
def byteN (r b : Nat) : Nat := nib (nib (r ^^^ b))
theorem byteN_lt {r b : Nat} (h : r < 4294967296) (hb : b < 256) : byteN r b < 4294967296 := nib_lt (nib_lt (Nat.xor_lt_two_pow (n := 32) h (by omega)))
def regN (l : List UInt8) : Nat := l.foldl (fun r b => byteN r b.toNat) 4294967295
theorem foldl_lt : ∀ (l : List UInt8) (r : Nat), r < 4294967296 → l.foldl (fun r b => byteN r b.toNat) r < 4294967296
  | [], _, h => h
  | b :: l, _, h => foldl_lt l _ (byteN_lt h b.toNat_lt)
theorem regN_lt (l : List UInt8) : regN l < 4294967296 := foldl_lt l _ (by decide)
/-- The checksum. -/
def sumN (l : List UInt8) : Nat := 4294967295 ^^^ regN l
theorem sumN_lt (l : List UInt8) : sumN l < 4294967296 := Nat.xor_lt_two_pow (n := 32) (by decide) (regN_lt l)
theorem regN_snoc (l : List UInt8) (b : UInt8) : regN (l ++ [b]) = byteN (regN l) b.toNat := by unfold regN; rw [List.foldl_append]; rfl
end Go.Proofs.YtiacdkggbnoigaaGreatDoor

/-
  Small laws on worlds: what is kept outside a set of blocks; cells behind stores; a map keyed by strings, by its entries.
-/
namespace Go.Proofs.YtiacdkggbnoigaaGreatDoor
open Go Go.RowKit

/-- w' is w but for blocks of A and new blocks. -/
structure Keep (A : Nat → Prop) (w w' : World) : Prop where
  os : w'.os = w.os
  tape : w'.tape = w.tape
  output : w'.output = w.output
  size : w.heap.size ≤ w'.heap.size
  block : ∀ k, k < w.heap.size → ¬ A k → w'.heap[k]? = w.heap[k]?

theorem Keep.refl (A : Nat → Prop) (w : World) : Keep A w w := ⟨rfl, rfl, rfl, Nat.le_refl _, fun _ _ _ => rfl⟩
theorem Keep.mono {A B : Nat → Prop} {w w' : World} (h : Keep A w w') (hAB : ∀ k, A k → B k) : Keep B w w' := ⟨h.os, h.tape, h.output, h.size, fun k hk hn => h.block k hk (fun ha => hn (hAB k ha))⟩
/-- Two steps: what the second lets go is new since the first, or of A. -/
theorem Keep.trans' {A B : Nat → Prop} {a b c : World} (h : Keep A a b) (k : Keep B b c) (hB : ∀ i, B i → A i ∨ a.heap.size ≤ i) : Keep A a c :=
  ⟨k.os.trans h.os, k.tape.trans h.tape, k.output.trans h.output, Nat.le_trans h.size k.size, fun i hi hn => (k.block i (Nat.lt_of_lt_of_le hi h.size) (fun hb => (hB i hb).elim hn (fun h' => absurd hi (Nat.not_lt.2 h')))).trans (h.block i hi hn)⟩
theorem Keep.trans {A : Nat → Prop} {a b c : World} (h : Keep A a b) (k : Keep A b c) : Keep A a c := h.trans' k (fun _ => .inl)
theorem Keep.drew {A : Nat → Prop} {a w : World} (h : Keep A a w) : Keep A a w.drew := ⟨h.os, h.tape, h.output, h.size, h.block⟩
theorem Keep.alloc {A : Nat → Prop} {a w : World} (h : Keep A a w) (o : Obj) : Keep A a (w.alloc o) :=
  h.trans ⟨rfl, rfl, rfl, by simp, fun k hk _ => Below.heap_alloc _ _ _ hk⟩
theorem Keep.setCell {A : Nat → Prop} {a w : World} (h : Keep A a w) {p : Addr} (v : Value) (hp : A p.block ∨ a.heap.size ≤ p.block) : Keep A a (w.setCell p v) :=
  h.trans' (B := fun k => k = p.block) ⟨rfl, rfl, rfl, by simp, fun k _ hn => Below.heap_setCell _ _ _ _ hn⟩ (fun i e => e ▸ hp)
theorem Keep.putObj {A : Nat → Prop} {a w : World} (h : Keep A a w) {b : Nat} (o : Obj) (hp : A b ∨ a.heap.size ≤ b) : Keep A a (w.putObj b o) :=
  h.trans' (B := fun k => k = b) ⟨rfl, rfl, rfl, by simp, fun k _ hn => World.putObj_heap_other hn⟩ (fun i e => e ▸ hp)
theorem Keep.grown {A : Nat → Prop} {a w w' : World} {row : Option Nat} (h : Keep A a w) (hg : w.grownBy w' row) (hr : ∀ k, row = some k → A k ∨ a.heap.size ≤ k) : Keep A a w' :=
  h.trans' (B := fun k => row = some k) ⟨hg.os, hg.tape, hg.output, hg.size, fun k hk hn => hg.block k hk (fun e => hn e.symm)⟩ hr
theorem Keep.cell {A : Nat → Prop} {w w' : World} (h : Keep A w w') {b o : Nat} {v : Value} (hc : w.cell? ⟨b, o, none⟩ = some v) (hb : ¬ A b) : w'.cell? ⟨b, o, none⟩ = some v :=
  (World.cell?_of_block (w := w) (a := ⟨b, o, none⟩) (h.block b (World.block_lt_of_cell? _ _ hc) hb)).trans hc
theorem Keep.heap {A : Nat → Prop} {w w' : World} (h : Keep A w w') {b : Nat} {o : Obj} (hc : w.heap[b]? = some o) (hb : ¬ A b) : w'.heap[b]? = some o :=
  (h.block b (Array.getElem?_eq_some_iff.1 hc).1 hb).trans hc
theorem Keep.below {B : Nat} {w w' : World} (h : Keep (fun k => B ≤ k) w w') (hB : B ≤ w.heap.size) : Below B w w' :=
  ⟨h.os, h.tape, h.output, h.size, fun k hk => h.block k (Nat.lt_of_lt_of_le hk hB) (Nat.not_le.2 hk)⟩
theorem Keep.of_below {B : Nat} {w w' : World} (h : Below B w w') : Keep (fun k => B ≤ k) w w' :=
  ⟨h.os, h.tape, h.output, h.size, fun k _ hn => h.block k (Nat.not_le.1 hn)⟩
theorem Keep.of_grown {w w' : World} {row : Option Nat} (hg : w.grownBy w' row) : Keep (fun k => row = some k) w w' :=
  ⟨hg.os, hg.tape, hg.output, hg.size, fun k hk hn => hg.block k hk (fun e => hn e.symm)⟩

theorem cell_set_same {w : World} {b o : Nat} {u v : Value} (h : w.cell? ⟨b, o, none⟩ = some u) : (w.setCell ⟨b, o, none⟩ v).cell? ⟨b, o, none⟩ = some v := World.cell?_setCell_same _ _ _ h
theorem cell_set_ne {w : World} {b o b' o' : Nat} {v : Value} (h : b ≠ b' ∨ o ≠ o') : (w.setCell ⟨b, o, none⟩ v).cell? ⟨b', o', none⟩ = w.cell? ⟨b', o', none⟩ :=
  World.cell?_setCell_other _ _ _ _ (fun e => by cases e; simp at h)
theorem cell_set_off {w : World} {b o b' o' : Nat} {v : Value} (h : o ≠ o') : (w.setCell ⟨b, o, none⟩ v).cell? ⟨b', o', none⟩ = w.cell? ⟨b', o', none⟩ := cell_set_ne (.inr h)
theorem cell_set_blk {w : World} {b o b' o' : Nat} {v : Value} (h : b ≠ b') : (w.setCell ⟨b, o, none⟩ v).cell? ⟨b', o', none⟩ = w.cell? ⟨b', o', none⟩ := cell_set_ne (.inl h)
theorem heap_set_ne {w : World} {a : Addr} {v : Value} {k : Nat} (h : k ≠ a.block) : (w.setCell a v).heap[k]? = w.heap[k]? := Below.heap_setCell _ _ _ _ h
theorem cell_put {w : World} {b r o : Nat} {ob : Obj} (h : b ≠ r) : (w.putObj r ob).cell? ⟨b, o, none⟩ = w.cell? ⟨b, o, none⟩ := World.cell?_of_block (w := w) (a := ⟨b, o, none⟩) (World.putObj_heap_other h)
theorem frozen_put {w : World} {b r o : Nat} {ob : Obj} (h : b ≠ r) : (w.putObj r ob).frozen? ⟨b, o, none⟩ = w.frozen? ⟨b, o, none⟩ := World.frozen?_of_block (w := w) (a := ⟨b, o, none⟩) (World.putObj_heap_other h)

/-! ### a map by the relation of its keys to its elements -/

/-- Block b of w is a map; R says which key has which element. -/
def MapRel (P : Program) (kt : TypeId) (w : World) (b : Nat) (R : Value → Value → Prop) : Prop :=
  ∃ es clock, w.heap[b]? = some (.map es clock) ∧ (∀ e ∈ es.toList, ∃ l, keyOf P kt e.key = some l) ∧ (es.toList.map (·.key)).Nodup ∧
    (∀ k v, R k v ↔ ∃ e ∈ es.toList, e.key = k ∧ e.val = v) ∧ (es.toList.map (·.born)).Nodup ∧ ∀ e ∈ es.toList, e.born < clock

theorem MapRel.of_heap {P : Program} {kt : TypeId} {w w' : World} {b : Nat} {R : Value → Value → Prop} (h : MapRel P kt w b R) (hh : w'.heap[b]? = w.heap[b]?) : MapRel P kt w' b R := by
  obtain ⟨es, clock, hb, r⟩ := h
  exact ⟨es, clock, hh.trans hb, r⟩

theorem MapRel.lt {P : Program} {kt : TypeId} {w : World} {b : Nat} {R : Value → Value → Prop} (h : MapRel P kt w b R) : b < w.heap.size := by
  obtain ⟨es, clock, hb, _⟩ := h
  exact (Array.getElem?_eq_some_iff.1 hb).1

theorem MapRel.not_cell {P : Program} {kt : TypeId} {w : World} {b : Nat} {R : Value → Value → Prop} (h : MapRel P kt w b R) {o : Nat} {v : Value} {b' : Nat} (hc : w.cell? ⟨b', o, none⟩ = some v) : b' ≠ b := by
  obtain ⟨es, clock, hb, _⟩ := h
  rintro rfl
  simp [World.cell?, hb] at hc

theorem MapRel.congr {P : Program} {kt : TypeId} {w : World} {b : Nat} {R R' : Value → Value → Prop} (h : MapRel P kt w b R) (hR : ∀ k v, R' k v ↔ R k v) : MapRel P kt w b R' := by
  obtain ⟨es, clock, hb, hk, hn, hr, hbn, hbc⟩ := h
  exact ⟨es, clock, hb, hk, hn, fun k v => (hR k v).trans (hr k v), hbn, hbc⟩

theorem MapRel.made (P : Program) (kt : TypeId) (w : World) : MapRel P kt (w.alloc (.map #[] 0)) w.heap.size (fun _ _ => False) :=
  ⟨#[], 0, World.alloc_heap_new w _, by simp, by simp, by simp, by simp, by simp⟩

section
variable {P : Program} {kt et t : TypeId} {w : World} {b : Nat} {R : Value → Value → Prop}
open Go.Maps (Keyed)

theorem nodup_idx {α β : Type} {f : α → β} {l : List α} (hn : (l.map f).Nodup) {i j : Nat} {a b : α} (h1 : l[i]? = some a) (h2 : l[j]? = some b) (hab : f a = f b) : i = j := by
  induction l generalizing i j with
  | nil => simp at h1
  | cons x r ih =>
    simp only [List.map_cons, List.nodup_cons, List.mem_map, not_exists, not_and] at hn
    cases i with
    | zero =>
      cases j with
      | zero => rfl
      | succ j =>
        simp only [List.getElem?_cons_zero, Option.some.injEq] at h1
        simp only [List.getElem?_cons_succ] at h2
        subst h1
        exact absurd hab.symm (hn.1 _ (List.mem_of_getElem? h2))
    | succ i =>
      cases j with
      | zero =>
        simp only [List.getElem?_cons_zero, Option.some.injEq] at h2
        simp only [List.getElem?_cons_succ] at h1
        subst h2
        exact absurd hab (hn.1 _ (List.mem_of_getElem? h1))
      | succ j =>
        simp only [List.getElem?_cons_succ] at h1 h2
        exact congrArg (· + 1) (ih hn.2 h1 h2)

theorem nodup_key_eq {es : List MapEntry} (hn : (es.map (·.key)).Nodup) {e e' : MapEntry} (h : e ∈ es) (h' : e' ∈ es) (hk : e.key = e'.key) : e = e' := by
  obtain ⟨i, hi⟩ := List.mem_iff_getElem?.1 h
  obtain ⟨j, hj⟩ := List.mem_iff_getElem?.1 h'
  have := nodup_idx hn hi hj hk
  subst this
  rw [hi] at hj
  exact Option.some.inj hj

theorem MapRel.look (h : MapRel P kt w b R) (K : Keyed P kt) (ht : P.underlying t = some (.map kt et)) {z : Value} (hz : (zeroValue et).run P w = .ok z w) (c : Bool) {key : Value} {kl : Lit} (hkey : keyOf P kt key = some kl) :
    ((∀ v, ¬ R key v) ∧ (Instr.lookup t (.map (some b)) key c).run P w = .ok (if c then .tuple #[z, .bool false] else z) w) ∨
    (∃ v, R key v ∧ (Instr.lookup t (.map (some b)) key c).run P w = .ok (if c then .tuple #[v, .bool true] else v) w) := by
  obtain ⟨es, clock, hb, hk, hn, hr, hbn, hbc⟩ := h
  rcases K.find w hkey es.toList hk with ⟨h1, h2⟩ | ⟨j, e0, h1, h2, h3⟩
  · exact .inl ⟨fun v hv => by obtain ⟨e, he, e1, _⟩ := (hr _ _).1 hv; exact h2 e he e1,
      by simp [Instr.lookup, run_underlying ht, MapKept.run_getObj_map hb, K.check w _ hkey, h1, hz, Result.andThen]⟩
  · exact .inr ⟨e0.val, (hr _ _).2 ⟨e0, List.mem_of_getElem? h2, h3, rfl⟩,
      by simp [Instr.lookup, run_underlying ht, MapKept.run_getObj_map hb, K.check w _ hkey, h1, Result.andThen]⟩

theorem MapRel.fn (h : MapRel P kt w b R) {k v v' : Value} (h1 : R k v) (h2 : R k v') : v = v' := by
  obtain ⟨es, clock, hb, hk, hn, hr, hbn, hbc⟩ := h
  obtain ⟨e, he, e1, rfl⟩ := (hr _ _).1 h1
  obtain ⟨e', he', e1', rfl⟩ := (hr _ _).1 h2
  rw [nodup_key_eq hn he he' (e1.trans e1'.symm)]

theorem MapRel.update (h : MapRel P kt w b R) (K : Keyed P kt) (ht : P.underlying t = some (.map kt et)) {key : Value} {kl : Lit} (hkey : keyOf P kt key = some kl) (val : Value) :
    ∃ es' clock', (Instr.mapUpdate t (.map (some b)) key val).run P w = .ok () (w.putObj b (.map es' clock')) ∧
      MapRel P kt (w.putObj b (.map es' clock')) b (fun k v => (k = key ∧ v = val) ∨ (k ≠ key ∧ R k v)) := by
  obtain ⟨es, clock, hb, hk, hn, hr, hbn, hbc⟩ := h
  have hlt := (Array.getElem?_eq_some_iff.1 hb).1
  rcases K.find w hkey es.toList hk with ⟨h1, h2⟩ | ⟨j, e0, h1, h2, h3⟩
  · refine ⟨es.push ⟨key, val, clock⟩, clock + 1, ?_, es.push ⟨key, val, clock⟩, clock + 1, World.putObj_heap_same hlt, ?_, ?_, ?_, ?_, ?_⟩
    · simp [Instr.mapUpdate, run_underlying ht, MapKept.run_getObj_map hb, K.check w false hkey, h1, MapKept.run_setObj_map _ hb, Result.andThen, World.putObj]
    · intro e he
      simp only [Array.toList_push, List.mem_append, List.mem_singleton] at he
      rcases he with he | rfl
      · exact hk e he
      · exact ⟨kl, hkey⟩
    · simp only [Array.toList_push, List.map_append, List.map_cons, List.map_nil]
      rw [List.nodup_append]
      refine ⟨hn, by simp, ?_⟩
      rintro a ha c hc rfl
      simp only [List.mem_cons, List.not_mem_nil, or_false] at hc
      obtain ⟨e, he, rfl⟩ := List.mem_map.1 ha
      exact h2 e he hc
    · intro k v
      simp only [Array.toList_push, List.mem_append, List.mem_singleton]
      constructor
      · rintro (⟨rfl, rfl⟩ | ⟨hne, hR⟩)
        · exact ⟨_, .inr rfl, rfl, rfl⟩
        · obtain ⟨e, he, r⟩ := (hr _ _).1 hR
          exact ⟨e, .inl he, r⟩
      · rintro ⟨e, he | rfl, rfl, rfl⟩
        · exact .inr ⟨h2 e he, (hr _ _).2 ⟨e, he, rfl, rfl⟩⟩
        · exact .inl ⟨rfl, rfl⟩
    · simp only [Array.toList_push, List.map_append, List.map_cons, List.map_nil]
      rw [List.nodup_append]
      refine ⟨hbn, by simp, ?_⟩
      rintro a ha c hc rfl
      simp only [List.mem_cons, List.not_mem_nil, or_false] at hc
      obtain ⟨e, he, rfl⟩ := List.mem_map.1 ha
      have := hbc e he
      omega
    · intro e he
      simp only [Array.toList_push, List.mem_append, List.mem_singleton] at he
      rcases he with he | rfl
      · have := hbc e he; omega
      · simp
  · have hjl : j < es.toList.length := (List.getElem?_eq_some_iff.1 h2).1
    have hjs : j < es.size := by simpa using hjl
    have hj : es[j]? = some e0 := by simpa using h2
    have hmod : (es.modify j (fun e => { e with key, val := val })).toList = es.toList.modify j (fun e => { e with key, val := val }) := by simp
    have hm0 : e0 ∈ es.toList := List.mem_of_getElem? h2
    have hmem : ∀ e, e ∈ (es.modify j (fun e => { e with key, val := val })).toList ↔ (e = { e0 with key, val := val } ∨ (e ∈ es.toList ∧ e.key ≠ key)) := by
      intro e
      rw [hmod]
      constructor
      · intro he
        obtain ⟨i, hi⟩ := List.mem_iff_getElem?.1 he
        rw [List.getElem?_modify] at hi
        by_cases hij : j = i
        · subst hij
          simp [h2] at hi
          exact .inl hi.symm
        · have hi' : es.toList[i]? = some e := by simpa [hij] using hi
          exact .inr ⟨List.mem_of_getElem? hi', fun hek => hij (nodup_idx hn h2 hi' (h3.trans hek.symm))⟩
      · rintro (rfl | ⟨he, hek⟩)
        · exact List.mem_iff_getElem?.2 ⟨j, by rw [List.getElem?_modify]; simp [h2]⟩
        · obtain ⟨i, hi⟩ := List.mem_iff_getElem?.1 he
          refine List.mem_iff_getElem?.2 ⟨i, ?_⟩
          rw [List.getElem?_modify]
          by_cases hij : j = i
          · subst hij
            rw [h2] at hi
            cases hi
            exact absurd h3 hek
          · simp [hij, hi]
    refine ⟨es.modify j (fun e => { e with key, val := val }), clock, ?_, es.modify j (fun e => { e with key, val := val }), clock, World.putObj_heap_same hlt, ?_, ?_, ?_, ?_, ?_⟩
    · simp [Instr.mapUpdate, run_underlying ht, MapKept.run_getObj_map hb, K.check w false hkey, h1, hj, h3, K.stays w hkey, MapKept.run_setObj_map _ hb, Result.andThen, World.putObj]
    · intro e he
      rcases (hmem e).1 he with rfl | ⟨he, _⟩
      · exact ⟨kl, hkey⟩
      · exact hk e he
    · have : (es.modify j (fun e => { e with key, val := val })).toList.map (·.key) = es.toList.map (·.key) := by
        rw [hmod]
        apply List.ext_getElem?
        intro i
        simp only [List.getElem?_map, List.getElem?_modify]
        by_cases hij : j = i
        · subst hij; simp [h2, h3]
        · simp [hij]
      rw [this]; exact hn
    · intro k v
      constructor
      · rintro (⟨rfl, rfl⟩ | ⟨hne, hR⟩)
        · exact ⟨_, (hmem _).2 (.inl rfl), rfl, rfl⟩
        · obtain ⟨e, he, rfl, rfl⟩ := (hr _ _).1 hR
          exact ⟨e, (hmem _).2 (.inr ⟨he, hne⟩), rfl, rfl⟩
      · rintro ⟨e, he, rfl, rfl⟩
        rcases (hmem e).1 he with rfl | ⟨he, hne⟩
        · exact .inl ⟨rfl, rfl⟩
        · exact .inr ⟨hne, (hr _ _).2 ⟨e, he, rfl, rfl⟩⟩
    · have : (es.modify j (fun e => { e with key, val := val })).toList.map (·.born) = es.toList.map (·.born) := by
        rw [hmod]
        apply List.ext_getElem?
        intro i
        simp only [List.getElem?_map, List.getElem?_modify]
        by_cases hij : j = i
        · subst hij; simp [h2]
        · simp [hij]
      rw [this]; exact hbn
    · intro e he
      rcases (hmem e).1 he with rfl | ⟨he, _⟩
      · exact hbc e0 hm0
      · exact hbc e he

theorem MapRel.delete (h : MapRel P kt w b R) (K : Keyed P kt) (ht : P.underlying t = some (.map kt et)) {key : Value} {kl : Lit} (hkey : keyOf P kt key = some kl) (ty : TypeId) :
    ∃ es' clock', (Builtin.delete_ #[t, kt] ty #[.map (some b), key]).run P w = .ok (.tuple #[]) (w.putObj b (.map es' clock')) ∧
      MapRel P kt (w.putObj b (.map es' clock')) b (fun k v => k ≠ key ∧ R k v) := by
  obtain ⟨es, clock, hb, hk, hn, hr, hbn, hbc⟩ := h
  have hlt := (Array.getElem?_eq_some_iff.1 hb).1
  rcases K.find w hkey es.toList hk with ⟨h1, h2⟩ | ⟨j, e0, h1, h2, h3⟩
  · refine ⟨es, clock, ?_, es, clock, World.putObj_heap_same hlt, hk, hn, ?_, hbn, hbc⟩
    · simp [Builtin.delete_, run_underlying ht, MapKept.run_getObj_map hb, K.check w _ hkey, h1, MapKept.run_setObj_map _ hb, Result.andThen, World.putObj]
    · intro k v
      show k ≠ key ∧ R k v ↔ _
      rw [hr]
      exact ⟨fun h => h.2, fun h => ⟨fun e => by obtain ⟨x, hx, e1, _⟩ := h; exact h2 x hx (e1.trans e), h⟩⟩
  · have hjl : j < es.toList.length := (List.getElem?_eq_some_iff.1 h2).1
    have hjs : j < es.size := by simpa using hjl
    have hsub : (es.eraseIdxIfInBounds j).toList = es.toList.eraseIdx j := by
      unfold Array.eraseIdxIfInBounds
      rw [dif_pos hjs]
      simp
    have hm0 : e0 ∈ es.toList := List.mem_of_getElem? h2
    have hmem : ∀ e, e ∈ (es.eraseIdxIfInBounds j).toList ↔ e ∈ es.toList ∧ e.key ≠ key := by
      intro e
      rw [hsub]
      constructor
      · intro he
        obtain ⟨i, hi⟩ := List.mem_eraseIdx_iff_getElem?.1 he
        exact ⟨List.mem_of_getElem? hi.2, fun hek => hi.1 (nodup_idx hn hi.2 h2 (hek.trans h3.symm))⟩
      · rintro ⟨he, hek⟩
        obtain ⟨i, hi⟩ := List.mem_iff_getElem?.1 he
        refine List.mem_eraseIdx_iff_getElem?.2 ⟨i, fun e => ?_, hi⟩
        subst e
        rw [h2] at hi
        cases hi
        exact hek h3
    refine ⟨es.eraseIdxIfInBounds j, clock, ?_, es.eraseIdxIfInBounds j, clock, World.putObj_heap_same hlt, ?_, ?_, ?_, ?_, ?_⟩
    · simp [Builtin.delete_, run_underlying ht, MapKept.run_getObj_map hb, K.check w _ hkey, h1, MapKept.run_setObj_map _ hb, Result.andThen, World.putObj]
    · intro e he
      exact hk e ((hmem e).1 he).1
    · rw [hsub]
      exact List.Nodup.sublist ((List.eraseIdx_sublist _ _).map _) hn
    · intro k v
      show k ≠ key ∧ R k v ↔ _
      rw [hr]
      constructor
      · rintro ⟨hne, e, he, rfl, rfl⟩
        exact ⟨e, (hmem e).2 ⟨he, hne⟩, rfl, rfl⟩
      · rintro ⟨e, he, rfl, rfl⟩
        exact ⟨((hmem e).1 he).2, e, ((hmem e).1 he).1, rfl, rfl⟩
    · rw [hsub]
      exact List.Nodup.sublist ((List.eraseIdx_sublist _ _).map _) hbn
    · intro e he
      exact hbc e ((hmem e).1 he).1
end

end Go.Proofs.YtiacdkggbnoigaaGreatDoor

/-
  A range over a map, by what is still to come.
-/
namespace Go.Proofs.YtiacdkggbnoigaaGreatDoor
open Go Go.RowKit
open Go.ChangeMaps (setBlock)

/-- The iterator at r is under way over the map at b: the entries 'left' are still to come (key and value). -/
def Ranging (P : Program) (kt : TypeId) (w : World) (b r : Nat) (R : Value → Value → Prop) (left : List (Value × Value)) : Prop :=
  ∃ es clock since seen c0, w.heap[b]? = some (.map es clock) ∧ (∀ e ∈ es.toList, ∃ l, keyOf P kt e.key = some l) ∧ (es.toList.map (·.key)).Nodup ∧
    (∀ k v, R k v ↔ ∃ e ∈ es.toList, e.key = k ∧ e.val = v) ∧ (es.toList.map (·.born)).Nodup ∧ (∀ e ∈ es.toList, e.born < clock) ∧
    w.heap[r]? = some (.mapIter (some b) since seen c0) ∧ (∀ e ∈ es.toList, e.born < since) ∧ since ≤ c0 ∧ since ≤ clock ∧
    ((leftOf es seen).toList.map (fun e => (e.key, e.val))).Perm left

theorem Ranging.rel {P : Program} {kt : TypeId} {w : World} {b r : Nat} {R : Value → Value → Prop} {left : List (Value × Value)} (h : Ranging P kt w b r R left) : MapRel P kt w b R := by
  obtain ⟨es, clock, since, seen, c0, h1, h2, h3, h4, h5, h6, _⟩ := h
  exact ⟨es, clock, h1, h2, h3, h4, h5, h6⟩
theorem Ranging.of_heap {P : Program} {kt : TypeId} {w w' : World} {b r : Nat} {R : Value → Value → Prop} {left : List (Value × Value)} (h : Ranging P kt w b r R left) (hb : w'.heap[b]? = w.heap[b]?) (hr : w'.heap[r]? = w.heap[r]?) : Ranging P kt w' b r R left := by
  obtain ⟨es, clock, since, seen, c0, h1, h2, h3, h4, h5, h6, h7, r⟩ := h
  exact ⟨es, clock, since, seen, c0, hb.trans h1, h2, h3, h4, h5, h6, hr.trans h7, r⟩
theorem Ranging.lt {P : Program} {kt : TypeId} {w : World} {b r : Nat} {R : Value → Value → Prop} {left : List (Value × Value)} (h : Ranging P kt w b r R left) : r < w.heap.size ∧ b < w.heap.size ∧ r ≠ b := by
  obtain ⟨es, clock, since, seen, c0, h1, h2, h3, h4, h5, h6, h7, _⟩ := h
  refine ⟨(Array.getElem?_eq_some_iff.1 h7).1, (Array.getElem?_eq_some_iff.1 h1).1, fun e => ?_⟩
  subst e
  rw [h1] at h7
  cases h7

theorem Ranging.left_eq {P : Program} {kt : TypeId} {w : World} {b r : Nat} {R : Value → Value → Prop} {left : List (Value × Value)} (h : Ranging P kt w b r R left) : w.rangeLeft b r = left.length := by
  obtain ⟨es, clock, since, seen, c0, h1, h2, h3, h4, h5, h6, h7, h8, h9, h10, h11⟩ := h
  unfold World.rangeLeft
  rw [h1, h7]
  have := h11.length_eq
  simpa using this

theorem Ranging.perm {P : Program} {kt : TypeId} {w : World} {b r : Nat} {R : Value → Value → Prop} {left left' : List (Value × Value)} (h : Ranging P kt w b r R left) (hp : left.Perm left') : Ranging P kt w b r R left' := by
  obtain ⟨es, clock, since, seen, c0, h1, h2, h3, h4, h5, h6, h7, h8, h9, h10, h11⟩ := h
  exact ⟨es, clock, since, seen, c0, h1, h2, h3, h4, h5, h6, h7, h8, h9, h10, h11.trans hp⟩

/-- range begins: all entries are to come. -/
theorem MapRel.range {P : Program} {kt et t : TypeId} {w : World} {b : Nat} {R : Value → Value → Prop} (h : MapRel P kt w b R) (ht : P.underlying t = some (.map kt et)) :
    ∃ ob left, (Instr.range t (.map (some b))).run P w = .ok (.pointer (some ⟨w.heap.size, 0, none⟩)) (w.alloc ob) ∧ Ranging P kt (w.alloc ob) b w.heap.size R left ∧ (left.map (·.1)).Nodup ∧ ∀ k v, (k, v) ∈ left ↔ R k v := by
  obtain ⟨es, clock, hb, hk, hn, hr, hbn, hbc⟩ := h
  have hlt := (Array.getElem?_eq_some_iff.1 hb).1
  have hl : leftOf es #[] = es := by unfold leftOf; simp
  refine ⟨.mapIter (some b) clock #[] clock, es.toList.map (fun e => (e.key, e.val)), ?_, ⟨es, clock, clock, #[], clock, ?_, hk, hn, hr, hbn, hbc, World.alloc_heap_new _ _, hbc, Nat.le_refl _, Nat.le_refl _, by rw [hl]⟩, ?_, ?_⟩
  · simp [Instr.range, run_underlying ht, MapKept.run_getObj_map hb, Result.andThen]
  · rw [Below.heap_alloc _ _ _ hlt]; exact hb
  · rw [List.map_map]; exact hn
  · intro k v
    rw [hr, List.mem_map]
    constructor
    · rintro ⟨e, he, h⟩
      cases h
      exact ⟨e, he, rfl, rfl⟩
    · rintro ⟨e, he, rfl, rfl⟩
      exact ⟨e, he, rfl⟩

theorem leftOf_push {es : Array MapEntry} {seen : Array Nat} {e : MapEntry} (hn : (es.toList.map (·.born)).Nodup) (he : e ∈ (leftOf es seen).toList) :
    ((leftOf es seen).toList.map (fun x => (x.key, x.val))).Perm ((e.key, e.val) :: (leftOf es (seen.push e.born)).toList.map (fun x => (x.key, x.val))) := by
  have e1 : ∀ s : Array Nat, (leftOf es s).toList = es.toList.filter (fun x => !s.contains x.born) := fun s => by unfold leftOf; simp
  rw [e1] at he
  rw [e1, e1]
  have hmem := (List.mem_filter.1 he).1
  obtain ⟨X, Y, hXY⟩ := List.append_of_mem hmem
  have hpred := (List.mem_filter.1 he).2
  rw [hXY] at hn ⊢
  simp only [List.map_append, List.map_cons] at hn
  rw [List.nodup_append, List.nodup_cons] at hn
  have hfil : ∀ Z : List MapEntry, (∀ x ∈ Z, x.born ≠ e.born) → Z.filter (fun x => !(seen.push e.born).contains x.born) = Z.filter (fun x => !seen.contains x.born) := fun Z hZ => by
    apply List.filter_congr
    intro x hx
    have := hZ x hx
    simp [this]
  have hX : ∀ x ∈ X, x.born ≠ e.born := fun x hx h => hn.2.2 x.born (List.mem_map_of_mem hx) e.born (by simp) h
  have hY : ∀ x ∈ Y, x.born ≠ e.born := fun x hx h => hn.2.1.1 (by rw [← h]; exact List.mem_map_of_mem hx)
  simp only [List.filter_append, List.map_append]
  have e2 : (e :: Y).filter (fun x => !seen.contains x.born) = e :: Y.filter (fun x => !seen.contains x.born) := List.filter_cons_of_pos (p := fun x : MapEntry => !seen.contains x.born) hpred
  have e3 : (e :: Y).filter (fun x => !(seen.push e.born).contains x.born) = Y.filter (fun x => !(seen.push e.born).contains x.born) := List.filter_cons_of_neg (p := fun x : MapEntry => !(seen.push e.born).contains x.born) (by simp)
  rw [hfil X hX, e2, e3, hfil Y hY]
  simp only [List.map_cons]
  exact List.perm_middle

/-- A step: nothing is left, or one of those that are left comes. -/
theorem Ranging.next {P : Program} {kt : TypeId} {w : World} {b r : Nat} {R : Value → Value → Prop} {left : List (Value × Value)} (h : Ranging P kt w b r R left) (ty : TypeId) :
    (left = [] ∧ (Instr.next (.pointer (some ⟨r, 0, none⟩)) false ty).run P w = .ok (.tuple #[.bool false]) w) ∨
    ∃ k v left' w', left.Perm ((k, v) :: left') ∧ R k v ∧ (Instr.next (.pointer (some ⟨r, 0, none⟩)) false ty).run P w = .ok (.tuple #[.bool true, k, v]) w' ∧ Ranging P kt w' b r R left' ∧ Keep (fun i => i = r) w w' ∧ w'.heap.size = w.heap.size ∧
      (Instr.entry (.pointer (some ⟨r, 0, none⟩))).run P w' = .ok (.tuple #[k, v]) w' := by
  have hne := h.lt
  obtain ⟨es, clock, since, seen, c0, h1, h2, h3, h4, h5, h6, h7, h8, h9, h10, h11⟩ := h
  rcases run_next_at (P := P) w ty r b since c0 seen es clock h7 h1 h8 h9 with ⟨h0, hrun⟩ | ⟨e, he, w1, hw1, hrun⟩
  · left
    refine ⟨?_, hrun⟩
    have : (leftOf es seen).toList = [] := by
      apply List.eq_nil_of_length_eq_zero
      simpa using h0
    rw [this] at h11
    exact List.perm_nil.1 h11.symm
  · right
    have hmem : e ∈ es.toList := by unfold leftOf at he; simp at he ⊢; exact he.1
    have hb1 : w1.heap = w.heap := by rcases hw1 with rfl | rfl <;> rfl
    have hset : ∀ i, i ≠ r → (setBlock w1 r (.mapIter (some b) since (seen.push e.born) clock)).heap[i]? = w.heap[i]? := fun i hi => by
      rw [← hb1]; simp [setBlock, Ne.symm hi]
    have hsz : (setBlock w1 r (.mapIter (some b) since (seen.push e.born) clock)).heap.size = w.heap.size := by simp [setBlock, hb1]
    have hr' : (setBlock w1 r (.mapIter (some b) since (seen.push e.born) clock)).heap[r]? = some (.mapIter (some b) since (seen.push e.born) clock) := by
      have := hne.1
      simp [setBlock, hb1, this]
    have hb' := (hset b (Ne.symm hne.2.2)).trans h1
    refine ⟨e.key, e.val, _, setBlock w1 r (.mapIter (some b) since (seen.push e.born) clock), h11.symm.trans (leftOf_push h5 he), (h4 _ _).2 ⟨e, hmem, rfl, rfl⟩, hrun, ⟨es, clock, since, _, clock, hb', h2, h3, h4, h5, h6, hr', h8, h10, h10, List.Perm.refl _⟩, ⟨?_, ?_, ?_, by rw [hsz]; exact Nat.le_refl _, fun i _ hi => hset i hi⟩, hsz, ?_⟩
    · rcases hw1 with rfl | rfl <;> rfl
    · rcases hw1 with rfl | rfl <;> rfl
    · rcases hw1 with rfl | rfl <;> rfl
    · exact run_entry_at _ r b since seen es clock e hr' hb' hmem h5
end Go.Proofs.YtiacdkggbnoigaaGreatDoor

/-
  A map's length; an update while a range is under way; regions whose callees lay blocks.
-/
namespace Go.Proofs.YtiacdkggbnoigaaGreatDoor
open Go Go.RowKit
open Go.Maps (Keyed)

theorem filter_modify {α : Type} {p : α → Bool} {f : α → α} : ∀ (l : List α) (j : Nat), (∀ x, l[j]? = some x → p x = false ∧ p (f x) = false) → (l.modify j f).filter p = l.filter p
  | [], j, _ => by cases j <;> rfl
  | x :: r, 0, h => by
    obtain ⟨h1, h2⟩ := h x rfl
    rw [List.modify_zero_cons, List.filter_cons, List.filter_cons, h1, h2]; simp
  | x :: r, j + 1, h => by
    rw [List.modify_succ_cons, List.filter_cons, List.filter_cons, filter_modify r j (fun y hy => h y (by simpa using hy))]

/-- An entry that has come already is given a new value. -/
theorem Ranging.update {P : Program} {kt et t : TypeId} {w : World} {b r : Nat} {R : Value → Value → Prop} {left : List (Value × Value)} (h : Ranging P kt w b r R left) (K : Keyed P kt) (ht : P.underlying t = some (.map kt et)) {key : Value} {kl : Lit} (hkey : keyOf P kt key = some kl) (val : Value)
    {v0 : Value} (hv : R key v0) (hl : ∀ p ∈ left, p.1 ≠ key) {w' : World} (hrun : (Instr.mapUpdate t (.map (some b)) key val).run P w = .ok () w') : Ranging P kt w' b r (fun k v => (k = key ∧ v = val) ∨ (k ≠ key ∧ R k v)) left := by
  have hne := h.lt
  obtain ⟨es, clock, since, seen, c0, hb, hk, hn, hr, hbn, hbc, h7, h8, h9, h10, h11⟩ := h
  have hlt := hne.2.1
  rcases K.find w hkey es.toList hk with ⟨h1, h2⟩ | ⟨j, e0, h1, h2, h3⟩
  · obtain ⟨e, he, e1, _⟩ := (hr _ _).1 hv
    exact absurd e1 (h2 e he)
  · have hjl : j < es.toList.length := (List.getElem?_eq_some_iff.1 h2).1
    have hj : es[j]? = some e0 := by simpa using h2
    have hmod : (es.modify j (fun e => { e with key, val := val })).toList = es.toList.modify j (fun e => { e with key, val := val }) := by simp
    have hm0 : e0 ∈ es.toList := List.mem_of_getElem? h2
    have hmem : ∀ e, e ∈ (es.modify j (fun e => { e with key, val := val })).toList ↔ (e = { e0 with key, val := val } ∨ (e ∈ es.toList ∧ e.key ≠ key)) := by
      intro e
      rw [hmod]
      constructor
      · intro he
        obtain ⟨i, hi⟩ := List.mem_iff_getElem?.1 he
        rw [List.getElem?_modify] at hi
        by_cases hij : j = i
        · subst hij
          simp [h2] at hi
          exact .inl hi.symm
        · have hi' : es.toList[i]? = some e := by simpa [hij] using hi
          exact .inr ⟨List.mem_of_getElem? hi', fun hek => hij (nodup_idx hn h2 hi' (h3.trans hek.symm))⟩
      · rintro (rfl | ⟨he, hek⟩)
        · exact List.mem_iff_getElem?.2 ⟨j, by rw [List.getElem?_modify]; simp [h2]⟩
        · obtain ⟨i, hi⟩ := List.mem_iff_getElem?.1 he
          refine List.mem_iff_getElem?.2 ⟨i, ?_⟩
          rw [List.getElem?_modify]
          by_cases hij : j = i
          · subst hij
            rw [h2] at hi
            cases hi
            exact absurd h3 hek
          · simp [hij, hi]
    have hrun' : (Instr.mapUpdate t (.map (some b)) key val).run P w = .ok () (w.putObj b (.map (es.modify j (fun e => { e with key, val := val })) clock)) := by
      simp [Instr.mapUpdate, run_underlying ht, MapKept.run_getObj_map hb, K.check w false hkey, h1, hj, h3, K.stays w hkey, MapKept.run_setObj_map _ hb, Result.andThen, World.putObj]
    rw [hrun'] at hrun
    cases hrun
    refine ⟨es.modify j (fun e => { e with key, val := val }), clock, since, seen, c0, World.putObj_heap_same hlt, ?_, ?_, ?_, ?_, ?_, ?_, ?_, h9, h10, ?_⟩
    · intro e he
      rcases (hmem e).1 he with rfl | ⟨he, _⟩
      · exact ⟨kl, hkey⟩
      · exact hk e he
    · have : (es.modify j (fun e => { e with key, val := val })).toList.map (·.key) = es.toList.map (·.key) := by
        rw [hmod]
        apply List.ext_getElem?
        intro i
        simp only [List.getElem?_map, List.getElem?_modify]
        by_cases hij : j = i
        · subst hij; simp [h2, h3]
        · simp [hij]
      rw [this]; exact hn
    · intro k v
      constructor
      · rintro (⟨rfl, rfl⟩ | ⟨hne, hR⟩)
        · exact ⟨_, (hmem _).2 (.inl rfl), rfl, rfl⟩
        · obtain ⟨e, he, rfl, rfl⟩ := (hr _ _).1 hR
          exact ⟨e, (hmem _).2 (.inr ⟨he, hne⟩), rfl, rfl⟩
      · rintro ⟨e, he, rfl, rfl⟩
        rcases (hmem e).1 he with rfl | ⟨he, hne⟩
        · exact .inl ⟨rfl, rfl⟩
        · exact .inr ⟨hne, (hr _ _).2 ⟨e, he, rfl, rfl⟩⟩
    · have : (es.modify j (fun e => { e with key, val := val })).toList.map (·.born) = es.toList.map (·.born) := by
        rw [hmod]
        apply List.ext_getElem?
        intro i
        simp only [List.getElem?_map, List.getElem?_modify]
        by_cases hij : j = i
        · subst hij; simp [h2]
        · simp [hij]
      rw [this]; exact hbn
    · intro e he
      rcases (hmem e).1 he with rfl | ⟨he, _⟩
      · exact hbc e0 hm0
      · exact hbc e he
    · rw [World.putObj_heap_other hne.2.2]; exact h7
    · intro e he
      rcases (hmem e).1 he with rfl | ⟨he, _⟩
      · exact h8 e0 hm0
      · exact h8 e he
    · have e1 : ∀ (z : Array MapEntry) (s : Array Nat), (leftOf z s).toList = z.toList.filter (fun x => !s.contains x.born) := fun z s => by unfold leftOf; simp
      rw [e1, hmod, filter_modify, ← e1]
      · exact h11
      · intro x hx
        rw [h2] at hx
        cases hx
        have : (!seen.contains e0.born) = false := by
          cases hc : (!seen.contains e0.born) with
          | false => rfl
          | true =>
            have hin : e0 ∈ (leftOf es seen).toList := by rw [e1]; exact List.mem_filter.2 ⟨hm0, hc⟩
            exact absurd h3 (hl (e0.key, e0.val) (h11.mem_iff.1 (List.mem_map_of_mem (f := fun e : MapEntry => (e.key, e.val)) hin)))
        exact ⟨this, this⟩

/-- The length of a map whose entries are known. -/
theorem MapRel.len {P : Program} {kt et t : TypeId} {w : World} {b : Nat} {R : Value → Value → Prop} (h : MapRel P kt w b R) (ht : P.underlying t = some (.map kt et)) :
    ∃ left : List (Value × Value), (left.map (·.1)).Nodup ∧ (∀ k v, (k, v) ∈ left ↔ R k v) ∧ ∀ ty, (Builtin.len_ #[t] ty #[.map (some b)]).run P w = .ok (.int .i64 left.length) w := by
  obtain ⟨es, clock, hb, hk, hn, hr, hbn, hbc⟩ := h
  refine ⟨es.toList.map (fun e => (e.key, e.val)), ?_, ?_, fun ty => ?_⟩
  · rw [List.map_map]; exact hn
  · intro k v
    rw [hr, List.mem_map]
    constructor
    · rintro ⟨e, he, h⟩
      cases h
      exact ⟨e, he, rfl, rfl⟩
    · rintro ⟨e, he, rfl, rfl⟩
      exact ⟨e, he, rfl⟩
  · simp [Builtin.len_, run_underlying ht, MapKept.run_getObj_map hb, goInt, Result.andThen]

/-- A world that has kept all blocks. -/
structure KW (w : World) where
  val : World
  k : Keep (fun _ => False) w val

instance (w : World) : Nonempty (KW w) := ⟨⟨w, Keep.refl _ w⟩⟩
theorem wp_region_quiet_kept {P : Program} {id : Nat} {Q : Exit → Act → World → Prop} {a : Act} {w : World} {l : List Oper} (hm : P.follows .mixedOrders = true) (hB : Region.lexB .any l.toArray = true)
    (h : wpQuiet P l.toArray (fun w' => ∃ p : KW w, w' = p.val) (fun a' => ∀ w', (∃ p : KW w, w' = p.val) → Q .normal a' w') l a) : (Code.region id l.toArray true).wp P Q a w :=
  wp_region_quiet (C := fun w' => ∃ p : KW w, w' = p.val) hm hB ⟨⟨w.drew, (Keep.refl _ w).drew⟩, rfl⟩ (by simpa using h)
theorem Calls.kept_of {P : Program} {f : FuncId} {args : Array Value} {w : World} {p : KW w} {v : Value}
    (h : Calls P f args p.val fun e w' => e = .returned v ∧ Keep (fun _ => False) p.val w') : Calls P f args p.val fun e w'' => e = .returned v ∧ ∃ q : KW w, w'' = q.val :=
  h.mono fun _ w' ⟨he, hk⟩ => ⟨he, ⟨w', p.k.trans hk⟩, rfl⟩
end Go.Proofs.YtiacdkggbnoigaaGreatDoor

/-
  A region that draws its order: operations that only read and callees that keep all blocks, then a tail in the order of the text.
-/
namespace Go.Proofs.YtiacdkggbnoigaaGreatDoor
open Go Go.RowKit

variable {P : Program} {md : Region.Mode} {ops : Array Oper} {C : World → Prop}

/-- Whatever order is picked for f operations ahead of n; then L. -/
def headQ (P : Program) (md : Region.Mode) (ops : Array Oper) (C : World → Prop) (n : Nat) (L : Array Bool → Act → Prop) : Nat → Array Bool → Act → Prop
  | 0, listed, a => L listed a
  | f + 1, listed, a => Region.ready md ops listed ≠ [] ∧ ∀ i ∈ Region.ready md ops listed, i < n ∧ qOp P ops C i (headQ P md ops C n L f (listed.setIfInBounds i true)) a

theorem wpAny_of_headQ {n g : Nat} {L : Array Bool → Act → Prop} {Q' : Exit → Act → World → Prop} (hL : ∀ listed a w, C w → L listed a → wpAny P md ops Q' g listed a w) :
    ∀ (f : Nat) (listed : Array Bool) (a : Act) (w : World), C w → headQ P md ops C n L f listed a → wpAny P md ops Q' (f + g) listed a w
  | 0, listed, a, w, hw, h => by rw [Nat.zero_add]; exact hL _ _ _ hw h
  | f + 1, listed, a, w, hw, h => by
    rw [show f + 1 + g = (f + g) + 1 by omega]
    exact ⟨fun h0 => absurd h0 h.1, fun i hi => wpOp_of_qOp hw (fun a' w' hw' h' => wpAny_of_headQ hL f _ a' w' hw' h') (h.2 i hi).2⟩

theorem headQ_first {n i : Nat} {oi : Oper} {v : Value} {L : Array Bool → Act → Prop} (hi : ops[i]? = some oi) (hsel : ∀ (j : Nat) (o : Oper) cs b, ops[j]? = some o → o.op ≠ .select cs b)
    (hs : Region.sinkB md ops n = true) (hc : Region.chainB md ops n = true) (hn : n < ops.size) (hin : i < n) (hdone : ∀ listed a, L listed a → ∀ j ∈ Region.ready md ops listed, n ≤ j) :
    ∀ (f : Nat) (listed : Array Bool) (a : Act), HeadInv md ops n listed →
      (∀ j oj, ops[j]? = some oj → j ≠ i → listed.getD j true = false → (∀ e ∈ oj.after, Region.binds md e = true → e.on ≠ i) → oi.apart ops oj = true) →
      i ∈ Region.ready md ops listed → YieldsIn P ops C oi v a →
      headQ P md ops C n L f (listed.setIfInBounds i true) (a.put oi.dst v) → headQ P md ops C n L (f + 1) listed a := by
  intro f
  induction f with
  | zero =>
    intro listed a inv _ hr hy H
    have hun := (mem_ready.1 hr).1
    refine ⟨fun h => (by rw [h] at hr; cases hr), fun j hj => ?_⟩
    have hjn : j < n := by
      rcases Nat.lt_or_ge j n with h | h
      · exact h
      · exact absurd hj (tail_waits hs hc hn inv _ i rfl hin hun j h)
    refine ⟨hjn, ?_⟩
    by_cases hji : j = i
    · subst hji; exact hy.qOp hi H
    · have := hdone _ _ H j (ready_mono hj hji)
      omega
  | succ f ih =>
    intro listed a inv hfree hr hy H
    have hun := (mem_ready.1 hr).1
    refine ⟨fun h => (by rw [h] at hr; cases hr), fun j hj => ?_⟩
    have hjn : j < n := by
      rcases Nat.lt_or_ge j n with h | h
      · exact h
      · exact absurd hj (tail_waits hs hc hn inv _ i rfl hin hun j h)
    refine ⟨hjn, ?_⟩
    by_cases hji : j = i
    · subst hji; exact hy.qOp hi H
    · have h1 := (H.2 j (ready_mono hj hji)).2
      obtain ⟨hjun, oj, hoj, hall⟩ := mem_ready.1 hj
      have hnot : ∀ e ∈ oj.after, Region.binds md e = true → e.on ≠ i := fun e he hb heq => by
        have h1 := hall e he hb
        rw [heq, getD_both hun] at h1
        cases h1
      have h2 := qOp_put hoj (hfree j oj hoj hji hjun hnot) (fun cs b => hsel i oi cs b hi) (fun cs b => hsel j oj cs b hoj) hy h1
      have hfree' : ∀ k ok, ops[k]? = some ok → k ≠ i → (listed.setIfInBounds j true).getD k true = false →
          (∀ e ∈ ok.after, Region.binds md e = true → e.on ≠ i) → oi.apart ops ok = true := fun k ok hk hki hun hno => by
        refine hfree k ok hk hki ?_ hno
        by_cases hjk : j = k
        · subst hjk; exact hjun
        · rw [getD_set_ne true hjk] at hun; exact hun
      refine qOp_mono (fun a' h3 => ih (listed.setIfInBounds j true) a' (inv.set hj hjn) hfree' (ready_mono hr (Ne.symm hji)) h3.1 ?_) h2
      rw [Array.setIfInBounds_comm _ _ hji]
      exact h3.2

theorem headQ_lex {n g : Nat} {Lq : Act → Prop} (hsel : Region.noSelect ops = true) (hs : Region.sinkB md ops n = true) (hc : Region.chainB md ops n = true) (hn : n < ops.size) :
    ∀ (l : List Oper) (k : Nat) (listed : Array Bool) (a : Act), (∀ j, j < l.length → l[j]? = ops[k + j]?) → k + l.length = n → HeadInv md ops n listed →
    Region.lexHead md ops g l.length k listed = true → wpQuiet P ops C Lq l a →
    headQ P md ops C n (fun listed' a' => Region.seqB md ops g n listed' = true ∧ Lq a') l.length listed a
  | [], k, listed, a, _, hk, _, hB, h => by
    have : k = n := by simpa using hk
    subst this
    exact ⟨by simpa [Region.lexHead] using hB, h⟩
  | o :: l, k, listed, a, hl, hk, inv, hB, h => by
    have h0 : ops[k]? = some o := by simpa using (hl 0 (by simp)).symm
    simp only [List.length_cons, Region.lexHead, Bool.and_eq_true] at hB
    obtain ⟨⟨hr, hf⟩, hB'⟩ := hB
    have hkn : k < n := by simp only [List.length_cons] at hk; omega
    have hr' : k ∈ Region.ready md ops listed := by simpa using hr
    have hst : qOp P ops C k (wpQuiet P ops C Lq l) a := by unfold qOp; simp only [h0]; exact h
    obtain ⟨v, hy, hK⟩ := yieldsIn_of_qOp h0 hst
    exact headQ_first h0 (Region.noSelect_spec hsel) hs hc hn hkn (fun listed' a' hL => seqB_ready hL.1) l.length listed a inv (Region.free_spec h0 hf) hr' hy
      (headQ_lex hsel hs hc hn l (k + 1) _ _ (fun j hj => by have := hl (j + 1) (by simp; omega); simpa [Nat.add_assoc, Nat.add_comm 1 j] using this) (by simp only [List.length_cons] at hk; omega) (inv.set hr' hkn) hB' hK)

theorem wp_region_kept_tail {id : Nat} {Q : Exit → Act → World → Prop} {a : Act} {w : World} {l : List Oper} (n : Nat) (hm : P.follows .mixedOrders = true) (hB : Region.lexTailB .any l.toArray n = true)
    (h : wpQuiet P l.toArray (fun w' => ∃ p : KW w, w' = p.val) (fun a' => ∀ p : KW w, wpList P l.toArray Q (l.drop n) a' p.val) (l.take n) a) : (Code.region id l.toArray true).wp P Q a w := by
  simp only [Region.lexTailB, Bool.and_eq_true, decide_eq_true_eq] at hB
  obtain ⟨⟨⟨⟨hsel, hn⟩, hs⟩, hc⟩, hlex⟩ := hB
  have hn' : n < l.length := by simpa using hn
  have htl : (l.take n).length = n := by simp; omega
  have hdl : (l.drop n).length = l.toArray.size - n := by simp
  have inv0 : HeadInv .any l.toArray n (Array.replicate l.toArray.size false) :=
    ⟨by simp, fun j oj _ hl => (by rw [getD_replicate_false] at hl; cases hl), fun t _ ht => getD_in (by simpa using ht) (getD_replicate_false _ _)⟩
  have H := headQ_lex (C := fun w' => ∃ p : KW w, w' = p.val) (md := .any) (g := l.toArray.size - n) hsel hs hc hn (l.take n) 0 _ a (fun j hj => by
    have hj' : j < n := by rw [htl] at hj; exact hj
    simp [hj']) (by simpa using htl) inv0 (by rw [htl]; exact hlex) h
  refine wp_region_any hm ?_
  have := wpAny_of_headQ (Q' := Q) (g := l.toArray.size - n) (fun listed a' w' hw' hL => by
    obtain ⟨p, rfl⟩ := hw'
    have := wpAny_of_seq (md := .any) (Q' := Q) (l.drop n) n listed a' p.val (fun j => by simp [List.getElem?_drop]) (by rw [hdl]; exact hL.1) (hL.2 p)
    rwa [hdl] at this) _ _ _ { w with drawn := w.drawn + 1 } ⟨⟨w.drew, (Keep.refl _ w).drew⟩, rfl⟩ H
  rw [htl, show n + (l.toArray.size - n) = l.toArray.size by omega] at this
  exact this
end Go.Proofs.YtiacdkggbnoigaaGreatDoor

/-
  A region that draws its order and holds calls that write: what only reads is taken ahead; the calls come one after the other.
-/
namespace Go.Proofs.YtiacdkggbnoigaaGreatDoor
open Go Go.RowKit

section
variable {P : Program} {md : Region.Mode} {ops : Array Oper} {C : World → Prop}

abbrev noQ : Exit → Act → World → Prop := fun _ _ _ => False

/-- In every world of C, operation o leaves v, and the world as it is. -/
def YC (P : Program) (ops : Array Oper) (C : World → Prop) (o : Oper) (v : Value) (a : Act) : Prop :=
  (Region.wanted o (yielded ops a.tmps) = true ∧ ∀ w, C w → o.quietAt P a (fun w'' => w'' = w) w v) ∨ (Region.wanted o (yielded ops a.tmps) = false ∧ v = undef)

theorem YC.of_same {o : Oper} {v : Value} {a a' : Act} (hy : YC P ops C o v a) (he : execOp a'.eval o = execOp a.eval o) (hw : Region.wanted o (yielded ops a'.tmps) = Region.wanted o (yielded ops a.tmps)) : YC P ops C o v a' := by
  unfold YC Oper.quietAt at *
  rw [he, hw]
  exact hy

theorem YC.wpOp {i : Nat} {o : Oper} {v : Value} {a : Act} {w : World} {K : Act → World → Prop} (hi : ops[i]? = some o) (hy : YC P ops C o v a) (hC : C w) (h : K (a.put o.dst v) w) : wpOp P ops noQ i K a w := by
  unfold Go.wpOp
  simp only [hi]
  rcases hy with ⟨hw, hv⟩ | ⟨hw, rfl⟩
  · simp only [hw, if_true]
    refine .inl ?_
    have h3 := hv w hC
    unfold Oper.quietAt at h3
    unfold Oper.wp
    generalize (execOp a.eval o).run P w = r at *
    cases r with
    | ok n w' =>
      cases n <;> simp only [Oper.quietUpon] at h3 <;> simp only [Oper.upon]
      case value u => obtain ⟨e1, e2⟩ := h3; rw [e1, e2]; exact h
      case skip => obtain ⟨e1, e2⟩ := h3; rw [e1, ← e2]; exact h
      case enter f args =>
        obtain ⟨e1, hc⟩ := h3
        rw [e1]
        exact hc.mono fun e w'' ⟨he, hw''⟩ => by subst he; rw [hw'']; exact h
    | halt x w' => simp only [Oper.quietUpon] at h3
  · simp only [hw, Bool.false_eq_true, if_false]; exact h

theorem wpOp_weak {i : Nat} {a : Act} {w : World} {K K' : Act → World → Prop} {Q' : Exit → Act → World → Prop} (hK : ∀ a w, K a w → K' a w) (h : wpOp P ops noQ i K a w) : wpOp P ops Q' i K' a w := by
  unfold wpOp at *
  split
  · rename_i ho; simp only [ho] at h; exact hK _ _ h
  · rename_i o ho
    simp only [ho] at h
    split
    · rename_i hw
      simp only [hw, if_true] at h
      rcases h with h | ⟨_, _, _, hf⟩
      · refine .inl ?_
        unfold Oper.wp at *
        generalize (execOp a.eval o).run P w = r at *
        cases r with
        | ok n w' =>
          cases n <;> simp only [Oper.upon] at h ⊢ <;>
            first
              | exact hK _ _ h
              | exact Calls.mono h (fun e w'' he => by cases e <;> first | exact hK _ _ he | exact he.elim | (obtain ⟨_, _, hf⟩ := he; exact hf.elim))
              | exact Rows.mono h (fun _ _ he => hK _ _ he)
        | halt x w' => cases x <;> simp only [Oper.upon] at h <;> exact h.elim
      · exact hf.elim
    · rename_i hw; simp only [hw] at h; exact hK _ _ h

theorem wpOp_putC {j : Nat} {oi oj : Oper} {v : Value} (hj : ops[j]? = some oj) (hap : oi.apart ops oj = true) (hsi : ∀ cs b, oi.op ≠ .select cs b) (hsj : ∀ cs b, oj.op ≠ .select cs b) {K : Act → World → Prop} {a : Act} {w : World}
    (hy : YC P ops C oi v a) (h : wpOp P ops noQ j K (a.put oi.dst v) w) : wpOp P ops noQ j (fun a' w' => YC P ops C oi v a' ∧ K (a'.put oi.dst v) w') a w := by
  obtain ⟨h1, h2, h3⟩ := Oper.apart_spec hap
  have keep : ∀ (a : Act), YC P ops C oi v a → ∀ u, YC P ops C oi v (a.put oj.dst u) := fun a hy u => hy.of_same (execOp_put oi hsi a oj.dst u h3) (wanted_put oi a oj.dst u h3)
  have keepD : ∀ d, YC P ops C oi v { a with defers := d :: a.defers } := fun d => hy.of_same rfl rfl
  unfold wpOp at *
  simp only [hj] at *
  rw [wanted_put oj a oi.dst v h1] at h
  split
  · rename_i hw
    simp only [hw, if_true] at h
    rcases h with h | ⟨_, _, _, hf⟩
    case inr => exact hf.elim
    refine .inl ?_
    unfold Oper.wp at *
    rw [execOp_put oj hsj a oi.dst v h1] at h
    generalize (execOp a.eval oj).run P w = r at *
    cases r with
    | ok n w' =>
      cases n <;> simp only [Oper.upon] at h ⊢
      case value u => exact ⟨keep a hy u, by rw [← Act.put_comm a v u h2]; exact h⟩
      case skip => exact ⟨keep a hy _, by rw [← Act.put_comm a v undef h2]; exact h⟩
      case defer d =>
        refine ⟨keep _ (keepD d) _, ?_⟩
        rw [← Act.put_comm _ v undef h2, ← Act.put_defers]
        exact h
      case enter f args =>
        refine Calls.mono h fun e w'' he => ?_
        cases e with
        | returned u => exact ⟨keep a hy u, by rw [← Act.put_comm a v u h2]; exact he⟩
        | panicked c => exact he
        | outgrown => exact he
      case row row args => exact Rows.mono h fun u w'' he => ⟨keep a hy u, by rw [← Act.put_comm a v u h2]; exact he⟩
    | halt x w' => cases x <;> simp only [Oper.upon] at h <;> exact h.elim
  · rename_i hw
    simp only [hw] at h
    exact ⟨keep a hy _, by rw [← Act.put_comm a v undef h2]; exact h⟩

/-- Whatever order is picked from here on; every world lies in C. -/
def wpC (P : Program) (md : Region.Mode) (ops : Array Oper) (C : World → Prop) (Q : Act → World → Prop) : Nat → Array Bool → Act → World → Prop
  | 0, listed, a, w => C w ∧ Region.ready md ops listed = [] ∧ Q a w
  | f + 1, listed, a, w => C w ∧ (Region.ready md ops listed = [] → Q a w) ∧ ∀ i ∈ Region.ready md ops listed, wpOp P ops noQ i (wpC P md ops C Q f (listed.setIfInBounds i true)) a w

theorem wpC.cls {Q : Act → World → Prop} : ∀ {f : Nat} {listed : Array Bool} {a : Act} {w : World}, wpC P md ops C Q f listed a w → C w
  | 0, _, _, _, h => h.1
  | _ + 1, _, _, _, h => h.1

theorem wpAny_of_wpC {Q : Act → World → Prop} {Q' : Exit → Act → World → Prop} (hQ : ∀ a w, Q a w → Q' .normal a w) : ∀ (f : Nat) (listed : Array Bool) (a : Act) (w : World), wpC P md ops C Q f listed a w → wpAny P md ops Q' f listed a w
  | 0, _, _, _, h => ⟨h.2.1, hQ _ _ h.2.2⟩
  | f + 1, _, _, _, h => ⟨fun h0 => hQ _ _ (h.2.1 h0), fun i hi => wpOp_weak (fun a' w' h' => wpAny_of_wpC hQ f _ a' w' h') (h.2.2 i hi)⟩

theorem wpC_first {Q : Act → World → Prop} {i : Nat} {oi : Oper} {v : Value} (hi : ops[i]? = some oi) (hsel : ∀ (j : Nat) (o : Oper) cs b, ops[j]? = some o → o.op ≠ .select cs b) :
    ∀ (f : Nat) (listed : Array Bool) (a : Act) (w : World),
      (∀ j oj, ops[j]? = some oj → j ≠ i → listed.getD j true = false → (∀ e ∈ oj.after, Region.binds md e = true → e.on ≠ i) → oi.apart ops oj = true) →
      i ∈ Region.ready md ops listed → YC P ops C oi v a → wpC P md ops C Q f (listed.setIfInBounds i true) (a.put oi.dst v) w → wpC P md ops C Q (f + 1) listed a w := by
  intro f
  induction f with
  | zero =>
    intro listed a w _ hr hy H
    refine ⟨H.cls, fun h => (by rw [h] at hr; cases hr), fun j hj => ?_⟩
    by_cases hji : j = i
    · subst hji; exact hy.wpOp hi H.cls H
    · have := ready_mono hj hji
      rw [H.2.1] at this
      cases this
  | succ f ih =>
    intro listed a w hfree hr hy H
    refine ⟨H.cls, fun h => (by rw [h] at hr; cases hr), fun j hj => ?_⟩
    by_cases hji : j = i
    · subst hji; exact hy.wpOp hi H.cls H
    · have h1 := H.2.2 j (ready_mono hj hji)
      obtain ⟨hjun, oj, hoj, hall⟩ := mem_ready.1 hj
      have hnot : ∀ e ∈ oj.after, Region.binds md e = true → e.on ≠ i := fun e he hb heq => by
        have h1 := hall e he hb
        rw [heq, getD_both (mem_ready.1 hr).1] at h1
        cases h1
      have h2 := wpOp_putC hoj (hfree j oj hoj hji hjun hnot) (fun cs b => hsel i oi cs b hi) (fun cs b => hsel j oj cs b hoj) hy h1
      have hfree' : ∀ k ok, ops[k]? = some ok → k ≠ i → (listed.setIfInBounds j true).getD k true = false →
          (∀ e ∈ ok.after, Region.binds md e = true → e.on ≠ i) → oi.apart ops ok = true := fun k ok hk hki hun hno => by
        refine hfree k ok hk hki ?_ hno
        by_cases hjk : j = k
        · subst hjk; exact hjun
        · rw [getD_set_ne true hjk] at hun; exact hun
      refine wpOp_mono (fun a' w' h3 => ih (listed.setIfInBounds j true) a' w' hfree' (ready_mono hr (Ne.symm hji)) h3.1 ?_) h2
      rw [Array.setIfInBounds_comm _ _ hji]
      exact h3.2

/-- The operations of ts, one after the other. -/
def tailW (P : Program) (ops : Array Oper) (C : World → Prop) (Q : Act → World → Prop) : List Nat → Act → World → Prop
  | [], a, w => C w ∧ Q a w
  | i :: rest, a, w => C w ∧ ∃ o, ops[i]? = some o ∧ if Region.wanted o (yielded ops a.tmps) then o.wp P a w (tailW P ops C Q rest) noQ else tailW P ops C Q rest (a.put o.dst undef) w
/-- The operations of hs only read. -/
def headW (P : Program) (ops : Array Oper) (C : World → Prop) (Q : Act → Prop) : List Nat → Act → Prop
  | [], a => Q a
  | i :: rest, a => ∃ o v, ops[i]? = some o ∧ YC P ops C o v a ∧ headW P ops C Q rest (a.put o.dst v)

theorem tailW_step {Q : Act → World → Prop} {i : Nat} {rest : List Nat} {a : Act} {w : World} {o : Oper} (ho : ops[i]? = some o) (hC : C w)
    (h : ∀ K : Act → World → Prop, (∀ a w, tailW P ops C Q rest a w → K a w) → if Region.wanted o (yielded ops a.tmps) then o.wp P a w K noQ else K (a.put o.dst undef) w) : tailW P ops C Q (i :: rest) a w :=
  ⟨hC, o, ho, h _ (fun _ _ h => h)⟩
theorem headW_step {Q : Act → Prop} {i : Nat} {rest : List Nat} {a : Act} {o : Oper} (ho : ops[i]? = some o)
    (h : ∀ K : Act → Prop, (∀ a, headW P ops C Q rest a → K a) → if Region.wanted o (yielded ops a.tmps) then ∃ v, (∀ w, C w → o.quietAt P a (fun w'' => w'' = w) w v) ∧ K (a.put o.dst v) else K (a.put o.dst undef)) : headW P ops C Q (i :: rest) a := by
  have h1 := h _ (fun _ h => h)
  by_cases hw : Region.wanted o (yielded ops a.tmps) = true
  · rw [if_pos hw] at h1
    obtain ⟨v, h2, h3⟩ := h1
    exact ⟨o, v, ho, .inl ⟨hw, h2⟩, h3⟩
  · rw [if_neg hw] at h1
    exact ⟨o, undef, ho, .inr ⟨by simpa using hw, rfl⟩, h1⟩

/-- ts, one after the other: each is the only one that may come. -/
def seqTs (md : Region.Mode) (ops : Array Oper) : List Nat → Array Bool → Bool
  | [], listed => (Region.ready md ops listed).isEmpty
  | k :: rest, listed => decide (Region.ready md ops listed = [k]) && seqTs md ops rest (listed.setIfInBounds k true)
def headHs (md : Region.Mode) (ops : Array Oper) (ts : List Nat) : List Nat → Array Bool → Bool
  | [], listed => seqTs md ops ts listed
  | k :: rest, listed => (Region.ready md ops listed).contains k && Region.free md ops listed k && headHs md ops ts rest (listed.setIfInBounds k true)

theorem wpC_tail {Q : Act → World → Prop} : ∀ (ts : List Nat) (listed : Array Bool) (a : Act) (w : World), seqTs md ops ts listed = true → tailW P ops C Q ts a w → wpC P md ops C Q ts.length listed a w
  | [], listed, a, w, hB, h => ⟨h.1, by simpa [seqTs] using hB, h.2⟩
  | k :: rest, listed, a, w, hB, h => by
    simp only [seqTs, Bool.and_eq_true, decide_eq_true_eq] at hB
    obtain ⟨hC, o, ho, h⟩ := h
    refine ⟨hC, fun h0 => (by rw [hB.1] at h0; cases h0), fun i hi => ?_⟩
    rw [hB.1, List.mem_singleton] at hi
    subst hi
    unfold wpOp
    simp only [ho]
    split
    · rename_i hw
      rw [if_pos hw] at h
      exact .inl (Oper.wp_mono (fun a' w' h' => wpC_tail rest _ a' w' hB.2 h') h)
    · rename_i hw
      rw [if_neg hw] at h
      exact wpC_tail rest _ _ w hB.2 h

theorem wpC_head {Q : Act → World → Prop} (hsel : Region.noSelect ops = true) (ts : List Nat) (w : World) : ∀ (hs : List Nat) (listed : Array Bool) (a : Act), headHs md ops ts hs listed = true →
    headW P ops C (fun a' => tailW P ops C Q ts a' w) hs a → wpC P md ops C Q (hs.length + ts.length) listed a w
  | [], listed, a, hB, h => by rw [List.length_nil, Nat.zero_add]; exact wpC_tail ts listed a w hB h
  | k :: rest, listed, a, hB, h => by
    simp only [headHs, Bool.and_eq_true] at hB
    obtain ⟨⟨hr, hf⟩, hB'⟩ := hB
    obtain ⟨o, v, ho, hy, h⟩ := h
    rw [List.length_cons, show rest.length + 1 + ts.length = (rest.length + ts.length) + 1 by omega]
    exact wpC_first ho (Region.noSelect_spec hsel) _ listed a w (Region.free_spec ho hf) (by simpa using hr) hy (wpC_head hsel ts w rest _ _ hB' h)

def phaseB (ops : Array Oper) (hs ts : List Nat) : Bool := Region.noSelect ops && decide (hs.length + ts.length = ops.size) && headHs .any ops ts hs (Array.replicate ops.size false)

theorem wp_region_phase {id : Nat} {Q : Exit → Act → World → Prop} {a : Act} {w : World} {l : List Oper} (hs ts : List Nat) (hm : P.follows .mixedOrders = true) (hB : phaseB l.toArray hs ts = true)
    (h : headW P l.toArray C (fun a' => tailW P l.toArray C (fun a w => Q .normal a w) ts a' w.drew) hs a) : (Code.region id l.toArray true).wp P Q a w := by
  simp only [phaseB, Bool.and_eq_true, decide_eq_true_eq] at hB
  obtain ⟨⟨hsel, hlen⟩, hB⟩ := hB
  refine wp_region_any hm (wpAny_of_wpC (C := C) (Q := fun a w => Q .normal a w) (fun _ _ h => h) _ _ _ _ ?_)
  rw [← hlen]
  exact wpC_head hsel ts _ hs _ a (by rw [hlen]; exact hB) h
end

/-- A world that has kept all blocks but those of A. -/
structure KA (A : Nat → Prop) (w : World) where
  val : World
  k : Keep A w val
instance (A : Nat → Prop) (w : World) : Nonempty (KA A w) := ⟨⟨w, Keep.refl _ w⟩⟩
abbrev inKA (A : Nat → Prop) (w w' : World) : Prop := ∃ p : KA A w, w' = p.val
end Go.Proofs.YtiacdkggbnoigaaGreatDoor

/-
  The same, with reads between the calls; the class of worlds may be narrowed behind a call.
-/
namespace Go.Proofs.YtiacdkggbnoigaaGreatDoor
open Go Go.RowKit

section
variable {P : Program} {md : Region.Mode} {ops : Array Oper} {C : World → Prop}

theorem wpC_mono {C2 : World → Prop} {Q : Act → World → Prop} (hC : ∀ x, C2 x → C x) : ∀ (f : Nat) (listed : Array Bool) (a : Act) (w : World), wpC P md ops C2 Q f listed a w → wpC P md ops C Q f listed a w
  | 0, _, _, _, h => ⟨hC _ h.1, h.2⟩
  | f + 1, _, _, _, h => ⟨hC _ h.1, h.2.1, fun i hi => wpOp_mono (fun a' w' h' => wpC_mono hC f _ a' w' h') (h.2.2 i hi)⟩

/-- A walk: (true, i): operation i only reads; (false, i): it is the only one that may come. -/
def walkW (P : Program) (ops : Array Oper) (Q : Act → World → Prop) : List (Bool × Nat) → (World → Prop) → Act → World → Prop
  | [], C, a, w => C w ∧ Q a w
  | (true, i) :: rest, C, a, w => ∃ o v, ops[i]? = some o ∧ YC P ops C o v a ∧ walkW P ops Q rest C (a.put o.dst v) w
  | (false, i) :: rest, C, a, w => C w ∧ ∃ o, ops[i]? = some o ∧ if Region.wanted o (yielded ops a.tmps) then o.wp P a w (fun a' w' => ∃ C2 : World → Prop, (∀ x, C2 x → C x) ∧ walkW P ops Q rest C2 a' w') noQ
      else walkW P ops Q rest C (a.put o.dst undef) w

theorem walkW_read {Q : Act → World → Prop} {i : Nat} {rest : List (Bool × Nat)} {a : Act} {w : World} {o : Oper} (ho : ops[i]? = some o)
    (h : ∀ K : Act → Prop, (∀ a, walkW P ops Q rest C a w → K a) → if Region.wanted o (yielded ops a.tmps) then ∃ v, (∀ w, C w → o.quietAt P a (fun w'' => w'' = w) w v) ∧ K (a.put o.dst v) else K (a.put o.dst undef)) : walkW P ops Q ((true, i) :: rest) C a w := by
  have h1 := h _ (fun _ h => h)
  by_cases hw : Region.wanted o (yielded ops a.tmps) = true
  · rw [if_pos hw] at h1
    obtain ⟨v, h2, h3⟩ := h1
    exact ⟨o, v, ho, .inl ⟨hw, h2⟩, h3⟩
  · rw [if_neg hw] at h1
    exact ⟨o, undef, ho, .inr ⟨by simpa using hw, rfl⟩, h1⟩

/-- One operation, the class as it was. -/
theorem walkW_do {Q : Act → World → Prop} {i : Nat} {rest : List (Bool × Nat)} {a : Act} {w : World} {o : Oper} (ho : ops[i]? = some o) (hC : C w)
    (h : ∀ K : Act → World → Prop, (∀ a w, walkW P ops Q rest C a w → K a w) → if Region.wanted o (yielded ops a.tmps) then o.wp P a w K noQ else K (a.put o.dst undef) w) : walkW P ops Q ((false, i) :: rest) C a w := by
  refine ⟨hC, o, ho, ?_⟩
  have h1 := h (fun a' w' => walkW P ops Q rest C a' w') (fun _ _ h => h)
  split
  · rename_i hw
    rw [if_pos hw] at h1
    exact Oper.wp_mono (fun a' w' h' => ⟨C, fun _ h => h, h'⟩) h1
  · rename_i hw
    rw [if_neg hw] at h1
    exact h1
/-- One operation; the class is narrowed behind it. -/
theorem walkW_turn {Q : Act → World → Prop} {i : Nat} {rest : List (Bool × Nat)} {a : Act} {w : World} {o : Oper} (ho : ops[i]? = some o) (hC : C w) (hw : Region.wanted o (yielded ops a.tmps) = true)
    (h : ∀ K : Act → World → Prop, (∀ (C2 : World → Prop) a w, (∀ x, C2 x → C x) → walkW P ops Q rest C2 a w → K a w) → o.wp P a w K noQ) : walkW P ops Q ((false, i) :: rest) C a w := by
  refine ⟨hC, o, ho, ?_⟩
  rw [if_pos hw]
  exact h _ (fun C2 a w h1 h2 => ⟨C2, h1, h2⟩)

def walkB (md : Region.Mode) (ops : Array Oper) : List (Bool × Nat) → Array Bool → Bool
  | [], listed => (Region.ready md ops listed).isEmpty
  | (true, k) :: rest, listed => (Region.ready md ops listed).contains k && Region.free md ops listed k && walkB md ops rest (listed.setIfInBounds k true)
  | (false, k) :: rest, listed => decide (Region.ready md ops listed = [k]) && walkB md ops rest (listed.setIfInBounds k true)

theorem wpC_walk {Q : Act → World → Prop} (hsel : Region.noSelect ops = true) : ∀ (l : List (Bool × Nat)) (C : World → Prop) (listed : Array Bool) (a : Act) (w : World), walkB md ops l listed = true → walkW P ops Q l C a w → wpC P md ops C Q l.length listed a w
  | [], C, listed, a, w, hB, h => ⟨h.1, by simpa [walkB] using hB, h.2⟩
  | (true, k) :: rest, C, listed, a, w, hB, h => by
    simp only [walkB, Bool.and_eq_true] at hB
    obtain ⟨⟨hr, hf⟩, hB'⟩ := hB
    obtain ⟨o, v, ho, hy, h⟩ := h
    exact wpC_first ho (Region.noSelect_spec hsel) _ listed a w (Region.free_spec ho hf) (by simpa using hr) hy (wpC_walk hsel rest C _ _ w hB' h)
  | (false, k) :: rest, C, listed, a, w, hB, h => by
    simp only [walkB, Bool.and_eq_true, decide_eq_true_eq] at hB
    obtain ⟨hC, o, ho, h⟩ := h
    refine ⟨hC, fun h0 => (by rw [hB.1] at h0; cases h0), fun i hi => ?_⟩
    rw [hB.1, List.mem_singleton] at hi
    subst hi
    unfold wpOp
    simp only [ho]
    split
    · rename_i hw
      rw [if_pos hw] at h
      exact .inl (Oper.wp_mono (fun a' w' ⟨C2, h1, h2⟩ => wpC_mono h1 _ _ _ _ (wpC_walk hsel rest C2 _ a' w' hB.2 h2)) h)
    · rename_i hw
      rw [if_neg hw] at h
      exact wpC_walk hsel rest C _ _ w hB.2 h

def walkOk (ops : Array Oper) (l : List (Bool × Nat)) : Bool := Region.noSelect ops && decide (l.length = ops.size) && walkB .any ops l (Array.replicate ops.size false)

theorem wp_region_walk {id : Nat} {Q : Exit → Act → World → Prop} {a : Act} {w : World} {l : List Oper} (s : List (Bool × Nat)) (C : World → Prop) (hm : P.follows .mixedOrders = true) (hB : walkOk l.toArray s = true)
    (h : walkW P l.toArray (fun a w => Q .normal a w) s C a w.drew) : (Code.region id l.toArray true).wp P Q a w := by
  simp only [walkOk, Bool.and_eq_true, decide_eq_true_eq] at hB
  obtain ⟨⟨hsel, hlen⟩, hB⟩ := hB
  refine wp_region_any hm (wpAny_of_wpC (C := C) (Q := fun a w => Q .normal a w) (fun _ _ h => h) _ _ _ _ ?_)
  rw [← hlen]
  exact wpC_walk hsel s C _ a _ (by rw [hlen]; exact hB) h
end
theorem inKA.mono {A : Nat → Prop} {w w1 : World} (k : Keep A w w1) : ∀ x, inKA A w1 x → inKA A w x := fun _ ⟨p, hp⟩ => ⟨⟨p.val, k.trans p.k⟩, hp⟩
theorem inKA.of {A : Nat → Prop} {w w1 : World} (k : Keep A w w1) : inKA A w w1 := ⟨⟨w1, k⟩, rfl⟩
end Go.Proofs.YtiacdkggbnoigaaGreatDoor

/-
  within, Sum, Point, Slot of package ring and of the reference.
-/
namespace Go.Proofs.YtiacdkggbnoigaaGreatDoor
open Go.RowKit Go.Shelf

abbrev ptr (s : Nat) : Value := .pointer (some ⟨s, 0, none⟩)
/-- The table of half bytes lies in its variable. -/
def Tab (w : World) : Prop := ∀ i, i < 16 → w.cell? ⟨0, i, none⟩ = some (.int .u32 (tabL.getD i 0 : Nat))
theorem Tab.keep {w w' : World} {A : Nat → Prop} (h : Tab w) (k : Keep A w w') (hA : ¬ A 0) : Tab w' := fun i hi => k.cell (h i hi) hA
theorem Tab.kept {w w' : World} (h : Tab w) (k : Keep (fun _ => False) w w') : Tab w' := h.keep k (fun h => h)

theorem Keep.drewN {A : Nat → Prop} {a w : World} (h : Keep A a w) (k : Nat) : Keep A a (w.drewN k) := ⟨h.os, h.tape, h.output, h.size, h.block⟩
theorem Keep.frozen {A : Nat → Prop} {w w' : World} (k : Keep A w w') {b : Nat} (hb : b < w.heap.size) (hA : ¬ A b) (o : Nat) : w'.frozen? ⟨b, o, none⟩ = w.frozen? ⟨b, o, none⟩ :=
  World.frozen?_of_block (w := w) (a := ⟨b, o, none⟩) (k.block _ hb hA)
theorem quiet_same {P : Program} {f : FuncId} {args : Array Value} {w : World} {n : Nat} {v : Value}
    (h : Calls P f args (w.drewN n) fun e w' => e = .returned v ∧ w.drewN n = w') : Calls P f args (w.drewN n) fun e w'' => e = .returned v ∧ ∃ m, w'' = w.drewN m :=
  h.mono fun _ _ ⟨he, hm⟩ => ⟨he, n, hm.symm⟩
set_option maxRecDepth 100000 in
set_option maxHeartbeats 400000 in
theorem within_any (n lo hi : Int) (w : World) : Calls Tryz.prog 25 #[.int .i64 n, .int .i64 lo, .int .i64 hi] w fun e w' => e = .returned (.bool (decide (lo ≤ n ∧ n ≤ hi))) ∧ w = w' := by
  by_cases h1 : lo ≤ n
  · by_cases h2 : n ≤ hi
    · go_enter Tryz.func25, Tryz.ntmps25
      go_wp2
      go_ret
      exact ⟨by simp [h1, h2], rfl⟩
    · go_enter Tryz.func25, Tryz.ntmps25
      go_wp2
      go_ret
      exact ⟨by simp [h2], rfl⟩
  · go_enter Tryz.func25, Tryz.ntmps25
    go_wp2
    go_ret
    exact ⟨by simp [show ¬ lo ≤ n by omega], rfl⟩

theorem and15 (r : Nat) (h : r < 4294967296) : bits .and .u32 (r : Int) 15 = ((r % 16 : Nat) : Int) := by
  have := u32_and_nat r 15 h (by decide)
  rw [show r &&& 15 = r % 16 from Nat.and_two_pow_sub_one_eq_mod r 4] at this
  exact this
theorem nib_bits (r : Nat) (h : r < 4294967296) : bits .xor .u32 ((r : Int) / 16) ((tabL.getD (r % 16) 0 : Nat) : Int) = (nib r : Nat) := by
  have h2 : tabL.getD (r % 16) 0 < 4294967296 := by
    have : ∀ n : Fin 16, tabL.getD n.val 0 < 4294967296 := by decide
    exact this ⟨r % 16, Nat.mod_lt _ (by omega)⟩
  have := u32_xor_nat (r / 16) _ (by omega) h2
  rw [show ((r / 16 : Nat) : Int) = (r : Int) / 16 by omega] at this
  exact this

set_option maxRecDepth 100000 in
set_option maxHeartbeats 1000000 in
theorem sum_any (s : ByteArray) (hs : s.size ≤ 1000000) (w : World) (hT : Tab w) : Calls Tryz.prog 61 #[.string s] w fun e w' => e = .returned (.int .i64 (sumN s.data.toList : Nat)) ∧ w = w' := by
  have HT := Lib.hid hT
  clear hT
  go_enter Tryz.func61, Tryz.ntmps61
  go_wp2_with fail
  go_loopg [3, 7] s.size (fun gh v3 v7 wr => ∃ i : Nat, v7 = .int .i64 i ∧ i + gh = s.size ∧ v3 = .int .u32 (regN (s.data.toList.take i) : Nat) ∧ w = wr)
  case atStart => exact ⟨0, rfl, by omega, by simp [regN], rfl⟩
  case round =>
    obtain ⟨i, rfl, hi, rfl, rfl⟩ := hrel
    by_cases hlt : i < s.size
    · obtain ⟨bt, hbt⟩ : ∃ bt : Nat, s[i].toNat = bt := ⟨_, rfl⟩
      have hb : bt < 256 := by rw [← hbt]; exact s[i].toNat_lt
      have hreg := regN_lt (s.data.toList.take i)
      have hsn : Hid (regN (s.data.toList.take (i + 1)) = byteN (regN (s.data.toList.take i)) bt) := Lib.hid (by
        rw [List.take_add_one, List.getElem?_eq_getElem (by simpa using hlt), ← hbt]
        exact regN_snoc _ _)
      obtain ⟨r0, hr0⟩ : ∃ r0, regN (s.data.toList.take i) = r0 := ⟨_, rfl⟩
      rw [hr0] at hreg hsn
      have e0 : (bt : Int) % 4294967296 = (bt : Int) := by omega
      obtain ⟨r1, hr1⟩ : ∃ r1, r0 ^^^ bt = r1 := ⟨_, rfl⟩
      have h1 : r1 < 4294967296 := by rw [← hr1]; exact Nat.xor_lt_two_pow (n := 32) hreg (by omega)
      have e1 : bits .xor .u32 (r0 : Int) (bt : Int) = (r1 : Int) := by rw [u32_xor_nat _ _ hreg (by omega), hr1]
      obtain ⟨r2, hr2⟩ : ∃ r2, nib r1 = r2 := ⟨_, rfl⟩
      obtain ⟨r3, hr3⟩ : ∃ r3, nib r2 = r3 := ⟨_, rfl⟩
      have h2 : r2 < 4294967296 := by rw [← hr2]; exact nib_lt h1
      have HR : Hid (regN (s.data.toList.take (i + 1)) = r3) := Lib.hid (by rw [hsn.out]; unfold byteN; rw [hr1, hr2, hr3])
      have ea1 : bits .and .u32 (r1 : Int) 15 = ((r1 % 16 : Nat) : Int) := and15 r1 h1
      have ea2 : bits .and .u32 (r2 : Int) 15 = ((r2 % 16 : Nat) : Int) := and15 r2 h2
      have ex1 : bits .xor .u32 ((r1 : Int) / 16) ((tabL.getD (r1 % 16) 0 : Nat) : Int) = (r2 : Int) := by rw [nib_bits r1 h1, hr2]
      have ex2 : bits .xor .u32 ((r2 : Int) / 16) ((tabL.getD (r2 % 16) 0 : Nat) : Int) = (r3 : Int) := by rw [nib_bits r2 h2, hr3]
      have c1 := HT.out (r1 % 16) (Nat.mod_lt _ (by decide))
      have c2 := HT.out (r2 % 16) (Nat.mod_lt _ (by decide))
      have m1 : r1 % 16 < 16 := Nat.mod_lt _ (by decide)
      have m2 : r2 % 16 < 16 := Nat.mod_lt _ (by decide)
      generalize r1 % 16 = q1 at *
      generalize r2 % 16 = q2 at *
      generalize tabL.getD q1 0 = t1 at *
      generalize tabL.getD q2 0 = t2 at *
      clear hr1 hr2 hr3 hsn
      rw [hr0]
      clear hr0
      go_wp2_with fail
      go_roundg (gk - 1)
      case rel => exact ⟨i + 1, by go_num, by omega, by rw [HR.out], rfl⟩
      case measure => omega
    · obtain rfl : i = s.size := by omega
      have e : s.data.toList.take s.size = s.data.toList := List.take_of_length_le (by show s.data.toList.length ≤ s.data.size; rw [Array.length_toList]; exact Nat.le_refl _)
      rw [e]
      have hreg := regN_lt s.data.toList
      have HS : Hid (4294967295 ^^^ regN s.data.toList = sumN s.data.toList) := Lib.hid rfl
      have hl := sumN_lt s.data.toList
      obtain ⟨z, hz⟩ : ∃ z, sumN s.data.toList = z := ⟨_, rfl⟩
      rw [hz] at HS hl
      have HZ := Lib.hid hz
      clear hz
      generalize regN s.data.toList = r at *
      have e1 : bits .xor .u32 IntKind.u32.max (r : Int) = (z : Int) := by
        show bits .xor .u32 4294967295 (r : Int) = (z : Int)
        have := u32_xor_nat 4294967295 r (by decide) hreg
        rw [HS.out] at this
        exact this
      have ew : wrap64 (z : Int) = (z : Int) := by unfold wrap64; omega
      go_wp2_with fail
      go_ret
      exact ⟨by rw [HZ.out]; rfl, rfl⟩

/-- The point of a string. -/
def pt (s : ByteArray) : Nat := sumN s.data.toList
theorem pt_lt (s : ByteArray) : pt s < 4294967296 := sumN_lt _
set_option maxRecDepth 100000 in
theorem point_any (s : ByteArray) (hs : s.size ≤ 1000000) (w : World) (hT : Tab w) : Calls Tryz.prog 34 #[.string s] w fun e w' => e = .returned (.int .i64 (pt s : Nat)) ∧ w = w' := by
  have HS := Lib.hid (sum_any s hs w hT)
  clear hT
  go_enter Tryz.func34, Tryz.ntmps34
  go_wp2_with fail
  with_reducible refine HS.out.mono ?_
  rintro e w' ⟨rfl, rfl⟩
  go_wp2_with fail
  go_ret
  exact ⟨rfl, rfl⟩
def slotOf (s : ByteArray) : Nat := pt s % 64
theorem slotOf_lt (s : ByteArray) : slotOf s < 64 := Nat.mod_lt _ (by decide)
end Go.Proofs.YtiacdkggbnoigaaGreatDoor

/-
  cmp.Compare, cmp.Or; members in memory; Valid.
-/
namespace Go.Proofs.YtiacdkggbnoigaaGreatDoor
open Go.RowKit Go.Shelf

def cmpI (a b : Int) : Int := if a < b then -1 else if b < a then 1 else 0
set_option maxHeartbeats 400000 in
theorem isNaN_int (a : Int) (w : World) : Calls Tryz.prog 63 #[.int .i64 a] w fun e w' => e = .returned (.bool false) ∧ w = w' := by
  have h : (a != a) = false := by simp
  go_enter Tryz.func63, Tryz.ntmps63
  go_wp2
  go_ret
  exact ⟨rfl, rfl⟩
set_option maxHeartbeats 400000 in
theorem cmp_int (a b : Int) (w : World) : Calls Tryz.prog 38 #[.int .i64 a, .int .i64 b] w fun e w' => e = .returned (.int .i64 (cmpI a b)) ∧ w = w' := by
  rcases Int.lt_trichotomy a b with h1 | h1 | h1
  · have HC : Hid (cmpI a b = -1) := Lib.hid (by unfold cmpI; rw [if_pos h1])
    go_enter Tryz.func38, Tryz.ntmps38
    go_wp2_with (go_at_call 63; refine (isNaN_int _ _).mono ?_; rintro e w' ⟨rfl, rfl⟩)
    go_ret
    exact ⟨by rw [HC.out]; rfl, rfl⟩
  · have HC : Hid (cmpI a b = 0) := Lib.hid (by unfold cmpI; rw [if_neg (by omega), if_neg (by omega)])
    have h2 : ¬ a < b := by omega
    have h3 : ¬ b < a := by omega
    clear h1
    go_enter Tryz.func38, Tryz.ntmps38
    go_wp2_with (go_at_call 63; refine (isNaN_int _ _).mono ?_; rintro e w' ⟨rfl, rfl⟩)
    go_ret
    exact ⟨by rw [HC.out]; rfl, rfl⟩
  · have HC : Hid (cmpI a b = 1) := Lib.hid (by unfold cmpI; rw [if_neg (by omega), if_pos h1])
    go_enter Tryz.func38, Tryz.ntmps38
    go_wp2_with (go_at_call 63; refine (isNaN_int _ _).mono ?_; rintro e w' ⟨rfl, rfl⟩)
    go_ret
    exact ⟨by rw [HC.out]; rfl, rfl⟩

/-- The first one that is not 0. -/
def orL : List Int → Int
  | [] => 0
  | x :: l => if x = 0 then orL l else x
theorem orL_drop {xs : List Int} {k : Nat} (h : ∀ y ∈ xs.take k, y = 0) : orL xs = orL (xs.drop k) := by
  induction xs generalizing k with
  | nil => simp [orL]
  | cons x xs ih =>
    cases k with
    | zero => rfl
    | succ k =>
      rw [List.take_succ_cons] at h
      have h0 := h x (by simp)
      rw [List.drop_succ_cons, ← ih (fun y hy => h y (by simp [hy]))]
      simp [orL, h0]
def I64 (x : Int) : Prop := -9223372036854775808 ≤ x ∧ x ≤ 9223372036854775807
/-- Numbers in a slice. -/
structure Its (W : World) (v : Value) (xs : List Int) : Prop where
  n : xs.length ≤ 1000000000000000
  bd : ∀ x ∈ xs, I64 x
  at_ : ∃ a c b off, v = .slice a xs.length c ∧ xs.length ≤ c ∧ (0 < xs.length → a = some ⟨b, off, none⟩) ∧ ∀ j x, xs[j]? = some x → W.cell? ⟨b, off + j, none⟩ = some (.int .i64 x)
theorem Its.keep {W W' : World} {A : Nat → Prop} {v : Value} {xs : List Int} (h : Its W v xs) (k : Keep A W W') (hA : ∀ b, v.ownBlock = some b → ¬ A b) : Its W' v xs := by
  obtain ⟨a, c, b, off, rfl, hc, ha, h1⟩ := h.at_
  refine ⟨h.n, h.bd, a, c, b, off, rfl, hc, ha, fun j x hj => ?_⟩
  have hp : 0 < xs.length := by have := (List.getElem?_eq_some_iff.1 hj).1; omega
  refine k.cell (h1 j x hj) (hA b ?_)
  rw [ha hp]; rfl
theorem Its.kept {W W' : World} {v : Value} {xs : List Int} (h : Its W v xs) (k : Keep (fun _ => False) W W') : Its W' v xs := h.keep k (fun _ _ h => h)
theorem Its.nil (W : World) : Its W (.slice none 0 0) [] := ⟨by simp, by simp, none, 0, 0, 0, rfl, by simp, fun h => by simp at h, fun j x hj => by simp at hj⟩

set_option maxRecDepth 100000 in
set_option maxHeartbeats 400000 in
theorem cmp_or (v : Value) (xs : List Int) (w : World) (h : Its w v xs) : Calls Tryz.prog 60 #[v] w fun e w' => e = .returned (.int .i64 (orL xs)) ∧ w = w' := by
  obtain ⟨hn, -, a, c, b, off, rfl, hc, ha, hcell⟩ := h
  have HC := Lib.hid hcell
  have HA := Lib.hid ha
  clear hcell ha
  obtain ⟨n, hn'⟩ : ∃ n, xs.length = n := ⟨_, rfl⟩
  have HL := Lib.hid hn'
  rw [hn'] at hn hc ⊢
  clear hn'
  go_enter Tryz.func60, Tryz.ntmps60
  go_wp2_with fail
  go_loopg [8] n (fun gh v wr => ∃ k : Nat, gh + k = n ∧ v = .int .i64 k ∧ (∀ y ∈ xs.take k, y = 0) ∧ w = wr)
  case atStart => exact ⟨0, by omega, rfl, by simp, rfl⟩
  case round =>
    obtain ⟨k, hk, rfl, hz, rfl⟩ := hrel
    have HZ := Lib.hid hz
    clear hz
    by_cases hlt : k < n
    · obtain ⟨x, hx⟩ : ∃ x, xs[k]? = some x := ⟨_, List.getElem?_eq_getElem (by have := HL.out; omega)⟩
      obtain rfl := HA.out (by have := HL.out; omega)
      have c1 := HC.out k x hx
      have hkz : (k : Int) < (n : Int) := by omega
      have hk0 : (0 : Int) ≤ (k : Int) := by omega
      have HX := Lib.hid hx
      clear hx
      by_cases hx0 : x = 0
      · have hb : (x == 0) = true := by simpa using hx0
        have HX0 := Lib.hid hx0
        clear hx0
        go_wp2_with fail
        go_roundg (gk - 1)
        case rel => exact ⟨k + 1, by omega, by go_num, fun y hy => by
          rw [List.take_add_one, HX.out] at hy
          rcases List.mem_append.1 hy with hy | hy
          · exact HZ.out y hy
          · simp at hy; rw [hy]; exact HX0.out, rfl⟩
        case measure => omega
      · have hb : (x == 0) = false := by simpa using hx0
        have HO : Hid (orL xs = x) := Lib.hid (by
          rw [orL_drop HZ.out, List.drop_eq_getElem_cons (by have := HL.out; omega)]
          have := HX.out
          rw [List.getElem?_eq_getElem (by have := HL.out; omega)] at this
          simp only [Option.some.injEq] at this
          rw [this]
          simp [orL, hx0])
        clear hx0
        go_wp2_with fail
        go_ret
        exact ⟨by rw [HO.out]; rfl, rfl⟩
    · have HO : Hid (orL xs = 0) := Lib.hid (by
        rw [orL_drop HZ.out, List.drop_eq_nil_of_le (by have := HL.out; omega)]; rfl)
      go_wp2_with fail
      go_ret
      exact ⟨by rw [HO.out]; rfl, rfl⟩

/-! ### members -/
/-- Members in a slice. -/
structure Mbs (W : World) (v : Value) (l : List Mb) : Prop where
  n : l.length ≤ 1000000000000000
  bd : ∀ m ∈ l, I64 m.node ∧ I64 m.region ∧ I64 m.weight
  at_ : ∃ a c b off, v = .slice a l.length c ∧ l.length ≤ c ∧ (0 < l.length → a = some ⟨b, off, none⟩) ∧ ∀ j m, l[j]? = some m → W.cell? ⟨b, off + j * 3, none⟩ = some (.int .i64 m.node) ∧ W.cell? ⟨b, off + j * 3 + 1, none⟩ = some (.int .i64 m.region) ∧ W.cell? ⟨b, off + j * 3 + 2, none⟩ = some (.int .i64 m.weight)
theorem Mbs.keep {W W' : World} {A : Nat → Prop} {v : Value} {l : List Mb} (h : Mbs W v l) (k : Keep A W W') (hA : ∀ b, v.ownBlock = some b → ¬ A b) : Mbs W' v l := by
  obtain ⟨a, c, b, off, rfl, hc, ha, h1⟩ := h.at_
  refine ⟨h.n, h.bd, a, c, b, off, rfl, hc, ha, fun j x hj => ?_⟩
  have hp : 0 < l.length := by have := (List.getElem?_eq_some_iff.1 hj).1; omega
  have hb := hA b (by rw [ha hp]; rfl)
  exact ⟨k.cell (h1 j x hj).1 hb, k.cell (h1 j x hj).2.1 hb, k.cell (h1 j x hj).2.2 hb⟩
theorem Mbs.kept {W W' : World} {v : Value} {l : List Mb} (h : Mbs W v l) (k : Keep (fun _ => False) W W') : Mbs W' v l := h.keep k (fun _ _ h => h)

theorem within_b (n lo hi : Int) (b : Bool) (h : decide (lo ≤ n ∧ n ≤ hi) = b) (w : World) : Calls Tryz.prog 25 #[.int .i64 n, .int .i64 lo, .int .i64 hi] w fun e w' => e = .returned (.bool b) ∧ w = w' := by
  subst h; exact within_any n lo hi w

theorem validFrom_cons (last : Int) (m : Mb) (l : List Mb) : validFrom last (m :: l) = (decide (last + 1 ≤ m.node ∧ m.node ≤ 23) && (decide (0 ≤ m.region ∧ m.region ≤ 3) && (decide (1 ≤ m.weight ∧ m.weight ≤ 16) && validFrom m.node l))) := by
  simp only [validFrom]
  rw [← Bool.and_assoc, ← Bool.and_assoc]
  congr 1
  rw [Bool.eq_iff_iff]
  simp only [Bool.and_eq_true, decide_eq_true_eq]
  omega

set_option maxRecDepth 100000 in
set_option maxHeartbeats 1000000 in
theorem valid_any (v : Value) (l : List Mb) (w : World) (h : Mbs w v l) : Calls Tryz.prog 30 #[v] w fun e w' => e = .returned (.bool (validL l)) ∧ Keep (fun _ => False) w w' := by
  obtain ⟨hn, -, a, c, b, off, rfl, hc, ha, hcell⟩ := h
  have HC := Lib.hid hcell
  have HA := Lib.hid ha
  clear hcell ha
  obtain ⟨n, hn'⟩ : ∃ n, l.length = n := ⟨_, rfl⟩
  have HL := Lib.hid hn'
  rw [hn'] at hn hc ⊢
  clear hn'
  go_enter Tryz.func30, Tryz.ntmps30
  go_wp2_with fail
  go_loopg [3, 8] n (fun gh v3 v wr => ∃ (k : Nat) (last : Int), gh + k = n ∧ v = .int .i64 k ∧ v3 = .int .i64 last ∧ -1 ≤ last ∧ last ≤ 23 ∧ validL l = validFrom last (l.drop k) ∧ Keep (fun _ => False) w wr)
  case atStart => exact ⟨0, -1, by omega, rfl, rfl, by omega, by omega, rfl, Keep.refl _ _⟩
  case round =>
    obtain ⟨k, last, hk, rfl, rfl, hl1, hl2, hv, hkeep⟩ := hrel
    have HV := Lib.hid hv
    have HK := Lib.hid hkeep
    clear hv hkeep
    by_cases hlt : k < n
    · obtain ⟨m, hm⟩ : ∃ m, l[k]? = some m := ⟨_, List.getElem?_eq_getElem (by have := HL.out; omega)⟩
      obtain rfl := HA.out (by have := HL.out; omega)
      have HD : Hid (l.drop k = m :: l.drop (k + 1)) := Lib.hid (by
        rw [List.drop_eq_getElem_cons (by have := HL.out; omega)]
        rw [List.getElem?_eq_getElem (by have := HL.out; omega)] at hm
        simp only [Option.some.injEq] at hm
        rw [hm])
      have c0 := HK.out.cell (HC.out k m hm).1 (fun h => h)
      have c1 := HK.out.cell (HC.out k m hm).2.1 (fun h => h)
      have c2 := HK.out.cell (HC.out k m hm).2.2 (fun h => h)
      have HVC : Hid (validL l = (decide (last + 1 ≤ m.node ∧ m.node ≤ 23) && (decide (0 ≤ m.region ∧ m.region ≤ 3) && (decide (1 ≤ m.weight ∧ m.weight ≤ 16) && validFrom m.node (l.drop (k + 1)))))) := Lib.hid (by rw [HV.out, HD.out, validFrom_cons])
      have hkz : (k : Int) < (n : Int) := by omega
      have hk0 : (0 : Int) ≤ (k : Int) := by omega
      clear hm
      obtain ⟨mn, mr, mw⟩ := m
      simp only [] at c0 c1 c2
      have HK2 : Hid (Keep (fun _ => False) w (wr.alloc (.cells #[.int .i64 mn, .int .i64 mr, .int .i64 mw] 44))) := Lib.hid (HK.out.alloc _)
      go_wp2_with fail
      clear c0 c1 c2
      by_cases h1 : last + 1 ≤ mn ∧ mn ≤ 23
      · have H1 := Lib.hid (decide_eq_true h1)
        with_reducible refine (within_b mn (last + 1) 23 true H1.out _).mono ?_
        rintro e w' ⟨rfl, rfl⟩
        by_cases h2 : 0 ≤ mr ∧ mr ≤ 3
        · have H2 := Lib.hid (decide_eq_true h2)
          go_wp2_with fail
          with_reducible refine (within_b mr 0 3 true H2.out _).mono ?_
          rintro e w' ⟨rfl, rfl⟩
          by_cases h3 : 1 ≤ mw ∧ mw ≤ 16
          · have H3 := Lib.hid (decide_eq_true h3)
            go_wp2_with fail
            with_reducible refine (within_b mw 1 16 true H3.out _).mono ?_
            rintro e w' ⟨rfl, rfl⟩
            go_wp2_with fail
            generalize wr.alloc (.cells #[.int .i64 mn, .int .i64 mr, .int .i64 mw] 44) = W2 at *
            go_roundg (gk - 1)
            case rel => exact ⟨k + 1, mn, by omega, by go_num, rfl, by omega, by omega, by rw [HVC.out, H1.out, H2.out, H3.out]; rfl, HK2.out⟩
            case measure => omega
          · have H3 := Lib.hid (decide_eq_false h3)
            clear h3
            go_wp2_with fail
            with_reducible refine (within_b mw 1 16 false H3.out _).mono ?_
            rintro e w' ⟨rfl, rfl⟩
            go_wp2_with fail
            go_ret
            exact ⟨by rw [HVC.out, H1.out, H2.out, H3.out]; rfl, HK2.out⟩
        · have H2 := Lib.hid (decide_eq_false h2)
          clear h2
          go_wp2_with fail
          with_reducible refine (within_b mr 0 3 false H2.out _).mono ?_
          rintro e w' ⟨rfl, rfl⟩
          go_wp2_with fail
          go_ret
          exact ⟨by rw [HVC.out, H1.out, H2.out]; rfl, HK2.out⟩
      · have H1 := Lib.hid (decide_eq_false h1)
        clear h1
        with_reducible refine (within_b mn (last + 1) 23 false H1.out _).mono ?_
        rintro e w' ⟨rfl, rfl⟩
        go_wp2_with fail
        go_ret
        exact ⟨by rw [HVC.out, H1.out]; rfl, HK2.out⟩
    · have HVD : Hid (validL l = decide (0 ≤ last)) := Lib.hid (by rw [HV.out, List.drop_eq_nil_of_le (by have := HL.out; omega)]; rfl)
      by_cases h0 : 0 ≤ last
      · go_wp2_with fail
        go_ret
        exact ⟨by rw [HVD.out, decide_eq_true h0]; rfl, HK.out⟩
      · go_wp2_with fail
        go_ret
        exact ⟨by rw [HVD.out, decide_eq_false (by omega)]; rfl, HK.out⟩
end Go.Proofs.YtiacdkggbnoigaaGreatDoor

/-
  A map of numbers; limits, Limit.
-/
namespace Go.Proofs.YtiacdkggbnoigaaGreatDoor
open Go.RowKit Go.Shelf

theorem intKeyed : Maps.Keyed Tryz.prog 3 := Maps.int_keyed Tryz.underlying3
theorem wf_i64 {n : Int} (h : I64 n) : (Lit.int .i64 n).wf = true := by
  have e : wrap64 n = n := by unfold wrap64; unfold I64 at h; omega
  have := wrap64_wf n
  rwa [e] at this
theorem wrapI {n : Int} (h : I64 n) : IntKind.i64.wrap n = n := by
  unfold I64 at h
  simp only [IntKind.wrap, IntKind.bits, IntKind.signed]
  simp
  omega
theorem keyInt {n : Int} (h : I64 n) : keyOf Tryz.prog 3 (.int .i64 n) = some (.int .i64 n) := Maps.keyOf_int_mk Tryz.underlying3 (wf_i64 h)
theorem zeroInt (w : World) : (zeroValue 3).run Tryz.prog w = .ok (.int .i64 0) w := by kernel_rfl
/-- Block bm is a map of numbers; who is not in it has 0. -/
def MapF (w : World) (bm : Nat) (g : Int → Int) : Prop := ∃ R, MapRel Tryz.prog 3 w bm R ∧ (∀ k v, R k v → ∃ n, k = .int .i64 n ∧ v = .int .i64 (g n)) ∧ ∀ n, g n ≠ 0 → R (.int .i64 n) (.int .i64 (g n))
theorem MapF.of_heap {w w' : World} {bm : Nat} {g : Int → Int} (h : MapF w bm g) (hh : w'.heap[bm]? = w.heap[bm]?) : MapF w' bm g := by
  obtain ⟨R, h1, h2, h3⟩ := h
  exact ⟨R, h1.of_heap hh, h2, h3⟩
theorem MapF.lt {w : World} {bm : Nat} {g : Int → Int} (h : MapF w bm g) : bm < w.heap.size := by obtain ⟨R, h1, _⟩ := h; exact h1.lt
theorem MapF.keep {w w' : World} {bm : Nat} {g : Int → Int} {A : Nat → Prop} (h : MapF w bm g) (k : Keep A w w') (hA : ¬ A bm) : MapF w' bm g := h.of_heap (k.block _ h.lt hA)
theorem MapF.kept {w w' : World} {bm : Nat} {g : Int → Int} (h : MapF w bm g) (k : Keep (fun _ => False) w w') : MapF w' bm g := h.keep k (fun h => h)
theorem MapF.congr {w : World} {bm : Nat} {g f : Int → Int} (h : MapF w bm g) (e : ∀ n, f n = g n) : MapF w bm f := by
  have : f = g := funext e
  rw [this]; exact h
theorem MapF.made (w : World) : MapF (w.alloc (.map #[] 0)) w.heap.size (fun _ => 0) := ⟨_, MapRel.made _ _ w, fun _ _ h => h.elim, fun _ h => absurd rfl h⟩
theorem MapF.not_cell {w : World} {bm : Nat} {g : Int → Int} (h : MapF w bm g) {o : Nat} {v : Value} {b' : Nat} (hc : w.cell? ⟨b', o, none⟩ = some v) : b' ≠ bm := by
  obtain ⟨R, h1, _⟩ := h; exact h1.not_cell hc
theorem MapF.look {w : World} {bm : Nat} {g : Int → Int} (h : MapF w bm g) {n : Int} (hn : I64 n) : (Instr.lookup 81 (.map (some bm)) (.int .i64 n) false).run Tryz.prog w = .ok (.int .i64 (g n)) w := by
  obtain ⟨R, h1, h2, h3⟩ := h
  rcases h1.look intKeyed Tryz.underlying81 (zeroInt w) false (keyInt hn) with ⟨a, b⟩ | ⟨v, a, b⟩
  · have : g n = 0 := by
      by_cases e : g n = 0
      · exact e
      · exact absurd (h3 n e) (a _)
    rw [this]; exact b
  · obtain ⟨n', e1, rfl⟩ := h2 _ _ a
    cases e1
    exact b
theorem MapF.update {w : World} {bm : Nat} {g : Int → Int} (h : MapF w bm g) {n : Int} (hn : I64 n) (x : Int) : ∃ es' clock', (Instr.mapUpdate 81 (.map (some bm)) (.int .i64 n) (.int .i64 x)).run Tryz.prog w = .ok () (w.putObj bm (.map es' clock')) ∧ MapF (w.putObj bm (.map es' clock')) bm (upd g n x) := by
  obtain ⟨R, h1, h2, h3⟩ := h
  obtain ⟨es', ck', hup, hm⟩ := h1.update intKeyed Tryz.underlying81 (keyInt hn) (.int .i64 x)
  refine ⟨es', ck', hup, _, hm, fun k v hkv => ?_, fun k hk => ?_⟩
  · rcases hkv with ⟨rfl, rfl⟩ | ⟨hne, hR⟩
    · exact ⟨n, rfl, by unfold upd; rw [if_pos rfl]⟩
    · obtain ⟨k', rfl, rfl⟩ := h2 _ _ hR
      refine ⟨k', rfl, ?_⟩
      unfold upd
      rw [if_neg (fun e => hne (by rw [e]))]
  · unfold upd at hk ⊢
    by_cases e : k = n
    · subst e; rw [if_pos rfl]; exact .inl ⟨rfl, rfl⟩
    · rw [if_neg e] at hk ⊢
      exact .inr ⟨fun e' => e (by cases e'; rfl), h3 k hk⟩

theorem three_cell (W : World) (x y z : Value) (t : TypeId) : (W.alloc (.cells #[x, y, z] t)).cell? ⟨W.heap.size, 0, none⟩ = some x ∧ (W.alloc (.cells #[x, y, z] t)).cell? ⟨W.heap.size, 1, none⟩ = some y ∧ (W.alloc (.cells #[x, y, z] t)).cell? ⟨W.heap.size, 2, none⟩ = some z ∧ ∀ o, (W.alloc (.cells #[x, y, z] t)).frozen? ⟨W.heap.size, o, none⟩ = false := by
  have hh : (W.alloc (.cells #[x, y, z] t)).heap[W.heap.size]? = some (.cells #[x, y, z] t) := World.alloc_heap_new _ _
  refine ⟨?_, ?_, ?_, fun o => ?_⟩
  · unfold World.cell?; simp only [hh]; rfl
  · unfold World.cell?; simp only [hh]; rfl
  · unfold World.cell?; simp only [hh]; rfl
  · unfold World.frozen?; simp only [hh]; simp
/-- The limits of the first k members. -/
def gLim (l : List Mb) (k : Nat) (n : Int) : Int := if (findN (l.take k) n).isSome then limitL l n else 0
theorem gLim_zero (l : List Mb) (n : Int) : gLim l 0 n = 0 := by unfold gLim findN; simp
theorem gLim_all {l : List Mb} {k : Nat} (hk : l.length ≤ k) (n : Int) : gLim l k n = limitL l n := by
  unfold gLim
  rw [List.take_of_length_le hk]
  cases e : findN l n with
  | none =>
    unfold limitL
    rw [e]
    simp
  | some m => simp
theorem gLim_succ {l : List Mb} {k : Nat} {m : Mb} (hm : l[k]? = some m) (n : Int) : gLim l (k + 1) n = upd (gLim l k) m.node (limitL l m.node) n := by
  unfold upd gLim findN
  rw [List.take_add_one, hm, Option.toList_some, List.find?_append]
  by_cases e : n = m.node
  · subst e
    rw [if_pos rfl]
    cases e2 : (l.take k).find? (fun x => decide (x.node = m.node)) <;> simp
  · rw [if_neg e]
    have : ([m].find? fun x => decide (x.node = n)) = none := by simp; exact fun h => e h.symm
    rw [this, Option.or_none]

theorem wsum_take {l : List Mb} (h : ∀ m ∈ l, okMb m) (k : Nat) : 0 ≤ wsum (l.take k) ∧ wsum (l.take k) ≤ wsum l := by
  have e : wsum l = wsum (l.take k) + wsum (l.drop k) := by rw [← wsum_append, List.take_append_drop]
  have h1 := wsum_bd (l.take k) (fun m hm => h m (List.mem_of_mem_take hm))
  have h2 := wsum_bd (l.drop k) (fun m hm => h m (List.mem_of_mem_drop hm))
  omega
theorem wsum_succ {l : List Mb} {k : Nat} {m : Mb} (hm : l[k]? = some m) : wsum (l.take (k + 1)) = wsum (l.take k) + m.weight := by
  rw [List.take_add_one, hm, Option.toList_some, wsum_append]
  simp [wsum]

def LimPost (l : List Mb) (w : World) (e : Ending) (w' : World) : Prop := ∃ bm, e = .returned (.map (some bm)) ∧ w.heap.size ≤ bm ∧ MapF w' bm (limitL l) ∧ Keep (fun _ => False) w w'

set_option maxRecDepth 100000 in
set_option maxHeartbeats 1000000 in
theorem limits_ok (v : Value) (l : List Mb) (w : World) (h : Mbs w v l) (hv : VL l) : Calls Tryz.prog 55 #[v] w (LimPost l w) := by
  have HM := Lib.hid h
  obtain ⟨hn, hbd, a, c, b, off, rfl, hc, ha, hcell⟩ := h
  have HC := Lib.hid hcell
  have HA := Lib.hid ha
  have HBD := Lib.hid hbd
  have hws := hv.wsum
  have HV := Lib.hid hv
  have HVAL : Hid (∀ W, Keep (fun _ => False) w W → Calls Tryz.prog 30 #[.slice a l.length c] W fun e w' => e = .returned (.bool true) ∧ Keep (fun _ => False) W w') := Lib.hid (fun W k => by
    have := valid_any _ l W (HM.out.kept k)
    rwa [(validL_iff l).2 hv] at this)
  clear hcell ha hbd hv HM
  obtain ⟨n, hn'⟩ : ∃ n, l.length = n := ⟨_, rfl⟩
  have HL := Lib.hid hn'
  rw [hn'] at hn hc HVAL ⊢
  clear hn'
  have HK0 : Hid (Keep (fun _ => False) w (w.alloc (.map #[] 0))) := Lib.hid ((Keep.refl _ w).alloc _)
  have HM0 := Lib.hid (MapF.made w)
  have hmm := @run_makeMap Tryz.prog
  go_enter Tryz.func55, Tryz.ntmps55
  go_wp2_with fail
  generalize w.alloc (.map #[] 0) = W0 at *
  generalize hbm : w.heap.size = bm at HM0

  have HBM' := Lib.hid hbm
  clear hbm hmm
  go_loopg [4, 12] n (fun gh v4 v wr => ∃ (k : Nat), gh + k = n ∧ v = .int .i64 k ∧ v4 = .int .i64 (wsum (l.take k)) ∧ MapF wr bm (fun _ => 0) ∧ Keep (fun _ => False) w wr)
  case atStart => exact ⟨0, by omega, rfl, by simp [wsum], HM0.out, HK0.out⟩
  case round =>
    clear HM0 HK0
    obtain ⟨k, hk, rfl, rfl, hmf, hkeep⟩ := hrel
    have HMF := Lib.hid hmf
    have HK := Lib.hid hkeep
    clear hmf hkeep
    have hwt := wsum_take HV.out.ok k
    by_cases hlt : k < n
    · obtain ⟨m, hm⟩ : ∃ m, l[k]? = some m := ⟨_, List.getElem?_eq_getElem (by have := HL.out; omega)⟩
      obtain rfl := HA.out (by have := HL.out; omega)
      have c0 := HK.out.cell (HC.out k m hm).1 (fun h => h)
      have c1 := HK.out.cell (HC.out k m hm).2.1 (fun h => h)
      have c2 := HK.out.cell (HC.out k m hm).2.2 (fun h => h)
      have HWS := Lib.hid (wsum_succ hm)
      have hok := HV.out.ok m (List.mem_of_getElem? hm)
      unfold okMb at hok
      have hkz : (k : Int) < (n : Int) := by omega
      have hk0 : (0 : Int) ≤ (k : Int) := by omega
      clear hm
      obtain ⟨mn, mr, mw⟩ := m
      simp only [] at c0 c1 c2 hok
      generalize wsum (l.take k) = s0 at *
      have HK2 : Hid (Keep (fun _ => False) w (wr.alloc (.cells #[.int .i64 mn, .int .i64 mr, .int .i64 mw] 44))) := Lib.hid (HK.out.alloc _)
      have HMF2 : Hid (MapF (wr.alloc (.cells #[.int .i64 mn, .int .i64 mr, .int .i64 mw] 44)) bm (fun _ => 0)) := Lib.hid (HMF.out.kept ((Keep.refl _ wr).alloc _))
      go_wp2_with fail
      clear c0 c1 c2
      generalize wr.alloc (.cells #[.int .i64 mn, .int .i64 mr, .int .i64 mw] 44) = W2 at *
      go_roundg (gk - 1)
      case rel => exact ⟨k + 1, by omega, by go_num, by rw [HWS.out], HMF2.out, HK2.out⟩
      case measure => omega
    · have HWE : Hid (wsum (l.take k) = wsum l) := Lib.hid (by rw [List.take_of_length_le (by have := HL.out; omega)])
      rw [HWE.out]
      go_wp2_with fail
      with_reducible refine (HVAL.out _ HK.out).mono ?_
      rintro e W1 ⟨rfl, k1⟩
      have HK1 := Lib.hid (HK.out.trans k1)
      have HM1 : Hid (MapF W1 bm (gLim l 0)) := Lib.hid ((HMF.out.kept k1).congr (gLim_zero l))
      clear k1 HK HMF hwt
      go_wp2_with fail
      go_loopg [25] n (fun gh v wr => ∃ (k : Nat), gh + k = n ∧ v = .int .i64 k ∧ MapF wr bm (gLim l k) ∧ Keep (fun _ => False) w wr)
      case atStart => exact ⟨0, by omega, rfl, HM1.out, HK1.out⟩
      case round =>
        clear HM1 HK1
        obtain ⟨k, hk, rfl, hmf, hkeep⟩ := hrel
        have HMF := Lib.hid hmf
        have HK := Lib.hid hkeep
        clear hmf hkeep
        by_cases hlt : k < n
        · obtain ⟨m, hm⟩ : ∃ m, l[k]? = some m := ⟨_, List.getElem?_eq_getElem (by have := HL.out; omega)⟩
          obtain rfl := HA.out (by have := HL.out; omega)
          have c0 := HK.out.cell (HC.out k m hm).1 (fun h => h)
          have c1 := HK.out.cell (HC.out k m hm).2.1 (fun h => h)
          have c2 := HK.out.cell (HC.out k m hm).2.2 (fun h => h)
          have hok := HV.out.ok m (List.mem_of_getElem? hm)
          have HLI : Hid (limitL l m.node = (80 * m.weight + wsum l - 1) / wsum l) := Lib.hid (limitL_mem HV.out (List.mem_of_getElem? hm))
          have HGS := Lib.hid (gLim_succ hm)
          unfold okMb at hok
          have hkz : (k : Int) < (n : Int) := by omega
          have hk0 : (0 : Int) ≤ (k : Int) := by omega
          clear hm
          obtain ⟨mn, mr, mw⟩ := m
          simp only [] at c0 c1 c2 hok HLI HGS
          generalize wsum l = s0 at *
          have HK2 : Hid (Keep (fun _ => False) w (wr.alloc (.cells #[.int .i64 mn, .int .i64 mr, .int .i64 mw] 44))) := Lib.hid (HK.out.alloc _)
          have HMF2 : Hid (MapF (wr.alloc (.cells #[.int .i64 mn, .int .i64 mr, .int .i64 mw] 44)) bm (gLim l k)) := Lib.hid (HMF.out.kept ((Keep.refl _ wr).alloc _))
          have HT3 := Lib.hid (three_cell wr (.int .i64 mn) (.int .i64 mr) (.int .i64 mw) 44)
          go_wp2_with fail
          clear c0 c1 c2
          generalize wr.alloc (.cells #[.int .i64 mn, .int .i64 mr, .int .i64 mw] 44) = W2 at *
          generalize wr.heap.size = z at *
          have d0 : W2.drew.cell? ⟨z, 0, none⟩ = some (.int .i64 mn) := HT3.out.1
          have d2 : W2.drew.cell? ⟨z, 2, none⟩ = some (.int .i64 mw) := HT3.out.2.2.1
          obtain ⟨es', ck', hup, hmr⟩ := (HMF2.out.of_heap (w' := W2.drew) rfl).update (n := mn) ⟨by omega, by omega⟩ ((80 * mw + s0 - 1) / s0)
          have HMR := Lib.hid (hmr.congr (f := gLim l (k + 1)) (fun q => by rw [HGS.out q, HLI.out]))
          have e1 : IntKind.i64.wrap (80 * mw) = 80 * mw := wrapI ⟨by omega, by omega⟩
          have e2 : IntKind.i64.wrap (80 * mw + s0) = 80 * mw + s0 := wrapI ⟨by omega, by omega⟩
          have e3 : IntKind.i64.wrap (80 * mw + s0 - 1) = 80 * mw + s0 - 1 := wrapI ⟨by omega, by omega⟩
          have e4 : (80 * mw + s0 - 1).tdiv s0 = (80 * mw + s0 - 1) / s0 := Int.tdiv_eq_ediv_of_nonneg (by omega)
          have hq1 : 0 ≤ (80 * mw + s0 - 1) / s0 := Int.ediv_nonneg (by omega) (by omega)
          have hq2 : (80 * mw + s0 - 1) / s0 ≤ 80 * mw + s0 - 1 := Int.ediv_le_self _ (by omega)
          have e5 : IntKind.i64.wrap ((80 * mw + s0 - 1) / s0) = (80 * mw + s0 - 1) / s0 := wrapI ⟨by omega, by omega⟩
          have hs0 : (s0 = 0) = False := eq_false (by omega)
          refine wp_region_still_tail 11 (by kernel_rfl) (by kernel_rfl) ?_
          simp only [List.take_succ_cons, List.take_zero, List.drop_succ_cons, List.drop_zero]
          change wpStill _ _ W2.drew _ _ _
          iterate 11 still_step
          refine wpStill_nil ?_
          go_wp2_with fail
          have HK3 : Hid (Keep (fun _ => False) w (W2.drew.putObj bm (.map es' ck'))) := Lib.hid (HK2.out.drew.putObj _ (.inr (by have := HBM'.out; omega)))
          clear hup hmr d0 d2
          generalize W2.drew.putObj bm (.map es' ck') = W3 at *
          go_roundg (gk - 1)
          case rel => exact ⟨k + 1, by omega, by go_num, HMR.out, HK3.out⟩
          case measure => omega
        · have HMA : Hid (MapF wr bm (limitL l)) := Lib.hid (HMF.out.congr (fun q => (gLim_all (by have := HL.out; omega) q).symm))
          go_wp2_with fail
          go_ret
          exact ⟨bm, rfl, by have := HBM'.out; omega, HMA.out, HK.out⟩

set_option maxRecDepth 100000 in
set_option maxHeartbeats 1000000 in
theorem limits_bad (v : Value) (l : List Mb) (w : World) (h : Mbs w v l) (hv : ¬ VL l) : Calls Tryz.prog 55 #[v] w (LimPost l w) := by
  have HM := Lib.hid h
  obtain ⟨hn, hbd, a, c, b, off, rfl, hc, ha, hcell⟩ := h
  have HC := Lib.hid hcell
  have HA := Lib.hid ha
  have HV := Lib.hid hv
  have HVAL : Hid (∀ W, Keep (fun _ => False) w W → Calls Tryz.prog 30 #[.slice a l.length c] W fun e w' => e = .returned (.bool false) ∧ Keep (fun _ => False) W w') := Lib.hid (fun W k => by
    have := valid_any _ l W (HM.out.kept k)
    rwa [show validL l = false from by
      cases e : validL l with
      | false => rfl
      | true => exact absurd ((validL_iff l).1 e) hv] at this)
  clear hcell ha hbd hv HM
  obtain ⟨n, hn'⟩ : ∃ n, l.length = n := ⟨_, rfl⟩
  have HL := Lib.hid hn'
  rw [hn'] at hn hc HVAL ⊢
  clear hn'
  have HK0 : Hid (Keep (fun _ => False) w (w.alloc (.map #[] 0))) := Lib.hid ((Keep.refl _ w).alloc _)
  have HM0 := Lib.hid (MapF.made w)
  have hmm := @run_makeMap Tryz.prog
  go_enter Tryz.func55, Tryz.ntmps55
  go_wp2_with fail
  generalize w.alloc (.map #[] 0) = W0 at *
  generalize hbm : w.heap.size = bm at HM0
  have HBM' := Lib.hid hbm
  clear hbm hmm
  go_loopg [4, 12] n (fun gh v4 v wr => ∃ (k : Nat) (x : Int), gh + k = n ∧ v = .int .i64 k ∧ v4 = .int .i64 x ∧ MapF wr bm (fun _ => 0) ∧ Keep (fun _ => False) w wr)
  case atStart => exact ⟨0, 0, by omega, rfl, rfl, HM0.out, HK0.out⟩
  case round =>
    clear HM0 HK0
    obtain ⟨k, x, hk, rfl, rfl, hmf, hkeep⟩ := hrel
    have HMF := Lib.hid hmf
    have HK := Lib.hid hkeep
    clear hmf hkeep
    by_cases hlt : k < n
    · obtain ⟨m, hm⟩ : ∃ m, l[k]? = some m := ⟨_, List.getElem?_eq_getElem (by have := HL.out; omega)⟩
      obtain rfl := HA.out (by have := HL.out; omega)
      have c0 := HK.out.cell (HC.out k m hm).1 (fun h => h)
      have c1 := HK.out.cell (HC.out k m hm).2.1 (fun h => h)
      have c2 := HK.out.cell (HC.out k m hm).2.2 (fun h => h)
      have hkz : (k : Int) < (n : Int) := by omega
      have hk0 : (0 : Int) ≤ (k : Int) := by omega
      clear hm
      obtain ⟨mn, mr, mw⟩ := m
      simp only [] at c0 c1 c2
      have HK2 : Hid (Keep (fun _ => False) w (wr.alloc (.cells #[.int .i64 mn, .int .i64 mr, .int .i64 mw] 44))) := Lib.hid (HK.out.alloc _)
      have HMF2 : Hid (MapF (wr.alloc (.cells #[.int .i64 mn, .int .i64 mr, .int .i64 mw] 44)) bm (fun _ => 0)) := Lib.hid (HMF.out.kept ((Keep.refl _ wr).alloc _))
      go_wp2_with fail
      clear c0 c1 c2
      generalize wr.alloc (.cells #[.int .i64 mn, .int .i64 mr, .int .i64 mw] 44) = W2 at *
      go_roundg (gk - 1)
      case rel => exact ⟨k + 1, _, by omega, by go_num, rfl, HMF2.out, HK2.out⟩
      case measure => omega
    · go_wp2_with fail
      with_reducible refine (HVAL.out _ HK.out).mono ?_
      rintro e W1 ⟨rfl, k1⟩
      have HK1 := Lib.hid (HK.out.trans k1)
      have HM1 : Hid (MapF W1 bm (limitL l)) := Lib.hid ((HMF.out.kept k1).congr (fun q => limitL_bad HV.out))
      clear k1 HK HMF
      go_wp2_with fail
      go_ret
      exact ⟨bm, rfl, by have := HBM'.out; omega, HM1.out, HK1.out⟩
theorem limits_any (v : Value) (l : List Mb) (w : World) (h : Mbs w v l) : Calls Tryz.prog 55 #[v] w (LimPost l w) := by
  by_cases hv : VL l
  · exact limits_ok v l w h hv
  · exact limits_bad v l w h hv

set_option maxRecDepth 100000 in
set_option maxHeartbeats 400000 in
theorem limit_any (v : Value) (l : List Mb) (w : World) (h : Mbs w v l) (n : Int) (hn : I64 n) : Calls Tryz.prog 31 #[v, .int .i64 n] w fun e w' => e = .returned (.int .i64 (limitL l n)) ∧ Keep (fun _ => False) w w' := by
  have HL := Lib.hid (limits_any v l w h)
  have HN := Lib.hid hn
  clear h hn
  go_enter Tryz.func31, Tryz.ntmps31
  go_wp2_with fail
  with_reducible refine HL.out.mono ?_
  rintro e W1 ⟨bm, rfl, hb, hm, k1⟩
  have hl := hm.look HN.out
  go_wp2_with fail
  go_ret
  exact ⟨rfl, k1⟩
end Go.Proofs.YtiacdkggbnoigaaGreatDoor

/-
  ValidRing, Owner, Load of package ring.
-/
namespace Go.Proofs.YtiacdkggbnoigaaGreatDoor
open Go.RowKit Go.Shelf

/-- A ring as a value. -/
abbrev ringV (ep : Int) (vm vo : Value) : Value := .agg #[.int .i64 ep, vm, vo]
/-- A ring in memory. -/
structure Rng (W : World) (v : Value) (ep : Int) (l : List Mb) (ow : List Int) : Prop where
  bd : I64 ep
  at_ : ∃ vm vo, v = ringV ep vm vo ∧ Mbs W vm l ∧ Its W vo ow
theorem Rng.kept {W W' : World} {v : Value} {ep : Int} {l : List Mb} {ow : List Int} (h : Rng W v ep l ow) (k : Keep (fun _ => False) W W') : Rng W' v ep l ow := by
  obtain ⟨vm, vo, rfl, h1, h2⟩ := h.at_
  exact ⟨h.bd, vm, vo, rfl, h1.kept k, h2.kept k⟩

set_option maxRecDepth 100000 in
set_option maxHeartbeats 400000 in
theorem load_any (v : Value) (ep : Int) (l : List Mb) (ow : List Int) (w : World) (h : Rng w v ep l ow) (q : Int) : Calls Tryz.prog 23 #[v, .int .i64 q] w fun e w' => e = .returned (.int .i64 (cnt ow q)) ∧ Keep (fun _ => False) w w' := by
  obtain ⟨-, vm, vo, rfl, -, hi⟩ := h
  obtain ⟨hn, -, a, c, b, off, rfl, hc, ha, hcell⟩ := hi
  have HC := Lib.hid hcell
  have HA := Lib.hid ha
  clear hcell ha
  obtain ⟨n, hn'⟩ : ∃ n, ow.length = n := ⟨_, rfl⟩
  have HL := Lib.hid hn'
  rw [hn'] at hn hc ⊢
  clear hn'
  have HK0 : Hid (Keep (fun _ => False) w (w.alloc (.cells #[.int .i64 ep, vm, .slice a n c] 25))) := Lib.hid ((Keep.refl _ w).alloc _)
  go_enter Tryz.func23, Tryz.ntmps23
  go_wp2_with fail
  generalize w.alloc (.cells #[.int .i64 ep, vm, .slice a n c] 25) = W0 at *
  go_loopg [5, 11] n (fun gh v5 v wr => ∃ k : Nat, gh + k = n ∧ v = .int .i64 k ∧ v5 = .int .i64 (cnt (ow.take k) q) ∧ wr = W0)
  case atStart => exact ⟨0, by omega, rfl, by simp [cnt], rfl⟩
  case round =>
    obtain ⟨k, hk, rfl, rfl, rfl⟩ := hrel
    by_cases hlt : k < n
    · obtain ⟨x, hx⟩ : ∃ x, ow[k]? = some x := ⟨_, List.getElem?_eq_getElem (by have := HL.out; omega)⟩
      obtain rfl := HA.out (by have := HL.out; omega)
      have c1 := HK0.out.cell (HC.out k x hx) (fun h => h)
      have HS := Lib.hid (cnt_take_succ hx q)
      have hb0 := cnt_nn (ow.take k) q
      have hb1 : cnt (ow.take k) q ≤ k := by
        unfold cnt
        have := List.count_le_length (a := q) (l := ow.take k)
        rw [List.length_take] at this
        omega
      have hkz : (k : Int) < (n : Int) := by omega
      have hk0 : (0 : Int) ≤ (k : Int) := by omega
      clear hx
      generalize cnt (ow.take k) q = s0 at *
      by_cases hxq : x = q
      · subst hxq
        have hbe : (x == x) = true := by simp
        go_wp2_with fail
        go_roundg (gk - 1)
        case rel => exact ⟨k + 1, by omega, by go_num, by rw [HS.out]; simp, rfl⟩
        case measure => omega
      · have hbe : (x == q) = false := by simpa using hxq
        have HN := Lib.hid hxq
        clear hxq
        go_wp2_with fail
        go_roundg (gk - 1)
        case rel => exact ⟨k + 1, by omega, by go_num, by rw [HS.out, if_neg (fun e => HN.out e.symm), Int.add_zero], rfl⟩
        case measure => omega
    · have HE : Hid (cnt (ow.take k) q = cnt ow q) := Lib.hid (by rw [List.take_of_length_le (by have := HL.out; omega)])
      rw [HE.out]
      go_wp2_with fail
      go_ret
      exact ⟨rfl, HK0.out⟩

/-- The owner of a key. -/
def ownerOf (ow : List Int) (key : ByteArray) : Int := if ow.length = 64 then ow.getD (slotOf key) 0 else -1
/-- ValidRing. -/
def validRB (ep : Int) (l : List Mb) (ow : List Int) : Bool := ow.all (fun n => decide (cnt ow n ≤ limitL l n)) && (decide (1 ≤ ep ∧ ep ≤ 1000000) && (validL l && decide (ow.length = 64)))
theorem validRB_iff (ep : Int) (l : List Mb) (ow : List Int) : validRB ep l ow = true ↔ okRing ep l ow := by
  unfold validRB okRing
  simp only [Bool.and_eq_true, List.all_eq_true, decide_eq_true_eq, validL_iff]
  constructor
  · rintro ⟨h1, h2, h3, h4⟩
    refine ⟨h2.1, h2.2, h3, h4, fun n => ?_⟩
    by_cases hn : n ∈ ow
    · exact h1 n hn
    · have : cnt ow n = 0 := by
        have h5 := cnt_nn ow n
        by_cases h6 : 0 < cnt ow n
        · exact absurd (cnt_pos_mem h6) hn
        · omega
      rw [this]; exact (limitL_nn l n).1
  · rintro ⟨h1, h2, h3, h4, h5⟩
    exact ⟨fun n _ => h5 n, ⟨h1, h2⟩, h3, h4⟩

set_option maxRecDepth 100000 in
set_option maxHeartbeats 1000000 in
theorem validRing_any (v : Value) (ep : Int) (l : List Mb) (ow : List Int) (w : World) (h : Rng w v ep l ow) : Calls Tryz.prog 29 #[v] w fun e w' => e = .returned (.bool (validRB ep l ow)) ∧ Keep (fun _ => False) w w' := by
  obtain ⟨-, vm, vo, rfl, hmb, hi⟩ := h
  have HLI : Hid (∀ W, Keep (fun _ => False) w W → Calls Tryz.prog 55 #[vm] W (LimPost l W)) := Lib.hid (fun W k => limits_any vm l W (hmb.kept k))
  have HVA : Hid (∀ W, Keep (fun _ => False) w W → Calls Tryz.prog 30 #[vm] W fun e w' => e = .returned (.bool (validL l)) ∧ Keep (fun _ => False) W w') := Lib.hid (fun W k => valid_any vm l W (hmb.kept k))
  obtain ⟨hn, hbd, a, c, b, off, rfl, hc, ha, hcell⟩ := hi
  have HC := Lib.hid hcell
  have HA := Lib.hid ha
  have HBD := Lib.hid hbd
  clear hcell ha hmb hbd
  obtain ⟨n, hn'⟩ : ∃ n, ow.length = n := ⟨_, rfl⟩
  have HL := Lib.hid hn'
  rw [hn'] at hn hc ⊢
  clear hn'
  have HK0 : Hid (Keep (fun _ => False) w (w.alloc (.cells #[.int .i64 ep, vm, .slice a n c] 25))) := Lib.hid ((Keep.refl _ w).alloc _)
  have HT3 := Lib.hid (three_cell w (.int .i64 ep) vm (.slice a n c) 25)
  have HZ : Hid (w.heap.size < (w.alloc (.cells #[.int .i64 ep, vm, .slice a n c] 25)).heap.size) := Lib.hid (by simp)
  have HZ0 : Hid (w.heap.size ≤ w.heap.size) := Lib.hid (Nat.le_refl _)
  go_enter Tryz.func29, Tryz.ntmps29
  go_wp2_with fail
  generalize w.alloc (.cells #[.int .i64 ep, vm, .slice a n c] 25) = W0 at *
  generalize hz : w.heap.size = z at HT3 HZ
  have HZE := Lib.hid hz
  clear hz
  with_reducible refine (HLI.out _ HK0.out).mono ?_
  rintro e W1 ⟨bm, rfl, hbm, hmf, k1⟩
  have HK1 := Lib.hid (HK0.out.trans k1)
  have HBM : Hid (w.heap.size ≤ bm ∧ z ≠ bm) := Lib.hid ⟨by have := HK0.out.size; omega, by have := HZ.out; omega⟩
  have HM1 : Hid (MapF W1 bm (fun q => limitL l q - cnt (ow.take 0) q)) := Lib.hid (hmf.congr (fun q => by simp [cnt]))
  have HZC := Lib.hid (And.intro (k1.cell HT3.out.1 (fun h => h)) (And.intro (k1.cell HT3.out.2.1 (fun h => h)) (k1.cell HT3.out.2.2.1 (fun h => h))))
  clear k1 hbm hmf HT3 HLI
  have d2 := HZC.out.2.2
  go_wp2_with fail
  clear d2
  go_loopg [12] n (fun gh v wr => ∃ k : Nat, gh + k = n ∧ v = .int .i64 k ∧ MapF wr bm (fun q => limitL l q - cnt (ow.take k) q) ∧ (∀ q, cnt (ow.take k) q ≤ limitL l q) ∧ Keep (fun _ => False) w wr ∧ Keep (fun x => x = bm) W1 wr)
  case atStart => exact ⟨0, by omega, rfl, HM1.out, fun q => by have := (limitL_nn l q).1; simp [cnt]; omega, HK1.out, Keep.refl _ _⟩
  case round =>
    clear HM1 HK1
    obtain ⟨k, hk, rfl, hmf, hle, hkeep, hkp⟩ := hrel
    have HMF := Lib.hid hmf
    have HLE := Lib.hid hle
    have HK := Lib.hid hkeep
    have HKP := Lib.hid hkp
    clear hmf hle hkeep hkp
    by_cases hlt : k < n
    · obtain ⟨x, hx⟩ : ∃ x, ow[k]? = some x := ⟨_, List.getElem?_eq_getElem (by have := HL.out; omega)⟩
      obtain rfl := HA.out (by have := HL.out; omega)
      have c1 := HK.out.cell (HC.out k x hx) (fun h => h)
      have hxb := HBD.out x (List.mem_of_getElem? hx)
      have HXB := Lib.hid hxb
      have HS := Lib.hid (cnt_take_succ hx)
      have HXM := Lib.hid (List.mem_of_getElem? hx)
      have hb0 := cnt_nn (ow.take k) x
      have hb1 := HLE.out x
      have hb2 := limitL_nn l x
      obtain ⟨g, hg⟩ : ∃ g, limitL l x - cnt (ow.take k) x = g := ⟨_, rfl⟩
      have hgb : 0 ≤ g ∧ g ≤ 1280 := by omega
      have lk := HMF.out.look hxb

      rw [hg] at lk
      obtain ⟨es', ck', hup, hmr⟩ := HMF.out.update hxb (g - 1)
      have HGX := Lib.hid hg
      have HM2 : Hid (MapF (wr.putObj bm (.map es' ck')) bm (fun q => limitL l q - cnt (ow.take (k + 1)) q)) := Lib.hid (hmr.congr (fun q => by
        unfold upd
        rw [HS.out q]
        by_cases e : q = x
        · subst e; rw [if_pos rfl, if_pos rfl]; have := HGX.out; omega
        · rw [if_neg e, if_neg e, Int.add_zero]))
      have lk2 := HM2.out.look hxb

      have HLK : Hid (limitL l x - cnt (ow.take (k + 1)) x = g - 1) := Lib.hid (by rw [HS.out x, if_pos rfl]; have := HGX.out; omega)
      rw [HLK.out] at lk2
      have HK2 : Hid (Keep (fun _ => False) w (wr.putObj bm (.map es' ck'))) := Lib.hid (HK.out.putObj _ (.inr HBM.out.1))
      have HKP2 : Hid (Keep (fun x => x = bm) W1 (wr.putObj bm (.map es' ck'))) := Lib.hid (HKP.out.putObj _ (.inl rfl))
      have hkz : (k : Int) < (n : Int) := by omega
      have hk0 : (0 : Int) ≤ (k : Int) := by omega
      clear hx hmr hg hb0 hb1 hb2 hxb
      by_cases hneg : g - 1 < 0
      · have HF : Hid (validRB ep l ow = false) := Lib.hid (by
          cases e : validRB ep l ow with
          | false => rfl
          | true =>
            have h1 := ((validRB_iff ep l ow).1 e).2.2.2.2 x
            have h2 := cnt_take_le ow (k + 1) x
            have := HLK.out
            omega)
        go_wp2_with fail
        go_ret
        exact ⟨by rw [HF.out]; rfl, HK2.out⟩
      · have HLE2 : Hid (∀ q, cnt (ow.take (k + 1)) q ≤ limitL l q) := Lib.hid (fun q => by
          have h1 := HLE.out q
          have h2 := HS.out q
          by_cases e : q = x
          · subst e; have := HLK.out; omega
          · rw [if_neg e] at h2; omega)
        go_wp2_with fail
        clear lk lk2 hup c1
        generalize wr.putObj bm (.map es' ck') = W2 at *
        go_roundg (gk - 1)
        case rel => exact ⟨k + 1, by omega, by go_num, HM2.out, HLE2.out, HK2.out, HKP2.out⟩
        case measure => omega
    · have HALL : Hid (ow.all (fun n => decide (cnt ow n ≤ limitL l n)) = true) := Lib.hid (by
        rw [List.all_eq_true]
        intro q _
        have := HLE.out q
        rw [List.take_of_length_le (by have := HL.out; omega)] at this
        exact decide_eq_true this)
      have d0 := HKP.out.cell HZC.out.1 HBM.out.2
      have d1 := HKP.out.cell HZC.out.2.1 HBM.out.2
      have d2 := HKP.out.cell HZC.out.2.2 HBM.out.2
      have HRB : Hid (validRB ep l ow = (decide (1 ≤ ep ∧ ep ≤ 1000000) && (validL l && decide (n = 64)))) := Lib.hid (by unfold validRB; rw [HALL.out, HL.out]; rfl)
      go_wp2_with fail
      by_cases h1 : 1 ≤ ep ∧ ep ≤ 1000000
      · have H1 := Lib.hid (decide_eq_true h1)
        clear h1
        with_reducible refine (within_b ep 1 1000000 true H1.out _).mono ?_
        rintro e w' ⟨rfl, rfl⟩
        go_wp2_with fail
        with_reducible refine (HVA.out _ HK.out).mono ?_
        rintro e W3 ⟨rfl, k3⟩
        have HK3 := Lib.hid (HK.out.trans k3)
        have d2' := k3.cell d2 (fun h => h)
        clear d2 d1 d0 k3
        cases hva : validL l with
        | false =>
          have HVF := Lib.hid hva
          clear hva
          go_wp2_with fail
          go_ret
          exact ⟨by rw [HRB.out, H1.out, HVF.out]; rfl, HK3.out⟩
        | true =>
          have HVF := Lib.hid hva
          clear hva
          by_cases h64 : n = 64
          · subst h64
            go_wp2_with fail
            go_ret
            exact ⟨by rw [HRB.out, H1.out, HVF.out]; rfl, HK3.out⟩
          · have hb : ((n : Int) == 64) = false := by simp; omega
            have HN := Lib.hid (decide_eq_false h64)
            clear h64
            go_wp2_with fail
            go_ret
            exact ⟨by rw [HRB.out, H1.out, HVF.out, HN.out]; rfl, HK3.out⟩
      · have H1 := Lib.hid (decide_eq_false h1)
        clear h1
        with_reducible refine (within_b ep 1 1000000 false H1.out _).mono ?_
        rintro e w' ⟨rfl, rfl⟩
        go_wp2_with fail
        go_ret
        exact ⟨by rw [HRB.out, H1.out]; rfl, HK.out⟩
end Go.Proofs.YtiacdkggbnoigaaGreatDoor

/-
  copy within a row that the call itself made, elements of k cells.
-/
namespace Go.Proofs.YtiacdkggbnoigaaGreatDoor
open Go.RowKit

theorem run_copy_zero {P : Program} (w : World) (dT sT ty elem : TypeId) (k : Nat) (dp sp : Option Addr) (dLen dCap sLen sCap : Nat) (hu : P.underlying dT = some (.slice elem)) (hs : (P.info? elem).map (·.size) = some k) (hn : Nat.min sLen dLen = 0) :
    (Builtin.copy_ #[dT, sT] ty #[.slice dp dLen dCap, .slice sp sLen sCap]).run P w = .ok (goInt 0) w := by
  cases hq : P.info? elem with
  | none => simp [hq] at hs
  | some i =>
    have hl : ∀ a : Addr, (loadCells a 0).run P w = .ok #[] w := fun a => run_loadCells_list (P := P) w a [] (fun j v hj => by simp at hj)
    cases sp with
    | none =>
      cases dp <;> simp [Builtin.copy_, run_underlying hu, Builtin.lenOf, Builtin.firstCells, sizeOf, typeInfo, hq, hn, storeCells]
    | some a =>
      cases dp <;> simp [Builtin.copy_, run_underlying hu, Builtin.lenOf, Builtin.firstCells, sizeOf, typeInfo, hq, hn, storeCells, hl]
theorem run_copy_k {P : Program} (w : World) (dT sT ty elem : TypeId) (k g o dLen dCap : Nat) (a : Addr) (sLen sCap : Nat) (cur : Array Value) (t : TypeId) (cs : List Value) (m : Nat)
    (hu : P.underlying dT = some (.slice elem)) (hs : (P.info? elem).map (·.size) = some k)
    (hg : w.heap[g]? = some (.cells cur t (0, 0))) (hn : Nat.min sLen dLen = m) (hc : cs.length = m * k)
    (hsrc : ∀ j v, cs[j]? = some v → w.cell? (a.add j) = some v) (hfit : o + cs.length ≤ cur.size) (h1 : ∀ v ∈ cs, v.oneCell' = true) :
    (Builtin.copy_ #[dT, sT] ty #[.slice (some ⟨g, o, none⟩) dLen dCap, .slice (some a) sLen sCap]).run P w =
      .ok (goInt m) (w.setRow g (cur.toList.take o ++ cs ++ cur.toList.drop (o + cs.length)).toArray) := by
  have hl := run_loadCells_list (P := P) w a cs hsrc
  have hst := run_storeCells_at P g o t cs 0 cur w hg (by simpa using hfit) h1
  cases hq : P.info? elem with
  | none => simp [hq] at hs
  | some i =>
    have hi : i.size = k := by simpa [hq] using hs
    simp [Builtin.copy_, run_underlying hu, Builtin.lenOf, Builtin.firstCells, sizeOf, typeInfo, hq, hi, hn, ← hc, hl, hst]
theorem Keep.setRow (w : World) (g : Nat) (cs : Array Value) : Keep (fun j => j = g) w (w.setRow g cs) :=
  ⟨rfl, rfl, rfl, by simp [World.setRow], fun k _ hk => setRow_other w g k cs (fun e => hk e)⟩
theorem copy_within {P : Program} {W : World} {base : Nat} {e : TypeId} {k g cap n : Nat} {xs : List Value} (h : W.ownsRow base e k (.slice (some ⟨g, 0, none⟩) n cap) n xs) (h1 : ∀ u ∈ xs, u.oneCell' = true)
    (dT sT ty elem : TypeId) (hu : P.underlying dT = some (.slice elem)) (hs : (P.info? elem).map (·.size) = some k)
    (dp sp : Option Addr) (dLen dCap sLen sCap o so m : Nat) (hm : Nat.min sLen dLen = m) (hpos : 0 < m → dp = some ⟨g, o, none⟩ ∧ sp = some ⟨g, so, none⟩) (ho : o + m * k ≤ n * k) (hso : so + m * k ≤ n * k) :
    ∃ W', (Builtin.copy_ #[dT, sT] ty #[.slice dp dLen dCap, .slice sp sLen sCap]).run P W = .ok (goInt m) W' ∧ W'.ownsRow base e k (.slice (some ⟨g, 0, none⟩) n cap) n (xs.take o ++ ((xs.drop so).take (m * k) ++ xs.drop (o + m * k))) ∧ Keep (fun j => j = g) W W' := by
  have h' := h
  obtain ⟨hlen, hrow⟩ := h
  rcases hrow with ⟨e0, _⟩ | ⟨g', cap', cur, e0, hb, hg, hn, hmax, hcur, htake⟩
  · cases e0
  · cases e0
    by_cases h0 : m = 0
    · subst h0
      refine ⟨W, run_copy_zero W dT sT ty elem k dp sp dLen dCap sLen sCap hu hs hm, ?_, Keep.refl _ W⟩
      simpa using h'
    · obtain ⟨rfl, rfl⟩ := hpos (by omega)
      have hcl : ((xs.drop so).take (m * k)).length = m * k := by rw [List.length_take, List.length_drop]; omega
      have hnc : n * k ≤ cap * k := Nat.mul_le_mul_right k hn
      have hfull : cur.toList = xs ++ cur.toList.drop (n * k) := by rw [← htake, List.take_append_drop]
      refine ⟨_, run_copy_k W dT sT ty elem k g o dLen dCap ⟨g, so, none⟩ sLen sCap cur e ((xs.drop so).take (m * k)) m hu hs hg hm hcl (fun j v hj => ?_) (by rw [hcl]; omega) (fun v hv => h1 v (List.mem_of_mem_drop (List.mem_of_mem_take hv))), ?_, Keep.setRow W g _⟩
      · have hj1 : j < m * k := by have := (List.getElem?_eq_some_iff.1 hj).1; omega
        rw [List.getElem?_take_of_lt hj1, List.getElem?_drop] at hj
        rw [Addr.add_lit, h'.cellAt (so + j) (by omega)]
        exact hj
      · refine ⟨by simp only [List.length_append, List.length_take, List.length_drop]; omega, .inr ⟨g, cap, _, rfl, hb, setRow_heap W g cur _ e _ hg, hn, hmax, ?_, ?_⟩⟩
        · simp only [List.size_toArray, List.length_append, List.length_take, List.length_drop, Array.length_toList]
          omega
        · rw [hcl]
          show List.take (n * k) (cur.toList.take o ++ (xs.drop so).take (m * k) ++ cur.toList.drop (o + m * k)) = _
          generalize (xs.drop so).take (m * k) = cs at *
          generalize cur.toList.drop (n * k) = D at hfull
          have e1 : (xs ++ D).take o = xs.take o := List.take_append_of_le_length (by omega)
          have e2 : (xs ++ D).drop (o + m * k) = xs.drop (o + m * k) ++ D := List.drop_append_of_le_length (by omega)
          rw [hfull, e1, e2]
          have e : xs.take o ++ cs ++ (xs.drop (o + m * k) ++ D) = (xs.take o ++ (cs ++ xs.drop (o + m * k))) ++ D := by simp
          rw [e, List.take_append_of_le_length (by simp only [List.length_append, List.length_take, List.length_drop]; omega)]
          exact List.take_of_length_le (by simp only [List.length_append, List.length_take, List.length_drop]; omega)
end Go.Proofs.YtiacdkggbnoigaaGreatDoor

/-
  The reference's SameInts, Sum, Point, Digits.
-/
namespace Go.Proofs.YtiacdkggbnoigaaGreatDoor
open Go.RowKit Go.Shelf

set_option maxRecDepth 100000 in
set_option maxHeartbeats 2000000 in
theorem sameInts_any (va vb : Value) (xs ys : List Int) (w : World) (ha : Its w va xs) (hb : Its w vb ys) : Calls Tryz.prog 15 #[va, vb] w fun e w' => e = .returned (.bool (decide (xs = ys))) ∧ Keep (fun _ => False) w w' := by
  obtain ⟨hn1, -, a, c, b, off, rfl, hc, ha, hcell⟩ := ha
  obtain ⟨hn2, -, a', c', b', off', rfl, hc', ha', hcell'⟩ := hb
  have HCA := Lib.hid hcell
  have HCB := Lib.hid hcell'
  have HAA := Lib.hid ha
  have HAB := Lib.hid ha'
  clear hcell hcell' ha ha'
  by_cases hl : xs.length = ys.length
  · obtain ⟨n, hn⟩ : ∃ n, xs.length = n := ⟨_, rfl⟩
    have hny : ys.length = n := by omega
    have HN := Lib.hid hn
    have HNY := Lib.hid hny
    rw [hn] at hn1 hc ⊢
    rw [hny] at hn2 hc' ⊢
    have hd : ((n : Int) != (n : Int)) = false := by simp
    clear hl hn hny
    go_enter Tryz.func15, Tryz.ntmps15
    go_wp2_with fail
    go_loopg [5] (n) (fun gh i wr => ∃ (k m : Nat), gh + k = n ∧ i = .int .i64 k ∧ wr = w.drewN m ∧ Hid (xs.take k = ys.take k))
    case atStart => exact ⟨0, 0, Nat.add_zero _, rfl, rfl, rfl⟩
    case round =>
      obtain ⟨k, m, hk, rfl, rfl, HE⟩ := hrel
      by_cases hlt : k < n
      · have hkx : k < xs.length := by rw [HN.out]; exact hlt
        have hky : k < ys.length := by rw [HNY.out]; exact hlt
        obtain rfl := HAA.out (by omega)
        obtain rfl := HAB.out (by omega)
        have t1 : xs.take (k + 1) = xs.take k ++ [xs[k]] := by rw [List.take_add_one, List.getElem?_eq_getElem hkx]; rfl
        have t2 : ys.take (k + 1) = ys.take k ++ [ys[k]] := by rw [List.take_add_one, List.getElem?_eq_getElem hky]; rfl
        have hb0 : (0 : Int) ≤ (k : Int) := by omega
        have hb1 : (k : Int) < (n : Int) := by omega
        have ca0 := HCA.out k _ (List.getElem?_eq_getElem hkx)
        have cb0 := HCB.out k _ (List.getElem?_eq_getElem hky)
        -- the elements
        by_cases hst : xs[k] = ys[k]
        · have HT : Hid (xs.take (k + 1) = ys.take (k + 1)) := by
            show _ = _
            rw [t1, t2, HE.out, hst]
          rw [← hst] at cb0
          clear t1 t2 hst
          generalize xs[k] = x at *
          clear hkx hky
          have hb : (x != x) = false := by simp
          go_wp2_with fail
          go_quiet (fail)
          go_wp2_with fail
          go_roundg (gk - 1)
          case rel => exact ⟨k + 1, _, by omega, by go_num, by first | rfl | exact World.drewN_drewN _ _ _, HT⟩
          case measure => omega
        · have HT : Hid (decide (xs = ys) = false) := Lib.hid (by
            rw [decide_eq_false_iff_not]
            intro e
            subst e
            exact hst rfl)
          generalize xs[k] = x at *
          generalize ys[k] = y at *
          have hb : (x != y) = true := by simpa using hst
          clear hkx hky t1 t2 hst
          go_wp2_with fail
          go_quiet (fail)
          go_wp2_with fail
          go_ret
          exact ⟨by rw [HT.out]; rfl, ((Keep.refl _ w).drewN _).drewN _⟩
      · have HT : Hid (decide (xs = ys) = true) := by
          show _ = _
          rw [decide_eq_true_eq]
          have h1 := HE.out
          rw [List.take_of_length_le (by have := HN.out; omega), List.take_of_length_le (by have := HNY.out; omega)] at h1
          exact h1
        go_wp2_with fail
        go_ret
        exact ⟨by rw [HT.out]; rfl, (Keep.refl _ w).drewN _⟩
  · have hd : ((xs.length : Int) != (ys.length : Int)) = true := by simp; omega
    have HT : Hid (decide (xs = ys) = false) := by
      show _ = _
      rw [decide_eq_false_iff_not]
      intro e
      subst e
      exact hl rfl
    go_enter Tryz.func15, Tryz.ntmps15
    go_wp2_with fail
    go_ret
    exact ⟨by rw [HT.out]; rfl, Keep.refl _ w⟩

/-- k bits. -/
def bitsN (r : Nat) : Nat → Nat
  | 0 => r
  | k + 1 => bit1 (bitsN r k)
theorem bit1_lt {r : Nat} (h : r < 4294967296) : bit1 r < 4294967296 := by
  unfold bit1
  refine Nat.xor_lt_two_pow (n := 32) (by omega) ?_
  unfold poly
  split <;> omega
theorem bitsN_lt {r : Nat} (h : r < 4294967296) : ∀ k, bitsN r k < 4294967296
  | 0 => h
  | k + 1 => bit1_lt (bitsN_lt h k)
theorem bitsN_8 (r b : Nat) : bitsN (r ^^^ b) 8 = byteN r b := by
  unfold byteN
  rw [← nib_eq, ← nib_eq]
  rfl
set_option maxRecDepth 100000 in
set_option maxHeartbeats 2000000 in
theorem refSum_any (s : ByteArray) (hs : s.size ≤ 1000000) (w : World) : Calls Tryz.prog 67 #[.string s] w fun e w' => e = .returned (.int .i64 (sumN s.data.toList : Nat)) ∧ w = w' := by
  go_enter Tryz.func67, Tryz.ntmps67
  go_wp2_with fail
  go_loopg [3, 4] s.size (fun gh v3 v4 wr => ∃ i : Nat, v4 = .int .i64 i ∧ i + gh = s.size ∧ v3 = .int .u32 (regN (s.data.toList.take i) : Nat) ∧ w = wr)
  case atStart => exact ⟨0, rfl, by omega, by simp [regN], rfl⟩
  case round =>
    obtain ⟨i, rfl, hi, rfl, rfl⟩ := hrel
    by_cases hlt : i < s.size
    · obtain ⟨bt, hbt⟩ : ∃ bt : Nat, s[i].toNat = bt := ⟨_, rfl⟩
      have hb : bt < 256 := by rw [← hbt]; exact s[i].toNat_lt
      have hreg := regN_lt (s.data.toList.take i)
      have hsn : Hid (regN (s.data.toList.take (i + 1)) = byteN (regN (s.data.toList.take i)) bt) := Lib.hid (by
        rw [List.take_add_one, List.getElem?_eq_getElem (by simpa using hlt), ← hbt]
        exact regN_snoc _ _)
      obtain ⟨r0, hr0⟩ : ∃ r0, regN (s.data.toList.take i) = r0 := ⟨_, rfl⟩
      rw [hr0] at hreg hsn
      have e0 : (bt : Int) % 4294967296 = (bt : Int) := by omega
      obtain ⟨r1, hr1⟩ : ∃ r1, r0 ^^^ bt = r1 := ⟨_, rfl⟩
      have h1 : r1 < 4294967296 := by rw [← hr1]; exact Nat.xor_lt_two_pow (n := 32) hreg (by omega)
      have e1 : bits .xor .u32 (r0 : Int) (bt : Int) = (r1 : Int) := by rw [u32_xor_nat _ _ hreg (by omega), hr1]
      have HR : Hid (regN (s.data.toList.take (i + 1)) = bitsN r1 8) := Lib.hid (by rw [hsn.out, ← hr1, bitsN_8])
      clear hr1 hsn
      rw [hr0]
      clear hr0
      have HLT := Lib.hid hlt
      go_wp2_with fail
      clear e0 e1 hbt hb
      go_loopg [3, 5] 8 (fun gh2 v3 v5 wr => ∃ k : Nat, v5 = .int .i64 k ∧ k + gh2 = 8 ∧ v3 = .int .u32 (bitsN r1 k : Nat) ∧ w = wr)
      case atStart => exact ⟨0, rfl, by omega, rfl, rfl⟩
      case round =>
        obtain ⟨k, rfl, hk, rfl, rfl⟩ := hrel
        have hbl := bitsN_lt h1 k
        by_cases hlt2 : k < 8
        · have HB : Hid (bitsN r1 (k + 1) = bit1 (bitsN r1 k)) := Lib.hid rfl
          obtain ⟨q, hq⟩ : ∃ q, bitsN r1 k = q := ⟨_, rfl⟩
          rw [hq] at hbl HB ⊢
          clear hq
          have hkz : (k : Int) < 8 := by omega
          have hp : q / 2 < 4294967296 := by omega
          by_cases hodd : q % 2 = 1
          · have em : (q : Int) % 2 = 1 := by omega
            have ex : bits .xor .u32 ((q : Int) / 2) 2197175160 = ((bit1 q : Nat) : Int) := by
              have := u32_xor_nat (q / 2) 2197175160 hp (by decide)
              unfold bit1 poly
              rw [if_pos hodd]
              rw [show ((q / 2 : Nat) : Int) = (q : Int) / 2 by omega] at this
              exact this
            rw [← HB.out] at ex
            go_wp2_with fail
            go_roundg (gk - 1)
            case rel => exact ⟨k + 1, by go_num, by omega, rfl, rfl⟩
            case measure => omega
          · have em : (q : Int) % 2 = 0 := by omega
            have ex : (q : Int) / 2 = ((bit1 q : Nat) : Int) := by
              unfold bit1
              rw [if_neg hodd, Nat.xor_zero]
              omega
            rw [← HB.out] at ex
            have HEX := Lib.hid ex
            clear ex
            go_wp2_with fail
            go_roundg (gk - 1)
            case rel => exact ⟨k + 1, by go_num, by omega, by rw [← HEX.out], rfl⟩
            case measure => omega
        · obtain rfl : k = 8 := by omega
          go_wp2_with fail
          go_roundg (s.size - (i + 1))
          case rel => exact ⟨i + 1, by go_num, by have := HLT.out; omega, by rw [HR.out], rfl⟩
          case measure => omega
    · obtain rfl : i = s.size := by omega
      have e : s.data.toList.take s.size = s.data.toList := List.take_of_length_le (by show s.data.toList.length ≤ s.data.size; rw [Array.length_toList]; exact Nat.le_refl _)
      rw [e]
      have hreg := regN_lt s.data.toList
      have HS : Hid (4294967295 ^^^ regN s.data.toList = sumN s.data.toList) := Lib.hid rfl
      have hl := sumN_lt s.data.toList
      obtain ⟨z, hz⟩ : ∃ z, sumN s.data.toList = z := ⟨_, rfl⟩
      rw [hz] at HS hl
      have HZ := Lib.hid hz
      clear hz
      generalize regN s.data.toList = r at *
      have e1 : bits .xor .u32 IntKind.u32.max (r : Int) = (z : Int) := by
        show bits .xor .u32 4294967295 (r : Int) = (z : Int)
        have := u32_xor_nat 4294967295 r (by decide) hreg
        rw [HS.out] at this
        exact this
      have ew : wrap64 (z : Int) = (z : Int) := by unfold wrap64; omega
      go_wp2_with fail
      go_ret
      exact ⟨by rw [HZ.out]; rfl, rfl⟩
set_option maxRecDepth 100000 in
theorem refPoint_any (s : ByteArray) (hs : s.size ≤ 1000000) (w : World) : Calls Tryz.prog 43 #[.string s] w fun e w' => e = .returned (.int .i64 (pt s : Nat)) ∧ w = w' := by
  have HS := Lib.hid (refSum_any s hs w)
  go_enter Tryz.func43, Tryz.ntmps43
  go_wp2_with fail
  with_reducible refine HS.out.mono ?_
  rintro e w' ⟨rfl, rfl⟩
  go_wp2_with fail
  go_ret
  exact ⟨rfl, rfl⟩
end Go.Proofs.YtiacdkggbnoigaaGreatDoor

/-
  DERIVED: THE SHELF's CONTRACTS AT THIS DUMP, IN PLAIN WORDS (tools/lay-plain.mjs out of 'YtiacdkggbnoigaaGreatDoorT0.lean', which tools/lay-shelf.mjs wrote): THE SAME DECLARATIONS UNDER THE SAME NAMES: 'import', 'namespace', 'open', 'def', 'theorem' AND NOTHING ELSE: no command of the shelf's: FOR A HAND-IN. Each laying: the table of numbers ('.._ren') and one theorem, a field a fact of the dump's own or the kernel's comparison; each contract: ONE APPLICATION.
-/
namespace Go.Proofs
open Go.Shelf
def Tryz.lays171_ren : Go.Shelf.Ren := ⟨fun | 171 => 35 | 243 => 62 | 246 => 77 | 283 => 90 | 284 => 91 | 285 => 92 | 286 => 93 | 129 => 89 | 317 => 109 | 318 => 110 | 319 => 111 | 320 => 112 | 337 => 118 | 338 => 119 | n => n, fun | 3 => 3 | 9 => 9 | 2 => 2 | 4 => 4 | 171 => 122 | 0 => 0 | 53 => 121 | 37 => 96 | 5 => 5 | 173 => 124 | 212 => 141 | 51 => 107 | 20 => 20 | 213 => 142 | 46 => 90 | 232 => 149 | 233 => 150 | n => n, fun | 17 => 1 | 18 => 2 | 19 => 3 | n => n⟩
theorem Tryz.lays171 : Go.Proofs.Lays.n171 Tryz.prog Tryz.lays171_ren := {
  mixed := by kernel_rfl
  f129 := Tryz.func89.trans (congrArg some (by kernel_rfl))
  f171 := Tryz.func35.trans (congrArg some (by kernel_rfl))
  f243 := Tryz.func62.trans (congrArg some (by kernel_rfl))
  f246 := Tryz.func77.trans (congrArg some (by kernel_rfl))
  f283 := Tryz.func90.trans (congrArg some (by kernel_rfl))
  f284 := Tryz.func91.trans (congrArg some (by kernel_rfl))
  f285 := Tryz.func92.trans (congrArg some (by kernel_rfl))
  f286 := Tryz.func93.trans (congrArg some (by kernel_rfl))
  f317 := Tryz.func109.trans (congrArg some (by kernel_rfl))
  f318 := Tryz.func110.trans (congrArg some (by kernel_rfl))
  f319 := Tryz.func111.trans (congrArg some (by kernel_rfl))
  f320 := Tryz.func112.trans (congrArg some (by kernel_rfl))
  f337 := Tryz.func118.trans (congrArg some (by kernel_rfl))
  f338 := Tryz.func119.trans (congrArg some (by kernel_rfl))
  t0 := Tryz.underlying0
  a0 := Tryz.isAgg0
  z0 := Tryz.sizeOf0
  v0 := Tryz.zeroValue0
  t2 := Tryz.underlying2
  a2 := Tryz.isAgg2
  z2 := Tryz.sizeOf2
  v2 := Tryz.zeroValue2
  t3 := Tryz.underlying3
  a3 := Tryz.isAgg3
  z3 := Tryz.sizeOf3
  v3 := Tryz.zeroValue3
  t4 := Tryz.underlying4
  a4 := Tryz.isAgg4
  z4 := Tryz.sizeOf4
  v4 := Tryz.zeroValue4
  t5 := Tryz.underlying5
  a5 := Tryz.isAgg5
  z5 := Tryz.sizeOf5
  v5 := Tryz.zeroValue5
  t9 := Tryz.underlying9
  a9 := Tryz.isAgg9
  z9 := Tryz.sizeOf9
  v9 := Tryz.zeroValue9
  t20 := Tryz.underlying20
  a20 := Tryz.isAgg20
  z20 := Tryz.sizeOf20
  v20 := Tryz.zeroValue20
  t37 := Tryz.underlying96
  a37 := Tryz.isAgg96
  z37 := Tryz.sizeOf96
  v37 := Tryz.zeroValue96
  t46 := Tryz.underlying90
  a46 := Tryz.isAgg90
  z46 := Tryz.sizeOf90
  v46 := Tryz.zeroValue90
  t51 := Tryz.underlying107
  a51 := Tryz.isAgg107
  z51 := Tryz.sizeOf107
  v51 := Tryz.zeroValue107
  t53 := Tryz.underlying121
  a53 := Tryz.isAgg121
  z53 := Tryz.sizeOf121
  v53 := Tryz.zeroValue121
  t171 := Tryz.underlying122
  a171 := Tryz.isAgg122
  z171 := Tryz.sizeOf122
  v171 := Tryz.zeroValue122
  t173 := Tryz.underlying124
  a173 := Tryz.isAgg124
  z173 := Tryz.sizeOf124
  v173 := Tryz.zeroValue124
  t212 := Tryz.underlying141
  a212 := Tryz.isAgg141
  z212 := Tryz.sizeOf141
  v212 := Tryz.zeroValue141
  t213 := Tryz.underlying142
  a213 := Tryz.isAgg142
  z213 := Tryz.sizeOf142
  t232 := Tryz.underlying149
  a232 := Tryz.isAgg149
  z232 := Tryz.sizeOf149
  v232 := Tryz.zeroValue149
  t233 := Tryz.underlying150
  a233 := Tryz.isAgg150
  z233 := Tryz.sizeOf150
  v233 := Tryz.zeroValue150
  g17 := by kernel_rfl
  g18 := by kernel_rfl
  g19 := by kernel_rfl }
end Go.Proofs

/-
  Itoa, text; the points of members and of slots.
-/
namespace Go.Proofs.YtiacdkggbnoigaaGreatDoor
open Go.RowKit Go.Shelf

/-- A numeral. -/
def dig (n : Nat) : ByteArray := ⟨(Lib.decDigits n).toArray⟩
theorem itoa_small (n : Nat) (h : n < 100) (w : World) : Calls Tryz.prog 35 #[.int .i64 n] w fun e w' => e = .returned (.string (dig n)) ∧ w = w' :=
  (Any.strconv_Itoa_small Tryz.lays171 n h w).mono fun _ _ ⟨h1, h2⟩ => ⟨h1, h2.symm⟩
theorem dig_size {n : Nat} (h : n < 100) : (dig n).size ≤ 2 := by
  show (Lib.decDigits n).toArray.size ≤ 2
  rw [List.size_toArray, Lib.decDigits]
  split
  · simp
  · rw [Lib.decDigits, dif_pos (by omega)]
    simp
/-- A word and numbers. -/
def addT (s : ByteArray) (n : Nat) : ByteArray := s ++ (⟨#[32]⟩ ++ dig n)
def txt (s : ByteArray) (l : List Nat) : ByteArray := l.foldl addT s
theorem txt_snoc (s : ByteArray) (l : List Nat) (n : Nat) : txt s (l ++ [n]) = addT (txt s l) n := by unfold txt; rw [List.foldl_append]; rfl

set_option maxRecDepth 100000 in
set_option maxHeartbeats 1000000 in
theorem text_any (word : ByteArray) (v : Value) (l : List Nat) (w : World) (hw : word.size ≤ 10) (hl : l.length ≤ 2) (hb : ∀ n ∈ l, n < 100) (h : Its w v (l.map (fun n : Nat => (n : Int)))) :
    Calls Tryz.prog 57 #[.string word, v] w fun e w' => e = .returned (.string (txt word l)) ∧ w = w' := by
  obtain ⟨hn, -, a, c, b, off, rfl, hc, ha, hcell⟩ := h
  have HC := Lib.hid hcell
  have HA := Lib.hid ha
  have HB := Lib.hid hb
  clear hcell ha hb
  rw [List.length_map] at hn hc HA ⊢
  obtain ⟨n, hn'⟩ : ∃ n, l.length = n := ⟨_, rfl⟩
  have HL := Lib.hid hn'
  rw [hn'] at hn hc hl ⊢
  clear hn'
  go_enter Tryz.func57, Tryz.ntmps57
  go_wp2_with fail
  go_loopg [0, 9] n (fun gh v0 v wr => ∃ (k : Nat) (s : ByteArray), gh + k = n ∧ v = .int .i64 k ∧ v0 = .string s ∧ s = txt word (l.take k) ∧ s.size ≤ 10 + 3 * k ∧ w = wr)
  case atStart => exact ⟨0, word, by omega, rfl, rfl, rfl, by omega, rfl⟩
  case round =>
    obtain ⟨k, s, hk, rfl, rfl, hs, hsz, rfl⟩ := hrel
    have HS := Lib.hid hs
    clear hs
    by_cases hlt : k < n
    · obtain ⟨x, hx⟩ : ∃ x, l[k]? = some x := ⟨_, List.getElem?_eq_getElem (by have := HL.out; omega)⟩
      obtain rfl := HA.out (by have := HL.out; omega)
      have c1 := HC.out k (x : Int) (by rw [List.getElem?_map, hx]; rfl)
      have hx100 := HB.out x (List.mem_of_getElem? hx)
      have hdz := dig_size hx100
      have HX : Hid (txt word (l.take (k + 1)) = s ++ (⟨#[32]⟩ ++ dig x)) := Lib.hid (by rw [List.take_add_one, hx, Option.toList_some, txt_snoc, ← HS.out]; rfl)
      have hkz : (k : Int) < (n : Int) := by omega
      have hk0 : (0 : Int) ≤ (k : Int) := by omega
      clear hx
      go_wp2_with fail
      with_reducible refine (itoa_small x hx100 _).mono ?_
      rintro e w' ⟨rfl, rfl⟩
      generalize dig x = d at *
      have hsz2 : (s ++ (⟨#[32]⟩ ++ d)).size ≤ 10 + 3 * (k + 1) := by
        rw [ByteArray.size_append, ByteArray.size_append]
        have : (⟨#[32]⟩ : ByteArray).size = 1 := rfl
        omega
      go_wp2_with fail
      go_roundg (gk - 1)
      case rel => exact ⟨k + 1, _, by omega, by go_num, rfl, HX.out.symm, hsz2, rfl⟩
      case measure => omega
    · have HE : Hid (txt word l = s) := Lib.hid (by rw [HS.out, List.take_of_length_le (by have := HL.out; omega)])
      go_wp2_with fail
      go_ret
      exact ⟨by rw [HE.out]; rfl, rfl⟩

/-- The point of a member. -/
def nodeT (n : Int) (i : Nat) : ByteArray := txt ⟨#[110, 111, 100, 101]⟩ [n.toNat, i]
def slotT (s : Nat) : ByteArray := txt ⟨#[115, 108, 111, 116]⟩ [s]
def PN (n : Int) (i : Nat) : Int := (pt (nodeT n i) : Nat)
def QS (s : Nat) : Int := (pt (slotT s) : Nat)
theorem nodeT_size {n : Int} {i : Nat} (hn : n.toNat < 100) (hi : i < 100) : (nodeT n i).size ≤ 1000000 := by
  have h1 := dig_size hn
  have h2 := dig_size hi
  unfold nodeT txt addT
  simp only [List.foldl_cons, List.foldl_nil, ByteArray.size_append]
  have e1 : (⟨#[110, 111, 100, 101]⟩ : ByteArray).size = 4 := rfl
  have e2 : (⟨#[32]⟩ : ByteArray).size = 1 := rfl
  omega
theorem slotT_size {s : Nat} (hs : s < 100) : (slotT s).size ≤ 1000000 := by
  have h1 := dig_size hs
  unfold slotT txt addT
  simp only [List.foldl_cons, List.foldl_nil, ByteArray.size_append]
  have e1 : (⟨#[115, 108, 111, 116]⟩ : ByteArray).size = 4 := rfl
  have e2 : (⟨#[32]⟩ : ByteArray).size = 1 := rfl
  omega
end Go.Proofs.YtiacdkggbnoigaaGreatDoor

/-
  The reference's Digits.
-/
namespace Go.Proofs.YtiacdkggbnoigaaGreatDoor
open Go.RowKit Go.Shelf

/-- While the digits of N are written: n is left, s is there. -/
def digSt (N n : Nat) (s : List UInt8) : Prop := (s = [] ∧ n = N) ∨ (s ≠ [] ∧ n ≠ 0 ∧ Lib.decDigits n ++ s = Lib.decDigits N) ∨ (s ≠ [] ∧ n = 0 ∧ s = Lib.decDigits N)
theorem dec_ne (n : Nat) : Lib.decDigits n ≠ [] := by
  rw [Lib.decDigits]
  split <;> simp
theorem digSt_step {N n : Nat} {s : List UInt8} (h : digSt N n s) (hgo : s = [] ∨ 0 < n) : digSt N (n / 10) (UInt8.ofNat (48 + n % 10) :: s) := by
  have key : Lib.decDigits n ++ s = Lib.decDigits N → digSt N (n / 10) (UInt8.ofNat (48 + n % 10) :: s) := fun e => by
    by_cases h10 : n < 10
    · refine .inr (.inr ⟨by simp, by omega, ?_⟩)
      rw [← e, Lib.decDigits, dif_pos h10, Nat.mod_eq_of_lt h10]
      rfl
    · refine .inr (.inl ⟨by simp, by omega, ?_⟩)
      rw [← e]
      conv => rhs; rw [Lib.decDigits, dif_neg h10]
      simp
  rcases h with ⟨rfl, rfl⟩ | ⟨h1, h2, h3⟩ | ⟨h1, h2, h3⟩
  · exact key (by simp)
  · exact key h3
  · rcases hgo with hgo | hgo
    · exact absurd hgo h1
    · omega
theorem digSt_end {N n : Nat} {s : List UInt8} (h : digSt N n s) (h1 : s ≠ []) (h0 : n = 0) : s = Lib.decDigits N := by
  rcases h with ⟨rfl, rfl⟩ | ⟨_, h2, _⟩ | ⟨_, _, h3⟩
  · exact absurd rfl h1
  · exact absurd h0 h2
  · exact h3
theorem dec_len (n : Nat) : (Lib.decDigits n).length ≤ n + 1 := by
  induction n using Nat.strongRecOn with
  | _ n ih =>
    rw [Lib.decDigits]
    split
    · simp
    · have := ih (n / 10) (by omega)
      simp only [List.length_append, List.length_cons, List.length_nil]
      omega
theorem digSt_len {N n : Nat} {s : List UInt8} (h : digSt N n s) : s.length ≤ N + 1 := by
  have := dec_len N
  rcases h with ⟨rfl, _⟩ | ⟨_, _, h3⟩ | ⟨_, _, h3⟩
  · simp
  · have h4 := congrArg List.length h3
    rw [List.length_append] at h4
    omega
  · rw [h3]; exact this
def digM (n : Nat) (s : ByteArray) : Nat := n + (if s.size = 0 then 1 else 0)
theorem cells_new0 (W : World) (x : Value) (t : TypeId) (u : Value) (h : x = u) : (W.alloc (.cells #[x] t)).cell? ⟨W.heap.size, 0, none⟩ = some u := by
  subst h
  unfold World.cell?
  rw [World.alloc_heap_new]
  simp
theorem byte_str (W : World) (d : Nat) (hd : d < 10) : (convert 96 9 (.slice (some ⟨W.heap.size, 0, none⟩) 1 1)).run Tryz.prog (W.alloc (.cells #[.int .u8 (48 + (d : Int))] 5)) = .ok (.string ⟨#[UInt8.ofNat (48 + d)]⟩) (W.alloc (.cells #[.int .u8 (48 + (d : Int))] 5)) := by
  have h := run_convert_bytes_back (P := Tryz.prog) (W.alloc (.cells #[.int .u8 (48 + (d : Int))] 5)) 96 9 5 ⟨W.heap.size, 0, none⟩ 1 [UInt8.ofNat (48 + d)] Tryz.underlying96 Tryz.underlying5 Tryz.underlying9 (fun j hj => by
    obtain rfl : j = 0 := by simp at hj; omega
    rw [Addr.add_lit, Nat.zero_add]
    refine cells_new0 W _ _ _ ?_
    simp only [List.getElem_cons_zero, UInt8.toNat_ofNat']
    rw [Nat.mod_eq_of_lt (by omega)]
    simp)
  exact h
set_option maxRecDepth 100000 in
set_option maxHeartbeats 2000000 in
theorem digits_any (N : Nat) (hN : N ≤ 1000000000000000000) (w : World) : Calls Tryz.prog 44 #[.int .i64 N] w fun e w' => e = .returned (.string (dig N)) ∧ Keep (fun _ => False) w w' := by
  go_enter Tryz.func44, Tryz.ntmps44
  go_wp2_with fail
  go_loopg [0, 3] (N + 1) (fun gh v0 v3 wr => ∃ (n : Nat) (s : ByteArray), v0 = .int .i64 n ∧ v3 = .string s ∧ digSt N n s.data.toList ∧ n ≤ N ∧ gh = digM n s ∧ Keep (fun _ => False) w wr)
  case atStart => exact ⟨N, ⟨#[]⟩, rfl, rfl, .inl ⟨rfl, rfl⟩, Nat.le_refl _, rfl, Keep.refl _ _⟩
  case round =>
    obtain ⟨n, s, rfl, rfl, hst, hn, hgk, hkeep⟩ := hrel
    have HST := Lib.hid hst
    have HK := Lib.hid hkeep
    clear hst hkeep
    have hb0 : (0 : Int) ≤ (n : Int) := by omega
    have hsz : s.size ≤ N + 1 := by
      have := digSt_len HST.out
      rwa [Array.length_toList, ByteArray.size_data] at this
    by_cases hgo : s.data.toList = [] ∨ 0 < n
    · have HN := Lib.hid (digSt_step HST.out hgo)
      obtain ⟨d, hd⟩ : ∃ d : Nat, n % 10 = d := ⟨_, rfl⟩
      obtain ⟨q, hq⟩ : ∃ q : Nat, n / 10 = q := ⟨_, rfl⟩
      have hm0 : (n : Int) % 10 = (d : Int) := by omega
      have hm1 : (n : Int) / 10 = (q : Int) := by omega
      have hd9 : d < 10 := by omega
      rw [hd, hq] at HN
      have HQ := Lib.hid hq
      clear hd hq
      have hbs := byte_str wr d hd9
      generalize UInt8.ofNat (48 + d) = c at *
      obtain ⟨t, ht⟩ : ∃ t : ByteArray, (⟨#[c]⟩ : ByteArray) ++ s = t := ⟨_, rfl⟩
      have htl : t.data.toList = c :: s.data.toList := by rw [← ht]; simp
      rw [← htl] at HN
      have hts : t.size = s.size + 1 := by rw [← ht, ByteArray.size_append]; show 1 + s.size = _; omega
      have HTS := Lib.hid hts
      by_cases hs : s.data.toList = []
      · have hb : s.toList.isEmpty = true := by rw [Lib.toList_data, hs]; rfl
        have hb2 : (s.toList == []) = true := by rw [Lib.toList_data, hs]; rfl
        go_wp2_with fail
        go_roundg (digM q t)
        case rel => exact ⟨q, t, by first | rfl | go_num, by first | rfl | simp, HN.out, by have := HQ.out; omega, rfl, HK.out.alloc _⟩
        case measure =>
          rw [hgk]
          have h1 := HTS.out
          have h2 := HQ.out
          unfold digM
          rw [if_neg (by omega)]
          by_cases hz : s.size = 0
          · rw [if_pos hz]; omega
          · rw [if_neg hz]
            have : 0 < n := by
              rcases hgo with h | h
              · exact absurd (by rw [← ByteArray.size_data, ← Array.length_toList, h]; rfl) hz
              · exact h
            omega
      · have hn0 : 0 < n := by rcases hgo with h | h; exact absurd h hs; omega
        have hb : s.toList.isEmpty = false := by rw [Lib.toList_data]; simpa using hs
        go_wp2_with fail
        go_roundg (digM q t)
        case rel => exact ⟨q, t, by first | rfl | go_num, by first | rfl | simp, HN.out, by have := HQ.out; omega, rfl, HK.out.alloc _⟩
        case measure =>
          rw [hgk]
          have h1 := HTS.out
          have h2 := HQ.out
          unfold digM
          rw [if_neg (by omega)]
          by_cases hz : s.size = 0
          · rw [if_pos hz]; omega
          · rw [if_neg hz]
            have : 0 < n := by
              rcases hgo with h | h
              · exact absurd (by rw [← ByteArray.size_data, ← Array.length_toList, h]; rfl) hz
              · exact h
            omega
    · have hs : s.data.toList ≠ [] := fun e => hgo (.inl e)
      have hn0 : ¬ 0 < n := fun e => hgo (.inr e)
      have hb : s.toList.isEmpty = false := by rw [Lib.toList_data]; simpa using hs
      have HE : Hid (s = dig N) := Lib.hid (by
        have := digSt_end HST.out hs (by omega)
        unfold dig
        rw [← this])
      go_wp2_with fail
      go_ret
      exact ⟨by rw [← HE.out] <;> rfl, HK.out⟩
end Go.Proofs.YtiacdkggbnoigaaGreatDoor

/-
  Rows of elements of k cells, written out.
-/
namespace Go.Proofs.YtiacdkggbnoigaaGreatDoor
section
variable {α : Type} {enc : α → List Value} {k : Nat}
theorem flat_len (hk : ∀ x, (enc x).length = k) : ∀ l : List α, (l.flatMap enc).length = l.length * k
  | [] => by simp
  | x :: l => by rw [List.flatMap_cons, List.length_append, hk, flat_len hk l, List.length_cons, Nat.add_mul]; omega
theorem flat_get (hk : ∀ x, (enc x).length = k) : ∀ (l : List α) (q : Nat) (x : α) (r : Nat), l[q]? = some x → r < k → (l.flatMap enc)[q * k + r]? = (enc x)[r]?
  | [], _, _, _, h, _ => by simp at h
  | y :: l, 0, x, r, h, hr => by
    simp only [List.getElem?_cons_zero, Option.some.injEq] at h
    subst h
    rw [List.flatMap_cons, List.getElem?_append_left (by rw [hk]; omega), Nat.zero_mul, Nat.zero_add]
  | y :: l, q + 1, x, r, h, hr => by
    simp only [List.getElem?_cons_succ] at h
    rw [List.flatMap_cons, List.getElem?_append_right (by rw [hk, Nat.add_mul]; omega), hk, ← flat_get hk l q x r h hr]
    congr 1
    rw [Nat.add_mul]; omega
theorem flat_take (hk : ∀ x, (enc x).length = k) : ∀ (l : List α) (q : Nat), (l.flatMap enc).take (q * k) = (l.take q).flatMap enc
  | [], q => by simp
  | y :: l, 0 => by simp
  | y :: l, q + 1 => by
    rw [List.flatMap_cons, List.take_succ_cons, List.flatMap_cons, ← flat_take hk l q, List.take_append, hk, List.take_of_length_le (by rw [hk, Nat.add_mul]; omega), Nat.add_mul, Nat.one_mul, Nat.add_sub_cancel]
theorem flat_drop (hk : ∀ x, (enc x).length = k) : ∀ (l : List α) (q : Nat), (l.flatMap enc).drop (q * k) = (l.drop q).flatMap enc
  | [], q => by simp
  | y :: l, 0 => by simp
  | y :: l, q + 1 => by
    rw [List.flatMap_cons, List.drop_succ_cons, ← flat_drop hk l q, List.drop_append, hk, List.drop_of_length_le (by rw [hk, Nat.add_mul]; omega), Nat.add_mul, Nat.one_mul, Nat.add_sub_cancel, List.nil_append]
theorem flat_set (hk : ∀ x, (enc x).length = k) {r : Nat} {u : Value} (hr : r < k) : ∀ (l : List α) (q : Nat) (x y : α), l[q]? = some x → (enc x).set r u = enc y → (l.flatMap enc).set (q * k + r) u = (l.set q y).flatMap enc
  | [], _, _, _, h, _ => by simp at h
  | z :: l, 0, x, y, h, he => by
    simp only [List.getElem?_cons_zero, Option.some.injEq] at h
    subst h
    rw [List.flatMap_cons, List.set_cons_zero, List.flatMap_cons, ← he, Nat.zero_mul, Nat.zero_add, List.set_append_left _ _ (by rw [hk]; omega)]
  | z :: l, q + 1, x, y, h, he => by
    simp only [List.getElem?_cons_succ] at h
    rw [List.flatMap_cons, List.set_cons_succ, List.flatMap_cons, ← flat_set hk hr l q x y h he, List.set_append_right _ _ (by rw [hk, Nat.add_mul]; omega), hk]
    congr 2
    rw [Nat.add_mul]; omega
end
/-- An element is put into its place: room behind, the tail moved, the element stored. -/
theorem ins_moved {α : Type} (S : List α) (x : α) {j : Nat} (hj : j ≤ S.length) : (((S ++ [x]).take (j + 1) ++ S.drop j).set j x) = S.take j ++ x :: S.drop j := by
  have hl : ((S ++ [x]).take (j + 1)).length = j + 1 := by rw [List.length_take, List.length_append]; simp; omega
  rw [List.set_append_left _ _ (by rw [hl]; omega)]
  have e : ((S ++ [x]).take (j + 1)).set j x = S.take j ++ [x] := by
    rw [List.take_add_one, List.take_append_of_le_length hj]
    obtain ⟨y, hy⟩ : ∃ y, (S ++ [x])[j]? = some y := ⟨_, List.getElem?_eq_getElem (by simp; omega)⟩
    rw [hy, List.set_append_right _ _ (by simp; omega)]
    simp [Nat.min_eq_left hj]
  rw [e]
  simp
theorem moved_eq {α : Type} (S : List α) (x : α) {j : Nat} (hj : j ≤ S.length) : ((S ++ [x]).drop j).take (S.length - j) = S.drop j := by
  rw [List.drop_append_of_le_length hj, List.take_append_of_le_length (by simp), List.take_of_length_le (by simp)]
end Go.Proofs.YtiacdkggbnoigaaGreatDoor

/-
  A walk that parts: where two operations may come, both orders are walked.
-/
namespace Go.Proofs.YtiacdkggbnoigaaGreatDoor
open Go Go.RowKit

/-- done: all are listed; read: the operation only reads; one: it is the only one that may come; two: either of the two may come. -/
inductive WT where
  | done : WT
  | read (i : Nat) (t : WT) : WT
  | one (i : Nat) (t : WT) : WT
  | two (i : Nat) (t : WT) (j : Nat) (u : WT) : WT
def WT.len : WT → Nat
  | .done => 0
  | .read _ t => t.len + 1
  | .one _ t => t.len + 1
  | .two _ t _ _ => t.len + 1

section
variable {P : Program} {md : Region.Mode} {ops : Array Oper}
def walkT (P : Program) (ops : Array Oper) (Q : Act → World → Prop) (C : World → Prop) : WT → Act → World → Prop
  | .done, a, w => C w ∧ Q a w
  | .read i t, a, w => ∃ o v, ops[i]? = some o ∧ YC P ops C o v a ∧ walkT P ops Q C t (a.put o.dst v) w
  | .one i t, a, w => C w ∧ ∃ o, ops[i]? = some o ∧ if Region.wanted o (yielded ops a.tmps) then o.wp P a w (walkT P ops Q C t) noQ else walkT P ops Q C t (a.put o.dst undef) w
  | .two i t j u, a, w => C w ∧ (∃ o, ops[i]? = some o ∧ if Region.wanted o (yielded ops a.tmps) then o.wp P a w (walkT P ops Q C t) noQ else walkT P ops Q C t (a.put o.dst undef) w) ∧
      ∃ o, ops[j]? = some o ∧ if Region.wanted o (yielded ops a.tmps) then o.wp P a w (walkT P ops Q C u) noQ else walkT P ops Q C u (a.put o.dst undef) w

variable {C : World → Prop}
theorem walkT_read {Q : Act → World → Prop} {i : Nat} {t : WT} {a : Act} {w : World} {o : Oper} (ho : ops[i]? = some o)
    (h : ∀ K : Act → Prop, (∀ a, walkT P ops Q C t a w → K a) → if Region.wanted o (yielded ops a.tmps) then ∃ v, (∀ w, C w → o.quietAt P a (fun w'' => w'' = w) w v) ∧ K (a.put o.dst v) else K (a.put o.dst undef)) : walkT P ops Q C (.read i t) a w := by
  have h1 := h _ (fun _ h => h)
  by_cases hw : Region.wanted o (yielded ops a.tmps) = true
  · rw [if_pos hw] at h1
    obtain ⟨v, h2, h3⟩ := h1
    exact ⟨o, v, ho, .inl ⟨hw, h2⟩, h3⟩
  · rw [if_neg hw] at h1
    exact ⟨o, undef, ho, .inr ⟨by simpa using hw, rfl⟩, h1⟩
theorem walkT_do {Q : Act → World → Prop} {i : Nat} {t : WT} {a : Act} {w : World} {o : Oper} (ho : ops[i]? = some o) (hC : C w)
    (h : ∀ K : Act → World → Prop, (∀ a w, walkT P ops Q C t a w → K a w) → if Region.wanted o (yielded ops a.tmps) then o.wp P a w K noQ else K (a.put o.dst undef) w) : walkT P ops Q C (.one i t) a w :=
  ⟨hC, o, ho, h _ (fun _ _ h => h)⟩
theorem walkT_two {Q : Act → World → Prop} {i j : Nat} {t u : WT} {a : Act} {w : World} {o p : Oper} (ho : ops[i]? = some o) (hp : ops[j]? = some p) (hC : C w)
    (h : ∀ K : Act → World → Prop, (∀ a w, walkT P ops Q C t a w → K a w) → if Region.wanted o (yielded ops a.tmps) then o.wp P a w K noQ else K (a.put o.dst undef) w)
    (h' : ∀ K : Act → World → Prop, (∀ a w, walkT P ops Q C u a w → K a w) → if Region.wanted p (yielded ops a.tmps) then p.wp P a w K noQ else K (a.put p.dst undef) w) : walkT P ops Q C (.two i t j u) a w :=
  ⟨hC, ⟨o, ho, h _ (fun _ _ h => h)⟩, p, hp, h' _ (fun _ _ h => h)⟩

def walkTB (md : Region.Mode) (ops : Array Oper) : WT → Array Bool → Bool
  | .done, listed => (Region.ready md ops listed).isEmpty
  | .read k t, listed => (Region.ready md ops listed).contains k && Region.free md ops listed k && walkTB md ops t (listed.setIfInBounds k true)
  | .one k t, listed => decide (Region.ready md ops listed = [k]) && walkTB md ops t (listed.setIfInBounds k true)
  | .two i t j u, listed => decide (Region.ready md ops listed = [i, j]) && (decide (t.len = u.len) && (walkTB md ops t (listed.setIfInBounds i true) && walkTB md ops u (listed.setIfInBounds j true)))

theorem wpC_walkT {Q : Act → World → Prop} (hsel : Region.noSelect ops = true) : ∀ (t : WT) (listed : Array Bool) (a : Act) (w : World), walkTB md ops t listed = true → walkT P ops Q C t a w → wpC P md ops C Q t.len listed a w
  | .done, listed, a, w, hB, h => ⟨h.1, by simpa [walkTB] using hB, h.2⟩
  | .read k t, listed, a, w, hB, h => by
    simp only [walkTB, Bool.and_eq_true] at hB
    obtain ⟨⟨hr, hf⟩, hB'⟩ := hB
    obtain ⟨o, v, ho, hy, h⟩ := h
    exact wpC_first ho (Region.noSelect_spec hsel) _ listed a w (Region.free_spec ho hf) (by simpa using hr) hy (wpC_walkT hsel t _ _ w hB' h)
  | .one k t, listed, a, w, hB, h => by
    simp only [walkTB, Bool.and_eq_true, decide_eq_true_eq] at hB
    obtain ⟨hC, o, ho, h⟩ := h
    refine ⟨hC, fun h0 => (by rw [hB.1] at h0; cases h0), fun i hi => ?_⟩
    rw [hB.1, List.mem_singleton] at hi
    subst hi
    unfold wpOp
    simp only [ho]
    split
    · rename_i hw
      rw [if_pos hw] at h
      exact .inl (Oper.wp_mono (fun a' w' h2 => wpC_walkT hsel t _ a' w' hB.2 h2) h)
    · rename_i hw
      rw [if_neg hw] at h
      exact wpC_walkT hsel t _ _ w hB.2 h
  | .two k t j u, listed, a, w, hB, h => by
    simp only [walkTB, Bool.and_eq_true, decide_eq_true_eq] at hB
    obtain ⟨hr, hlen, hB1, hB2⟩ := hB
    obtain ⟨hC, ⟨o, ho, h⟩, p, hp, h'⟩ := h
    refine ⟨hC, fun h0 => (by rw [hr] at h0; cases h0), fun i hi => ?_⟩
    rw [hr] at hi
    rcases List.mem_cons.1 hi with rfl | hi
    · unfold wpOp
      simp only [ho]
      split
      · rename_i hw
        rw [if_pos hw] at h
        exact .inl (Oper.wp_mono (fun a' w' h2 => wpC_walkT hsel t _ a' w' hB1 h2) h)
      · rename_i hw
        rw [if_neg hw] at h
        exact wpC_walkT hsel t _ _ w hB1 h
    · rw [List.mem_singleton] at hi
      subst hi
      unfold wpOp
      simp only [hp]
      split
      · rename_i hw
        rw [if_pos hw] at h'
        exact .inl (Oper.wp_mono (fun a' w' h2 => by rw [hlen]; exact wpC_walkT hsel u _ a' w' hB2 h2) h')
      · rename_i hw
        rw [if_neg hw] at h'
        show wpC P md ops C Q t.len _ _ _
        rw [hlen]
        exact wpC_walkT hsel u _ _ w hB2 h'

def walkTOk (ops : Array Oper) (t : WT) : Bool := Region.noSelect ops && decide (t.len = ops.size) && walkTB .any ops t (Array.replicate ops.size false)
theorem wp_region_walkT {id : Nat} {Q : Exit → Act → World → Prop} {a : Act} {w : World} {l : List Oper} (t : WT) (C : World → Prop) (hm : P.follows .mixedOrders = true) (hB : walkTOk l.toArray t = true)
    (h : walkT P l.toArray (fun a w => Q .normal a w) C t a w.drew) : (Code.region id l.toArray true).wp P Q a w := by
  simp only [walkTOk, Bool.and_eq_true, decide_eq_true_eq] at hB
  obtain ⟨⟨hsel, hlen⟩, hB⟩ := hB
  refine wp_region_any hm (wpAny_of_wpC (C := C) (Q := fun a w => Q .normal a w) (fun _ _ h => h) _ _ _ _ ?_)
  rw [← hlen]
  exact wpC_walkT hsel t _ a _ (by rw [hlen]; exact hB) h
/-- The same; the ways meet in J. -/
theorem wp_region_walkT_join {id : Nat} {Q : Exit → Act → World → Prop} {a : Act} {w : World} {l : List Oper} (t : WT) (C : World → Prop) (J : Act → World → Prop) (hm : P.follows .mixedOrders = true) (hB : walkTOk l.toArray t = true)
    (hJ : ∀ a w, J a w → Q .normal a w) (h : walkT P l.toArray J C t a w.drew) : (Code.region id l.toArray true).wp P Q a w := by
  simp only [walkTOk, Bool.and_eq_true, decide_eq_true_eq] at hB
  obtain ⟨⟨hsel, hlen⟩, hB⟩ := hB
  refine wp_region_any hm (wpAny_of_wpC (C := C) (Q := J) hJ _ _ _ _ ?_)
  rw [← hlen]
  exact wpC_walkT hsel t _ a _ (by rw [hlen]; exact hB) h
end
end Go.Proofs.YtiacdkggbnoigaaGreatDoor

/-
  DERIVED: THE SHELF's CONTRACTS AT THIS DUMP, IN PLAIN WORDS (tools/lay-plain.mjs out of 'YtiacdkggbnoigaaGreatDoorS0.lean', which tools/lay-shelf.mjs wrote): THE SAME DECLARATIONS UNDER THE SAME NAMES: 'import', 'namespace', 'open', 'def', 'theorem' AND NOTHING ELSE: no command of the shelf's: FOR A HAND-IN. Each laying: the table of numbers ('.._ren') and one theorem, a field a fact of the dump's own or the kernel's comparison; each contract: ONE APPLICATION.
-/
namespace Go.Proofs
open Go.Shelf
def Tryz.pdqMark_ren : Go.Shelf.Ren := ⟨fun | 14 => 79 | 20 => 96 | 21 => 97 | 22 => 98 | 23 => 99 | 24 => 100 | 25 => 101 | 26 => 102 | 27 => 103 | 46 => 114 | 47 => 105 | 48 => 106 | 49 => 115 | 50 => 116 | 15 => 76 | 57 => 121 | 28 => 88 | 29 => 89 | n => n, fun | 24 => 99 | 22 => 78 | 3 => 3 | 25 => 101 | 4 => 4 | 0 => 0 | 46 => 114 | 45 => 113 | 50 => 62 | 66 => 133 | 39 => 90 | 55 => 121 | 70 => 137 | 76 => 145 | 77 => 146 | 53 => 107 | 5 => 5 | 9 => 9 | n => n, fun | n => n⟩
theorem Tryz.pdqMark : Go.Proofs.SlLaysF0.n14 Tryz.prog Tryz.pdqMark_ren := {
  mixed := by kernel_rfl
  f14 := ⟨Tryz.f79.name, by decide, Tryz.func79.trans (congrArg some (by kernel_rfl))⟩
  f15 := Tryz.func76.trans (congrArg some (by kernel_rfl))
  f20 := ⟨Tryz.f96.name, by decide, Tryz.func96.trans (congrArg some (by kernel_rfl))⟩
  f21 := ⟨Tryz.f97.name, by decide, Tryz.func97.trans (congrArg some (by kernel_rfl))⟩
  f22 := ⟨Tryz.f98.name, by decide, Tryz.func98.trans (congrArg some (by kernel_rfl))⟩
  f23 := ⟨Tryz.f99.name, by decide, Tryz.func99.trans (congrArg some (by kernel_rfl))⟩
  f24 := ⟨Tryz.f100.name, by decide, Tryz.func100.trans (congrArg some (by kernel_rfl))⟩
  f25 := ⟨Tryz.f101.name, by decide, Tryz.func101.trans (congrArg some (by kernel_rfl))⟩
  f26 := ⟨Tryz.f102.name, by decide, Tryz.func102.trans (congrArg some (by kernel_rfl))⟩
  f27 := ⟨Tryz.f103.name, by decide, Tryz.func103.trans (congrArg some (by kernel_rfl))⟩
  f28 := Tryz.func88.trans (congrArg some (by kernel_rfl))
  f29 := Tryz.func89.trans (congrArg some (by kernel_rfl))
  f46 := ⟨Tryz.f114.name, by decide, Tryz.func114.trans (congrArg some (by kernel_rfl))⟩
  f47 := Tryz.func105.trans (congrArg some (by kernel_rfl))
  f48 := Tryz.func106.trans (congrArg some (by kernel_rfl))
  f49 := ⟨Tryz.f115.name, by decide, Tryz.func115.trans (congrArg some (by kernel_rfl))⟩
  f50 := ⟨Tryz.f116.name, by decide, Tryz.func116.trans (congrArg some (by kernel_rfl))⟩
  f57 := ⟨Tryz.f121.name, by decide, Tryz.func121.trans (congrArg some (by kernel_rfl))⟩
  t0 := Tryz.underlying0
  a0 := Tryz.isAgg0
  z0 := Tryz.sizeOf0
  v0 := Tryz.zeroValue0
  t3 := Tryz.underlying3
  a3 := Tryz.isAgg3
  z3 := Tryz.sizeOf3
  v3 := Tryz.zeroValue3
  t4 := Tryz.underlying4
  a4 := Tryz.isAgg4
  z4 := Tryz.sizeOf4
  v4 := Tryz.zeroValue4
  t5 := Tryz.underlying5
  a5 := Tryz.isAgg5
  z5 := Tryz.sizeOf5
  v5 := Tryz.zeroValue5
  t9 := Tryz.underlying9
  a9 := Tryz.isAgg9
  z9 := Tryz.sizeOf9
  v9 := Tryz.zeroValue9
  t22 := Tryz.underlying78
  a22 := Tryz.isAgg78
  z22 := Tryz.sizeOf78
  v22 := Tryz.zeroValue78
  t25 := Tryz.underlying101
  a25 := Tryz.isAgg101
  z25 := Tryz.sizeOf101
  v25 := Tryz.zeroValue101
  t39 := Tryz.underlying90
  a39 := Tryz.isAgg90
  z39 := Tryz.sizeOf90
  v39 := Tryz.zeroValue90
  t45 := Tryz.underlying113
  a45 := Tryz.isAgg113
  z45 := Tryz.sizeOf113
  v45 := Tryz.zeroValue113
  t46 := Tryz.underlying114
  a46 := Tryz.isAgg114
  z46 := Tryz.sizeOf114
  v46 := Tryz.zeroValue114
  t50 := Tryz.underlying62
  a50 := Tryz.isAgg62
  z50 := Tryz.sizeOf62
  v50 := Tryz.zeroValue62
  t53 := Tryz.underlying107
  a53 := Tryz.isAgg107
  z53 := Tryz.sizeOf107
  v53 := Tryz.zeroValue107
  t55 := Tryz.underlying121
  a55 := Tryz.isAgg121
  z55 := Tryz.sizeOf121
  v55 := Tryz.zeroValue121
  t66 := Tryz.underlying133
  a66 := Tryz.isAgg133
  z66 := Tryz.sizeOf133
  v66 := Tryz.zeroValue133
  t70 := Tryz.underlying137
  a70 := Tryz.isAgg137
  z70 := Tryz.sizeOf137
  v70 := Tryz.zeroValue137
  t76 := Tryz.underlying145
  a76 := Tryz.isAgg145
  z76 := Tryz.sizeOf145
  v76 := Tryz.zeroValue145
  t77 := Tryz.underlying146
  a77 := Tryz.isAgg146
  z77 := Tryz.sizeOf146
  v77 := Tryz.zeroValue146 }
def Tryz.bitsLen_ren : Go.Shelf.Ren := ⟨fun | 15 => 76 | 28 => 88 | 29 => 89 | n => n, fun | 39 => 90 | 3 => 3 | 53 => 107 | 55 => 121 | 4 => 4 | 5 => 5 | 9 => 9 | n => n, fun | n => n⟩
theorem Tryz.bitsLen : Go.Proofs.SlLaysF0.n15 Tryz.prog Tryz.bitsLen_ren := {
  mixed := by kernel_rfl
  f15 := Tryz.func76.trans (congrArg some (by kernel_rfl))
  f28 := Tryz.func88.trans (congrArg some (by kernel_rfl))
  f29 := Tryz.func89.trans (congrArg some (by kernel_rfl))
  t3 := Tryz.underlying3
  a3 := Tryz.isAgg3
  z3 := Tryz.sizeOf3
  v3 := Tryz.zeroValue3
  t4 := Tryz.underlying4
  a4 := Tryz.isAgg4
  z4 := Tryz.sizeOf4
  v4 := Tryz.zeroValue4
  t5 := Tryz.underlying5
  a5 := Tryz.isAgg5
  z5 := Tryz.sizeOf5
  v5 := Tryz.zeroValue5
  t9 := Tryz.underlying9
  a9 := Tryz.isAgg9
  z9 := Tryz.sizeOf9
  v9 := Tryz.zeroValue9
  t39 := Tryz.underlying90
  a39 := Tryz.isAgg90
  z39 := Tryz.sizeOf90
  v39 := Tryz.zeroValue90
  t53 := Tryz.underlying107
  a53 := Tryz.isAgg107
  z53 := Tryz.sizeOf107
  v53 := Tryz.zeroValue107
  t55 := Tryz.underlying121
  a55 := Tryz.isAgg121
  z55 := Tryz.sizeOf121
  v55 := Tryz.zeroValue121 }
def Tryz.sortPoint_ren : Go.Shelf.Ren := ⟨fun | 6 => 58 | 15 => 76 | 14 => 75 | 28 => 88 | 29 => 89 | 20 => 80 | 21 => 81 | 22 => 82 | 23 => 83 | 24 => 84 | 25 => 85 | 26 => 86 | 27 => 87 | 46 => 104 | 47 => 105 | 48 => 106 | 49 => 107 | 50 => 108 | 57 => 117 | n => n, fun | 22 => 58 | 24 => 65 | 25 => 89 | 3 => 3 | 39 => 90 | 0 => 0 | 53 => 107 | 55 => 121 | 4 => 4 | 46 => 114 | 45 => 113 | 50 => 62 | 5 => 5 | 9 => 9 | 66 => 133 | 70 => 137 | 76 => 145 | 77 => 146 | n => n, fun | n => n⟩
theorem Tryz.sortPoint : Go.Proofs.SlLaysF0.n6 Tryz.prog Tryz.sortPoint_ren := {
  mixed := by kernel_rfl
  f6 := ⟨Tryz.f58.name, by decide, Tryz.func58.trans (congrArg some (by kernel_rfl))⟩
  f14 := ⟨Tryz.f75.name, by decide, Tryz.func75.trans (congrArg some (by kernel_rfl))⟩
  f15 := Tryz.func76.trans (congrArg some (by kernel_rfl))
  f20 := ⟨Tryz.f80.name, by decide, Tryz.func80.trans (congrArg some (by kernel_rfl))⟩
  f21 := ⟨Tryz.f81.name, by decide, Tryz.func81.trans (congrArg some (by kernel_rfl))⟩
  f22 := ⟨Tryz.f82.name, by decide, Tryz.func82.trans (congrArg some (by kernel_rfl))⟩
  f23 := ⟨Tryz.f83.name, by decide, Tryz.func83.trans (congrArg some (by kernel_rfl))⟩
  f24 := ⟨Tryz.f84.name, by decide, Tryz.func84.trans (congrArg some (by kernel_rfl))⟩
  f25 := ⟨Tryz.f85.name, by decide, Tryz.func85.trans (congrArg some (by kernel_rfl))⟩
  f26 := ⟨Tryz.f86.name, by decide, Tryz.func86.trans (congrArg some (by kernel_rfl))⟩
  f27 := ⟨Tryz.f87.name, by decide, Tryz.func87.trans (congrArg some (by kernel_rfl))⟩
  f28 := Tryz.func88.trans (congrArg some (by kernel_rfl))
  f29 := Tryz.func89.trans (congrArg some (by kernel_rfl))
  f46 := ⟨Tryz.f104.name, by decide, Tryz.func104.trans (congrArg some (by kernel_rfl))⟩
  f47 := Tryz.func105.trans (congrArg some (by kernel_rfl))
  f48 := Tryz.func106.trans (congrArg some (by kernel_rfl))
  f49 := ⟨Tryz.f107.name, by decide, Tryz.func107.trans (congrArg some (by kernel_rfl))⟩
  f50 := ⟨Tryz.f108.name, by decide, Tryz.func108.trans (congrArg some (by kernel_rfl))⟩
  f57 := ⟨Tryz.f117.name, by decide, Tryz.func117.trans (congrArg some (by kernel_rfl))⟩
  t0 := Tryz.underlying0
  a0 := Tryz.isAgg0
  z0 := Tryz.sizeOf0
  v0 := Tryz.zeroValue0
  t3 := Tryz.underlying3
  a3 := Tryz.isAgg3
  z3 := Tryz.sizeOf3
  v3 := Tryz.zeroValue3
  t4 := Tryz.underlying4
  a4 := Tryz.isAgg4
  z4 := Tryz.sizeOf4
  v4 := Tryz.zeroValue4
  t5 := Tryz.underlying5
  a5 := Tryz.isAgg5
  z5 := Tryz.sizeOf5
  v5 := Tryz.zeroValue5
  t9 := Tryz.underlying9
  a9 := Tryz.isAgg9
  z9 := Tryz.sizeOf9
  v9 := Tryz.zeroValue9
  t22 := Tryz.underlying58
  a22 := Tryz.isAgg58
  z22 := Tryz.sizeOf58
  v22 := Tryz.zeroValue58
  t25 := Tryz.underlying89
  a25 := Tryz.isAgg89
  z25 := Tryz.sizeOf89
  v25 := Tryz.zeroValue89
  t39 := Tryz.underlying90
  a39 := Tryz.isAgg90
  z39 := Tryz.sizeOf90
  v39 := Tryz.zeroValue90
  t45 := Tryz.underlying113
  a45 := Tryz.isAgg113
  z45 := Tryz.sizeOf113
  v45 := Tryz.zeroValue113
  t46 := Tryz.underlying114
  a46 := Tryz.isAgg114
  z46 := Tryz.sizeOf114
  v46 := Tryz.zeroValue114
  t50 := Tryz.underlying62
  a50 := Tryz.isAgg62
  z50 := Tryz.sizeOf62
  v50 := Tryz.zeroValue62
  t53 := Tryz.underlying107
  a53 := Tryz.isAgg107
  z53 := Tryz.sizeOf107
  v53 := Tryz.zeroValue107
  t55 := Tryz.underlying121
  a55 := Tryz.isAgg121
  z55 := Tryz.sizeOf121
  v55 := Tryz.zeroValue121
  t66 := Tryz.underlying133
  a66 := Tryz.isAgg133
  z66 := Tryz.sizeOf133
  v66 := Tryz.zeroValue133
  t70 := Tryz.underlying137
  a70 := Tryz.isAgg137
  z70 := Tryz.sizeOf137
  v70 := Tryz.zeroValue137
  t76 := Tryz.underlying145
  a76 := Tryz.isAgg145
  z76 := Tryz.sizeOf145
  v76 := Tryz.zeroValue145
  t77 := Tryz.underlying146
  a77 := Tryz.isAgg146
  z77 := Tryz.sizeOf146
  v77 := Tryz.zeroValue146 }
end Go.Proofs

/-
  The order of points; the sort of a circle.
-/
namespace Go.Proofs.YtiacdkggbnoigaaGreatDoor
open Go.RowKit Go.Shelf
open Go.Sort (grow)

theorem grow_of_keep {W w' : World} (k : Keep (fun _ => False) W w') (hd : W.drawn ≤ w'.drawn) : ∃ q os', w' = grow (W.drewN q) os' := by
  refine ⟨w'.drawn - W.drawn, w'.heap.extract W.heap.size w'.heap.size, ?_⟩
  have hh : w'.heap = W.heap ++ w'.heap.extract W.heap.size w'.heap.size := by
    apply Array.ext_getElem?
    intro i
    by_cases hi : i < W.heap.size
    · rw [k.block i hi (fun h => h), Array.getElem?_append_left hi]
    · rw [Array.getElem?_append_right (by omega), Array.getElem?_extract]
      by_cases h2 : i < w'.heap.size
      · rw [if_pos (by omega)]
        congr 1
        omega
      · rw [if_neg (by omega), Array.getElem?_eq_none (by omega)]
  have h1 := k.os
  have h2 := k.tape
  have h3 := k.output
  unfold grow World.drewN
  cases w'
  cases W
  simp only at *
  subst h1 h2 h3
  congr 1
  omega

/-- A point as a value. -/
abbrev mkV (x : Mk) : Value := .agg #[.int .i64 x.point, .int .i64 x.node, .int .i64 x.i]
def encMk (x : Mk) : List Value := [.int .i64 x.point, .int .i64 x.node, .int .i64 x.i]
def cmpM (x y : Mk) : Int := orL [cmpI x.point y.point, cmpI x.node y.node, cmpI x.i y.i]
theorem cmpI_bd (a b : Int) : I64 (cmpI a b) := by unfold cmpI I64; split <;> (try split) <;> omega

set_option maxRecDepth 100000 in
set_option maxHeartbeats 2000000 in
theorem before_any (x y : Mk) (W : World) : Calls Tryz.prog 71 #[mkV x, mkV y] W fun e w' => e = .returned (.int .i64 (cmpM x y)) ∧ ∃ q os', w' = grow (W.drewN q) os' := by
  obtain ⟨x0, x1, x2⟩ := x
  obtain ⟨y0, y1, y2⟩ := y
  have t1 := three_cell W (.int .i64 x0) (.int .i64 x1) (.int .i64 x2) 99
  have t2 := three_cell (W.alloc (.cells #[.int .i64 x0, .int .i64 x1, .int .i64 x2] 99)) (.int .i64 y0) (.int .i64 y1) (.int .i64 y2) 99
  have k1 : Keep (fun _ => False) W (W.alloc (.cells #[.int .i64 x0, .int .i64 x1, .int .i64 x2] 99)) := (Keep.refl _ W).alloc _
  have k2 : Keep (fun _ => False) (W.alloc (.cells #[.int .i64 x0, .int .i64 x1, .int .i64 x2] 99)) ((W.alloc (.cells #[.int .i64 x0, .int .i64 x1, .int .i64 x2] 99)).alloc (.cells #[.int .i64 y0, .int .i64 y1, .int .i64 y2] 99)) := (Keep.refl _ _).alloc _
  have HX := Lib.hid (And.intro (k2.cell t1.1 (fun h => h)) (And.intro (k2.cell t1.2.1 (fun h => h)) (k2.cell t1.2.2.1 (fun h => h))))
  have HY := Lib.hid t2
  have HK := Lib.hid (k1.trans k2)
  have HD : Hid (W.drawn ≤ ((W.alloc (.cells #[.int .i64 x0, .int .i64 x1, .int .i64 x2] 99)).alloc (.cells #[.int .i64 y0, .int .i64 y1, .int .i64 y2] 99)).drawn) := Lib.hid (Nat.le_refl _)
  rw [World.size_alloc] at HY
  have HC : Hid (cmpM ⟨x0, x1, x2⟩ ⟨y0, y1, y2⟩ = orL [cmpI x0 y0, cmpI x1 y1, cmpI x2 y2]) := Lib.hid rfl
  clear t1 t2 k1 k2
  go_enter Tryz.func71, Tryz.ntmps71
  go_wp2_with fail
  generalize (W.alloc (.cells #[.int .i64 x0, .int .i64 x1, .int .i64 x2] 99)).alloc (.cells #[.int .i64 y0, .int .i64 y1, .int .i64 y2] 99) = W1 at *
  generalize W.heap.size = z at *
  have a0 : ∀ p : KA (fun _ => False) W1, p.val.cell? ⟨z, 0, none⟩ = some (.int .i64 x0) := fun p => p.k.cell HX.out.1 (fun h => h)
  have a1 : ∀ p : KA (fun _ => False) W1, p.val.cell? ⟨z, 1, none⟩ = some (.int .i64 x1) := fun p => p.k.cell HX.out.2.1 (fun h => h)
  have a2 : ∀ p : KA (fun _ => False) W1, p.val.cell? ⟨z, 2, none⟩ = some (.int .i64 x2) := fun p => p.k.cell HX.out.2.2 (fun h => h)
  have b0 : ∀ p : KA (fun _ => False) W1, p.val.cell? ⟨z + 1, 0, none⟩ = some (.int .i64 y0) := fun p => p.k.cell HY.out.1 (fun h => h)
  have b1 : ∀ p : KA (fun _ => False) W1, p.val.cell? ⟨z + 1, 1, none⟩ = some (.int .i64 y1) := fun p => p.k.cell HY.out.2.1 (fun h => h)
  have b2 : ∀ p : KA (fun _ => False) W1, p.val.cell? ⟨z + 1, 2, none⟩ = some (.int .i64 y2) := fun p => p.k.cell HY.out.2.2.1 (fun h => h)
  refine wp_region_walk [(true, 0), (true, 1), (true, 2), (true, 3), (true, 5), (true, 6), (true, 7), (true, 8), (true, 10), (true, 11), (true, 12), (true, 13), (false, 4), (false, 9), (false, 14), (false, 15), (false, 16), (false, 17)] (inKA (fun _ => False) W1) (by kernel_rfl) (by kernel_rfl) ?_
  iterate 12 (refine walkW_read rfl (fun K hK => ?_); go_simp; refine hK _ ?_; clear hK K)
  clear a0 a1 a2 b0 b1 b2
  have HK1 : Hid (Keep (fun _ => False) W1 W1.drew) := Lib.hid (Keep.refl _ W1).drew
  refine walkW_do rfl (inKA.of HK1.out) (fun K hK => ?_)
  go_simp
  refine (cmp_int x0 y0 _).mono ?_
  rintro e w' ⟨rfl, rfl⟩
  refine hK _ _ ?_; clear hK K
  refine walkW_do rfl (inKA.of HK1.out) (fun K hK => ?_)
  go_simp
  refine (cmp_int x1 y1 _).mono ?_
  rintro e w' ⟨rfl, rfl⟩
  refine hK _ _ ?_; clear hK K
  refine walkW_do rfl (inKA.of HK1.out) (fun K hK => ?_)
  go_simp
  refine (cmp_int x2 y2 _).mono ?_
  rintro e w' ⟨rfl, rfl⟩
  refine hK _ _ ?_; clear hK K
  have q0 := cmpI_bd x0 y0
  have q1 := cmpI_bd x1 y1
  have q2 := cmpI_bd x2 y2
  generalize cmpI x0 y0 = m0 at *
  generalize cmpI x1 y1 = m1 at *
  generalize cmpI x2 y2 = m2 at *
  refine walkW_do rfl (inKA.of HK1.out) (fun K hK => ?_)
  go_simp
  refine hK _ _ ?_; clear hK K
  have HI : Hid (Its (W1.alloc (.cells #[.int .i64 m0, .int .i64 m1, .int .i64 m2] 3)).drew (.slice (some ⟨W1.heap.size, 0, none⟩) 3 3) [m0, m1, m2]) := Lib.hid (by
    have t := three_cell W1 (.int .i64 m0) (.int .i64 m1) (.int .i64 m2) 3
    refine ⟨by simp, ?_, some ⟨W1.heap.size, 0, none⟩, 3, W1.heap.size, 0, rfl, by simp, fun _ => rfl, fun j x hj => ?_⟩
    · intro x hx
      simp only [List.mem_cons, List.not_mem_nil, or_false] at hx
      rcases hx with rfl | rfl | rfl <;> assumption
    · rcases j with _ | _ | _ | j
      · simp at hj; subst hj; exact t.1
      · simp at hj; subst hj; exact t.2.1
      · simp at hj; subst hj; exact t.2.2.1
      · simp at hj)
  have HK2 : Hid (Keep (fun _ => False) W1 (W1.alloc (.cells #[.int .i64 m0, .int .i64 m1, .int .i64 m2] 3)).drew) := Lib.hid ((Keep.refl _ W1).alloc _).drew
  have HD2 : Hid (W.drawn ≤ (W1.alloc (.cells #[.int .i64 m0, .int .i64 m1, .int .i64 m2] 3)).drew.drawn) := Lib.hid (Nat.le_succ_of_le HD.out)
  generalize (W1.alloc (.cells #[.int .i64 m0, .int .i64 m1, .int .i64 m2] 3)).drew = W2 at *
  refine walkW_do rfl (inKA.of HK2.out) (fun K hK => ?_)
  go_simp
  refine (cmp_or _ [m0, m1, m2] _ HI.out).mono ?_
  rintro e w' ⟨rfl, rfl⟩
  refine hK _ _ ?_; clear hK K
  refine walkW_do rfl (inKA.of HK2.out) (fun K hK => ?_)
  go_simp
  refine hK _ _ ?_; clear hK K
  refine ⟨inKA.of HK2.out, ?_⟩
  go_wp2_with fail
  go_ret
  exact ⟨by rw [HC.out]; rfl, grow_of_keep (HK.out.trans HK2.out) HD2.out⟩

theorem cmpM_neg (x y : Mk) : cmpM x y < 0 ↔ ltMk x y := by
  unfold cmpM ltMk
  have c : ∀ a b : Int, (a < b ∧ cmpI a b = -1) ∨ (a = b ∧ cmpI a b = 0) ∨ (b < a ∧ cmpI a b = 1) := fun a b => by
    unfold cmpI
    rcases Int.lt_trichotomy a b with h | h | h
    · exact .inl ⟨h, by rw [if_pos h]⟩
    · exact .inr (.inl ⟨h, by rw [if_neg (by omega), if_neg (by omega)]⟩)
    · exact .inr (.inr ⟨h, by rw [if_neg (by omega), if_pos h]⟩)
  simp only [orL]
  rcases c x.point y.point with ⟨h1, e1⟩ | ⟨h1, e1⟩ | ⟨h1, e1⟩
  · rw [e1, if_neg (by omega)]; omega
  · rw [e1, if_pos rfl]
    rcases c x.node y.node with ⟨h2, e2⟩ | ⟨h2, e2⟩ | ⟨h2, e2⟩
    · rw [e2, if_neg (by omega)]; omega
    · rw [e2, if_pos rfl]
      rcases c x.i y.i with ⟨h3, e3⟩ | ⟨h3, e3⟩ | ⟨h3, e3⟩
      · rw [e3, if_neg (by omega)]; omega
      · rw [e3, if_pos rfl]; omega
      · rw [e3, if_neg (by omega)]; omega
    · rw [e2, if_neg (by omega)]; omega
  · rw [e1, if_neg (by omega)]; omega
theorem cmpM_lt (x y : Mk) : Go.Proofs.ltOf cmpM x y = decide (ltMk x y) := by
  unfold Go.Proofs.ltOf
  exact decide_eq_decide.2 (cmpM_neg x y)
theorem swoM : Go.Sort.SWO (Go.Proofs.ltOf cmpM) where
  irrefl x := by rw [cmpM_lt]; exact decide_eq_false (ltMk_irrefl x)
  trans x y z h1 h2 := by rw [cmpM_lt, decide_eq_true_eq] at *; exact ltMk_trans h1 h2
  ntrans x y z h1 h2 := by rw [cmpM_lt, decide_eq_false_iff_not] at *; unfold ltMk at *; omega
instance : Inhabited Mk := ⟨⟨0, 0, 0⟩⟩

theorem cmpLaysM (blk off size : Nat) (w : World) : Go.Proofs.CmpLays Tryz.prog 71 #[] encMk 3 cmpM blk off size w := fun _ _ _ _ x y => before_any x y _

open Go.Sort in
set_option maxRecDepth 100000 in
set_option maxHeartbeats 2000000 in
theorem sortMarks (blk off cap : Nat) (d : Array Mk) (w : World) (hH : Go.Sort.HoldsK encMk 3 w blk off d) (hblk : blk < w.heap.size) (hsz : d.size < 1000000) :
    Calls Tryz.prog 70 #[.slice (some ⟨blk, off, none⟩) d.size cap, .func (.func 71) #[] #[]] w fun e w' =>
      e = .returned (.tuple #[]) ∧ ∃ d' n os, PermIn 0 d.size d d' ∧ SortedIn (Go.Proofs.ltOf cmpM) 0 d.size d' ∧ w' = Go.Proofs.sortWorldK encMk 3 w blk off n d' os := by
  have eg : ∀ args w, (callFunc 71 args).run Tryz.prog w = .ok (.enter 71 args) w := enters_of Tryz.func71 (by kernel_rfl) rfl
  have hlim : Lib.bitLen d.size < 4611686018427387904 := Nat.lt_of_le_of_lt (Lib.bitLen_le d.size 62 (by omega) (by omega)) (by omega)
  have hp := Go.Proofs.AnyQ.pdqsortCmpFunc_all (P := Tryz.prog) Tryz.pdqMark 3 Tryz.isAgg99 Tryz.sizeOf99 encMk cmpM 71 #[] swoM blk off cap d w eg (cmpLaysM blk off d.size w) ⟨fun _ => rfl, fun x v hv => by simp [encMk] at hv; rcases hv with rfl | rfl | rfl <;> rfl, hH, hblk⟩ (d.size + 1) 0 d.size (Lib.bitLen d.size) d w (by omega) rfl (Go.Proofs.SWK.start hH) (Nat.zero_le _) (Nat.le_refl _) (by omega) hlim (Or.inl rfl)
  have hl : Calls Tryz.prog 76 #[.int .u64 (d.size : Int)] w fun e w' => e = .returned (.int .i64 (Lib.bitLen d.size : Nat)) ∧ w' = w := by
    have h := Go.Proofs.Any.bits_Len (Go.Proofs.SlLaysF0.n15.bits Tryz.bitsLen) (d.size : Int) w (by omega) (by omega)
    rwa [Int.toNat_natCast] at h
  change Calls Tryz.prog 79 _ _ _ at hp
  have hsorts := Go.Sort.pdq_sorts (Go.Proofs.ltOf cmpM) swoM d 0 d.size (Lib.bitLen d.size) true true (Nat.zero_le _) (Nat.le_refl _) (Or.inl rfl)
  generalize Go.Sort.pdq (Go.Proofs.ltOf cmpM) d 0 d.size (Lib.bitLen d.size) true true = r at *
  generalize Lib.bitLen d.size = bl at *
  obtain ⟨n, hn⟩ : ∃ n, d.size = n := ⟨_, rfl⟩
  rw [hn] at hp hl hsorts hsz ⊢
  rw [show ((0 : Nat) : Int) = 0 from rfl] at hp
  have wr : IntKind.u64.wrap (n : Int) = n := by simp [IntKind.wrap, IntKind.bits, IntKind.signed]; omega
  have HP := Lib.hid hp
  have HL := Lib.hid hl
  have HS := Lib.hid hsorts
  clear hp hl hsorts hH eg hn
  go_enter Tryz.func70, Tryz.ntmps70
  go_wp2_with fail
  with_reducible refine HL.out.mono ?_
  rintro e w' ⟨rfl, rfl⟩
  go_wp2_with fail
  with_reducible refine HP.out.mono ?_
  rintro e w' ⟨rfl, m, os, rfl⟩
  go_wp2_with fail
  go_end0
  exact ⟨rfl, r, m, os, HS.out.1, HS.out.2, rfl⟩
end Go.Proofs.YtiacdkggbnoigaaGreatDoor
