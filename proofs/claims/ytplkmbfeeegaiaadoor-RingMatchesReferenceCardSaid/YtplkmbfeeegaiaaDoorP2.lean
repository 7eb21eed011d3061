/-
  Rings: members, limits, the circle, owners; what the laws say of them.
-/
import Derived.WalkKit
namespace Go.Proofs.YtplkmbfeeegaiaaDoor
/-- A member. -/
structure Mb where
  node : Int
  region : Int
  weight : Int
deriving DecidableEq

def okMb (m : Mb) : Prop := 0 ≤ m.node ∧ m.node ≤ 23 ∧ 0 ≤ m.region ∧ m.region ≤ 3 ∧ 1 ≤ m.weight ∧ m.weight ≤ 16
/-- Valid, from a last node on. -/
def validFrom (last : Int) : List Mb → Bool
  | [] => decide (0 ≤ last)
  | m :: l => decide (last + 1 ≤ m.node ∧ m.node ≤ 23 ∧ 0 ≤ m.region ∧ m.region ≤ 3 ∧ 1 ≤ m.weight ∧ m.weight ≤ 16) && validFrom m.node l
def validL (l : List Mb) : Bool := validFrom (-1) l

theorem validFrom_spec : ∀ (l : List Mb) (last : Int), -1 ≤ last → validFrom last l = true → (∀ m ∈ l, okMb m ∧ last < m.node) ∧ l.Pairwise (fun a b => a.node < b.node) ∧ (0 ≤ last ∨ l ≠ [])
  | [], last, _, h => ⟨by simp, List.Pairwise.nil, .inl (by simpa [validFrom] using h)⟩
  | m :: l, last, hl, h => by
    simp only [validFrom, Bool.and_eq_true, decide_eq_true_eq] at h
    obtain ⟨h1, h2⟩ := h
    obtain ⟨i1, i2, _⟩ := validFrom_spec l m.node (by omega) h2
    refine ⟨fun x hx => ?_, List.Pairwise.cons (fun x hx => (i1 x hx).2) i2, .inr (by simp)⟩
    rcases List.mem_cons.1 hx with rfl | hx
    · exact ⟨⟨by omega, by omega, by omega, by omega, by omega, by omega⟩, by omega⟩
    · exact ⟨(i1 x hx).1, by have := (i1 x hx).2; omega⟩
theorem validFrom_of : ∀ (l : List Mb) (last : Int), (∀ m ∈ l, okMb m ∧ last < m.node) → l.Pairwise (fun a b => a.node < b.node) → (0 ≤ last ∨ l ≠ []) → validFrom last l = true
  | [], last, _, _, h => by simpa [validFrom] using h
  | m :: l, last, h1, h2, _ => by
    have hm := h1 m (by simp)
    rw [List.pairwise_cons] at h2
    simp only [validFrom, Bool.and_eq_true, decide_eq_true_eq]
    unfold okMb at hm
    exact ⟨by omega, validFrom_of l m.node (fun x hx => ⟨(h1 x (by simp [hx])).1, h2.1 x hx⟩) h2.2 (.inl (by omega))⟩

/-- Members that are valid. -/
structure VL (l : List Mb) : Prop where
  ok : ∀ m ∈ l, okMb m
  asc : l.Pairwise (fun a b => a.node < b.node)
  ne : l ≠ []
theorem validL_iff (l : List Mb) : validL l = true ↔ VL l :=
  ⟨fun h => by
    obtain ⟨h1, h2, h3⟩ := validFrom_spec l (-1) (by omega) h
    exact ⟨fun m hm => (h1 m hm).1, h2, h3.resolve_left (by omega)⟩,
   fun h => validFrom_of l (-1) (fun m hm => ⟨h.ok m hm, by have := h.ok m hm; unfold okMb at this; omega⟩) h.asc (.inr h.ne)⟩

theorem asc_len : ∀ (l : List Mb) (k : Int), (∀ m ∈ l, k < m.node ∧ m.node ≤ 23) → l.Pairwise (fun a b => a.node < b.node) → (l.length : Int) ≤ max 0 (23 - k)
  | [], k, _, _ => by simp; omega
  | m :: l, k, h1, h2 => by
    rw [List.pairwise_cons] at h2
    have := asc_len l m.node (fun x hx => ⟨h2.1 x hx, (h1 x (by simp [hx])).2⟩) h2.2
    have hm := h1 m (by simp)
    simp only [List.length_cons]
    omega
theorem VL.len {l : List Mb} (h : VL l) : l.length ≤ 24 := by
  have := asc_len l (-1) (fun m hm => by have := h.ok m hm; unfold okMb at this; omega) h.asc
  omega

/-- The sum of the weights. -/
def wsum : List Mb → Int
  | [] => 0
  | m :: l => m.weight + wsum l
theorem wsum_append : ∀ (a b : List Mb), wsum (a ++ b) = wsum a + wsum b
  | [], b => by simp [wsum]
  | m :: a, b => by simp only [List.cons_append, wsum, wsum_append a b]; omega
theorem wsum_bd : ∀ (l : List Mb), (∀ m ∈ l, okMb m) → (l.length : Int) ≤ wsum l ∧ wsum l ≤ 16 * l.length
  | [], _ => by simp [wsum]
  | m :: l, h => by
    have := wsum_bd l (fun x hx => h x (by simp [hx]))
    have hm := h m (by simp)
    unfold okMb at hm
    simp only [wsum, List.length_cons]
    omega
theorem VL.wsum {l : List Mb} (h : VL l) : 1 ≤ wsum l ∧ wsum l ≤ 384 := by
  have := wsum_bd l h.ok
  have h1 := h.len
  have h2 : 0 < l.length := List.length_pos_iff.2 h.ne
  omega

def findN (l : List Mb) (n : Int) : Option Mb := l.find? (fun m => decide (m.node = n))
/-- The limit of a node. -/
def limitL (l : List Mb) (n : Int) : Int := if validL l = true then (match findN l n with | some m => (80 * m.weight + wsum l - 1) / wsum l | none => 0) else 0

theorem findN_mem {l : List Mb} (h : l.Pairwise (fun a b => a.node < b.node)) {m : Mb} (hm : m ∈ l) : findN l m.node = some m := by
  unfold findN
  induction l with
  | nil => cases hm
  | cons x l ih =>
    rw [List.pairwise_cons] at h
    rw [List.find?_cons]
    rcases List.mem_cons.1 hm with rfl | hm
    · simp
    · have : ¬ x.node = m.node := by have := h.1 m hm; omega
      simp only [this, decide_false]
      exact ih h.2 hm
theorem findN_none {l : List Mb} {n : Int} (h : ∀ m ∈ l, m.node ≠ n) : findN l n = none := by
  unfold findN
  rw [List.find?_eq_none]
  intro m hm
  simpa using h m hm
theorem findN_some {l : List Mb} {n : Int} {m : Mb} (h : findN l n = some m) : m ∈ l ∧ m.node = n := by
  unfold findN at h
  exact ⟨List.mem_of_find?_eq_some h, by simpa using List.find?_some h⟩
theorem limitL_mem {l : List Mb} (h : VL l) {m : Mb} (hm : m ∈ l) : limitL l m.node = (80 * m.weight + wsum l - 1) / wsum l := by
  unfold limitL
  rw [if_pos ((validL_iff l).2 h), findN_mem h.asc hm]
theorem limitL_none {l : List Mb} {n : Int} (h : ∀ m ∈ l, m.node ≠ n) : limitL l n = 0 := by
  unfold limitL
  rw [findN_none h]
  simp
theorem limitL_bad {l : List Mb} {n : Int} (h : ¬ VL l) : limitL l n = 0 := by
  unfold limitL
  rw [if_neg (fun e => h ((validL_iff l).1 e))]
theorem limit_pos {l : List Mb} (h : VL l) {m : Mb} (hm : m ∈ l) : 1 ≤ limitL l m.node ∧ limitL l m.node ≤ 1280 ∧ limitL l m.node * wsum l ≥ 80 * m.weight ∧ (limitL l m.node - 1) * wsum l < 80 * m.weight := by
  rw [limitL_mem h hm]
  have hs := h.wsum
  have hw := h.ok m hm
  unfold okMb at hw
  have h1 := Int.emod_add_mul_ediv (80 * m.weight + wsum l - 1) (wsum l)
  have h2 := Int.emod_nonneg (80 * m.weight + wsum l - 1) (show wsum l ≠ 0 by omega)
  have h3 := Int.emod_lt_of_pos (80 * m.weight + wsum l - 1) (show 0 < wsum l by omega)
  generalize (80 * m.weight + wsum l - 1) / wsum l = q at *
  generalize wsum l = s at *
  have e1 : s * q = q * s := Int.mul_comm _ _
  have e2 : (q - 1) * s = q * s - s := by rw [Int.sub_mul, Int.one_mul]
  have hq1 : 1 ≤ q := by
    rcases Int.lt_or_le q 1 with hq | hq
    · have : q * s ≤ 0 := Int.mul_nonpos_of_nonpos_of_nonneg (by omega) (by omega)
      omega
    · exact hq
  have hq2 : q ≤ 1280 := by
    rcases Int.lt_or_le 1280 q with hq | hq
    · have : 1280 * s < q * s := Int.mul_lt_mul_of_pos_right hq (by omega)
      omega
    · exact hq
  exact ⟨hq1, hq2, by omega, by omega⟩
theorem limitL_nn (l : List Mb) (n : Int) : 0 ≤ limitL l n ∧ limitL l n ≤ 1280 := by
  by_cases h : VL l
  · by_cases hn : ∃ m ∈ l, m.node = n
    · obtain ⟨m, hm, rfl⟩ := hn
      have := limit_pos h hm
      omega
    · rw [limitL_none (fun m hm e => hn ⟨m, hm, e⟩)]; omega
  · rw [limitL_bad h]; omega
/-- A point of a member. -/
structure Mk where
  point : Int
  node : Int
  i : Int
deriving DecidableEq
def ltMk (a b : Mk) : Prop := a.point < b.point ∨ (a.point = b.point ∧ (a.node < b.node ∨ (a.node = b.node ∧ a.i < b.i)))
instance (a b : Mk) : Decidable (ltMk a b) := by unfold ltMk; infer_instance
theorem ltMk_irrefl (a : Mk) : ¬ ltMk a a := by unfold ltMk; omega
theorem ltMk_trans {a b c : Mk} (h1 : ltMk a b) (h2 : ltMk b c) : ltMk a c := by unfold ltMk at *; omega
theorem ltMk_total {a b : Mk} (h : a ≠ b) : ltMk a b ∨ ltMk b a := by
  by_cases h1 : a.point = b.point
  · by_cases h2 : a.node = b.node
    · have h3 : a.i ≠ b.i := fun h3 => h (by cases a; cases b; simp_all)
      unfold ltMk; omega
    · unfold ltMk; omega
  · unfold ltMk; omega
theorem ltMk_asymm {a b : Mk} (h : ltMk a b) : ¬ ltMk b a := by unfold ltMk at *; omega

def insMk (x : Mk) : List Mk → List Mk
  | [] => [x]
  | y :: l => if ltMk x y then x :: y :: l else y :: insMk x l
theorem insMk_perm (x : Mk) : ∀ l, (insMk x l).Perm (x :: l)
  | [] => List.Perm.refl _
  | y :: l => by
    unfold insMk
    split
    · exact List.Perm.refl _
    · exact ((insMk_perm x l).cons y).trans (List.Perm.swap x y l)
theorem insMk_sorted (x : Mk) : ∀ l : List Mk, x ∉ l → l.Pairwise ltMk → (insMk x l).Pairwise ltMk
  | [], _, _ => by simp [insMk]
  | y :: l, hx, h => by
    rw [List.pairwise_cons] at h
    unfold insMk
    split
    · rename_i hxy
      rw [List.pairwise_cons, List.pairwise_cons]
      refine ⟨fun z hz => ?_, h⟩
      rcases List.mem_cons.1 hz with rfl | hz
      · exact hxy
      · exact ltMk_trans hxy (h.1 z hz)
    · rename_i hxy
      rw [List.pairwise_cons]
      refine ⟨fun z hz => ?_, insMk_sorted x l (fun h => hx (by simp [h])) h.2⟩
      rcases List.mem_cons.1 ((insMk_perm x l).mem_iff.1 hz) with rfl | hz
      · exact (ltMk_total (fun e => hx (by simp [e]))).resolve_left hxy
      · exact h.1 z hz
def sortMk (l : List Mk) : List Mk := l.foldr insMk []
theorem sortMk_perm : ∀ l : List Mk, (sortMk l).Perm l
  | [] => List.Perm.refl _
  | x :: l => (insMk_perm x (sortMk l)).trans ((sortMk_perm l).cons x)
theorem sortMk_sorted : ∀ l : List Mk, l.Nodup → (sortMk l).Pairwise ltMk
  | [], _ => List.Pairwise.nil
  | x :: l, h => by
    rw [List.nodup_cons] at h
    exact insMk_sorted x _ (fun hx => h.1 ((sortMk_perm l).mem_iff.1 hx)) (sortMk_sorted l h.2)
theorem sorted_uniq : ∀ {a b : List Mk}, a.Pairwise ltMk → b.Pairwise ltMk → a.Perm b → a = b
  | [], b, _, _, h => h.nil_eq
  | x :: a, b, ha, hb, h => by
    cases b with
    | nil => exact absurd h.length_eq (by simp)
    | cons y b =>
      rw [List.pairwise_cons] at ha hb
      have hxy : x = y := by
        by_cases e : x = y
        · exact e
        · have h1 : y ∈ a := by
            rcases List.mem_cons.1 (h.mem_iff.2 (List.mem_cons_self)) with e' | h'
            · exact absurd e'.symm e
            · exact h'
          have h2 : x ∈ b := by
            rcases List.mem_cons.1 (h.mem_iff.1 (List.mem_cons_self)) with e' | h'
            · exact absurd e' e
            · exact h'
          exact absurd (ha.1 y h1) (ltMk_asymm (hb.1 x h2))
      subst hxy
      rw [sorted_uniq ha.2 hb.2 (List.Perm.cons_inv h)]
theorem sorted_filter {a : List Mk} (h : a.Pairwise ltMk) (p : Mk → Bool) : (a.filter p).Pairwise ltMk := h.sublist List.filter_sublist

section
variable (P : Int → Nat → Int)
/-- The points of a member. -/
def drawM (m : Mb) : List Mk := (List.range (4 * m.weight.toNat)).map (fun i => ⟨P m.node i, m.node, i⟩)
/-- The points of members, as they are drawn. -/
def draws (l : List Mb) : List Mk := l.flatMap (drawM P)
/-- The circle. -/
def circ (l : List Mb) : List Mk := sortMk (draws P l)

theorem mem_drawM {m : Mb} {x : Mk} : x ∈ drawM P m ↔ x.node = m.node ∧ ∃ i : Nat, i < 4 * m.weight.toNat ∧ x.i = i ∧ x.point = P m.node i := by
  unfold drawM
  simp only [List.mem_map, List.mem_range]
  constructor
  · rintro ⟨i, hi, rfl⟩; exact ⟨rfl, i, hi, rfl, rfl⟩
  · rintro ⟨h1, i, hi, h2, h3⟩
    exact ⟨i, hi, by cases x; simp_all⟩
theorem drawM_nodup (m : Mb) : (drawM P m).Nodup := by
  unfold drawM
  rw [List.nodup_iff_pairwise_ne, List.pairwise_map]
  refine (List.nodup_iff_pairwise_ne.1 (List.nodup_range)).imp ?_
  intro a b h e
  have := congrArg Mk.i e
  simp only [] at this
  omega
theorem mem_draws {l : List Mb} {x : Mk} : x ∈ draws P l ↔ ∃ m ∈ l, x ∈ drawM P m := by unfold draws; rw [List.mem_flatMap]
theorem draws_nodup : ∀ {l : List Mb}, l.Pairwise (fun a b => a.node < b.node) → (draws P l).Nodup
  | [], _ => List.nodup_nil
  | m :: l, h => by
    rw [List.pairwise_cons] at h
    unfold draws
    rw [List.flatMap_cons, List.nodup_append]
    refine ⟨drawM_nodup P m, draws_nodup h.2, fun a ha b hb e => ?_⟩
    subst e
    obtain ⟨m', hm', hb⟩ := (mem_draws P).1 hb
    have h1 := ((mem_drawM P).1 ha).1
    have h2 := ((mem_drawM P).1 hb).1
    have := h.1 m' hm'
    omega
theorem circ_sorted {l : List Mb} (h : l.Pairwise (fun a b => a.node < b.node)) : (circ P l).Pairwise ltMk := sortMk_sorted _ (draws_nodup P h)
theorem mem_circ {l : List Mb} {x : Mk} : x ∈ circ P l ↔ ∃ m ∈ l, x ∈ drawM P m := by unfold circ; rw [(sortMk_perm _).mem_iff, mem_draws]
theorem circ_uniq {l : List Mb} (h : l.Pairwise (fun a b => a.node < b.node)) {c : List Mk} (hp : c.Perm (draws P l)) (hs : c.Pairwise ltMk) : c = circ P l :=
  sorted_uniq hs (circ_sorted P h) (hp.trans (sortMk_perm _).symm)
theorem draws_len : ∀ (l : List Mb), (∀ m ∈ l, okMb m) → ((draws P l).length : Int) = 4 * wsum l
  | [], _ => by simp [draws, wsum]
  | m :: l, h => by
    have := draws_len l (fun x hx => h x (by simp [hx]))
    have hm := h m (by simp)
    unfold okMb at hm
    unfold draws at this ⊢
    rw [List.flatMap_cons, List.length_append]
    simp only [wsum, drawM, List.length_map, List.length_range]
    omega

/-- Clockwise from a point on. -/
def rot (c : List Mk) (p : Int) : List Mk := c.filter (fun x => decide (p ≤ x.point)) ++ c.filter (fun x => decide (x.point < p))
def ords (l : List Mb) (p : Int) : List Int := (rot (circ P l) p).map Mk.node
theorem mem_rot {c : List Mk} {p : Int} {x : Mk} : x ∈ rot c p ↔ x ∈ c := by
  unfold rot
  simp only [List.mem_append, List.mem_filter, decide_eq_true_eq]
  constructor
  · rintro (h | h) <;> exact h.1
  · intro h
    rcases Int.lt_or_le x.point p with h' | h'
    · exact .inr ⟨h, h'⟩
    · exact .inl ⟨h, h'⟩
theorem mem_ords {l : List Mb} (h : VL l) {p n : Int} : n ∈ ords P l p ↔ ∃ m ∈ l, m.node = n := by
  unfold ords
  simp only [List.mem_map, mem_rot, mem_circ]
  constructor
  · rintro ⟨x, ⟨m, hm, hx⟩, rfl⟩; exact ⟨m, hm, (((mem_drawM P).1 hx).1).symm⟩
  · rintro ⟨m, hm, rfl⟩
    have := h.ok m hm
    unfold okMb at this
    exact ⟨⟨P m.node 0, m.node, ((0 : Nat) : Int)⟩, ⟨m, hm, (mem_drawM P).2 ⟨rfl, 0, by omega, rfl, rfl⟩⟩, rfl⟩
/-- A sorted list is split at the first one that is not below. -/
theorem rot_split : ∀ {c : List Mk}, c.Pairwise ltMk → ∀ (p : Int), ∃ k, k ≤ c.length ∧ c.filter (fun x => decide (x.point < p)) = c.take k ∧ c.filter (fun x => decide (p ≤ x.point)) = c.drop k ∧ (∀ x ∈ c.take k, x.point < p) ∧ ∀ x ∈ c.drop k, p ≤ x.point
  | [], _, p => ⟨0, by simp, by simp, by simp, by simp, by simp⟩
  | x :: c, h, p => by
    rw [List.pairwise_cons] at h
    by_cases hx : x.point < p
    · obtain ⟨k, hk, h1, h2, h3, h4⟩ := rot_split h.2 p
      refine ⟨k + 1, by simp; omega, ?_, ?_, ?_, ?_⟩
      · rw [List.filter_cons_of_pos (by simpa using hx), h1]; rfl
      · rw [List.filter_cons_of_neg (by simp; omega), h2]; rfl
      · intro y hy
        rw [List.take_succ_cons] at hy
        rcases List.mem_cons.1 hy with rfl | hy
        · exact hx
        · exact h3 y hy
      · intro y hy
        rw [List.drop_succ_cons] at hy
        exact h4 y hy
    · have hall : ∀ y ∈ x :: c, p ≤ y.point := fun y hy => by
        rcases List.mem_cons.1 hy with rfl | hy
        · omega
        · have := h.1 y hy; unfold ltMk at this; omega
      refine ⟨0, by simp, ?_, ?_, by simp, by simpa using hall⟩
      · rw [List.take_zero, List.filter_eq_nil_iff]
        intro y hy
        have := hall y hy
        simp; omega
      · rw [List.drop_zero, List.filter_eq_self]
        intro y hy
        simpa using hall y hy
end

/-! ### the assignment -/
def upd (g : Int → Int) (n v : Int) : Int → Int := fun k => if k = n then v else g k
def firstN (g : Int → Int) (o : List Int) : Option Int := o.find? (fun n => decide (0 < g n))
def stepA (o : List Int) (st : (Int → Int) × List Int) : (Int → Int) × List Int := match firstN st.1 o with
  | some n => (upd st.1 n (st.1 n - 1), st.2 ++ [n])
  | none => st
/-- The first k slots are assigned. -/
def assignK (ord : Nat → List Int) (g : Int → Int) : Nat → (Int → Int) × List Int
  | 0 => (g, [])
  | k + 1 => stepA (ord k) (assignK ord g k)

/-- How often n is among the owners. -/
def cnt (l : List Int) (n : Int) : Int := (l.count n : Nat)
theorem cnt_nn (l : List Int) (n : Int) : 0 ≤ cnt l n := by unfold cnt; omega
theorem cnt_snoc (l : List Int) (a n : Int) : cnt (l ++ [a]) n = cnt l n + if n = a then 1 else 0 := by
  unfold cnt
  rw [List.count_append, List.count_singleton]
  by_cases h : n = a
  · subst h; simp
  · have : ¬ a = n := fun e => h e.symm
    simp [h, this]

theorem firstN_some {g : Int → Int} {o : List Int} {n : Int} (h : firstN g o = some n) : n ∈ o ∧ 0 < g n := by
  unfold firstN at h
  exact ⟨List.mem_of_find?_eq_some h, by simpa using List.find?_some h⟩

/-- What holds behind k slots. -/
structure AsgK (g : Int → Int) (ns : List Int) (k : Nat) (st : (Int → Int) × List Int) : Prop where
  len : st.2.length = k
  room : ∀ n, st.1 n = g n - cnt st.2 n
  nn : ∀ n, 0 ≤ st.1 n
  mem : ∀ n ∈ st.2, n ∈ ns

def sumF (g : Int → Int) : List Int → Int
  | [] => 0
  | n :: l => g n + sumF g l
theorem sumF_sub (g f : Int → Int) : ∀ l, sumF (fun n => g n - f n) l = sumF g l - sumF f l
  | [] => by simp [sumF]
  | n :: l => by simp only [sumF, sumF_sub g f l]; omega
theorem sumF_pos (g : Int → Int) : ∀ l, 0 < sumF g l → ∃ n ∈ l, 0 < g n
  | [], h => by simp [sumF] at h
  | n :: l, h => by
    simp only [sumF] at h
    by_cases hn : 0 < g n
    · exact ⟨n, by simp, hn⟩
    · obtain ⟨m, hm, h'⟩ := sumF_pos g l (by omega)
      exact ⟨m, by simp [hm], h'⟩
theorem sumF_cnt : ∀ (ns : List Int), ns.Nodup → ∀ (l : List Int), sumF (cnt l) ns ≤ l.length
  | [], _, l => by simp [sumF]
  | n :: ns, h, l => by
    rw [List.nodup_cons] at h
    have h1 := sumF_cnt ns h.2 (l.filter (fun x => decide (x ≠ n)))
    have h2 : sumF (cnt (l.filter (fun x => decide (x ≠ n)))) ns = sumF (cnt l) ns := by
      have : ∀ ns' : List Int, n ∉ ns' → sumF (cnt (l.filter (fun x => decide (x ≠ n)))) ns' = sumF (cnt l) ns' := by
        intro ns'
        induction ns' with
        | nil => intro _; rfl
        | cons a ns' ih =>
          intro ha
          simp only [List.mem_cons, not_or] at ha
          simp only [sumF]
          rw [ih ha.2]
          congr 1
          unfold cnt
          rw [List.count_filter (by simp; exact fun e => ha.1 e.symm)]
      exact this ns h.1
    have h3 : (l.filter (fun x => decide (x ≠ n))).length + l.count n = l.length := by
      clear h1 h2
      induction l with
      | nil => rfl
      | cons a l ih =>
        by_cases e : a = n
        · subst e; rw [List.filter_cons_of_neg (by simp), List.count_cons_self, List.length_cons]; omega
        · rw [List.filter_cons_of_pos (by simpa using e), List.count_cons_of_ne (by simpa using e), List.length_cons, List.length_cons]; omega
    simp only [sumF]
    rw [← h2]
    unfold cnt at h1 ⊢
    omega
theorem sumF_mono {g f : Int → Int} : ∀ (l : List Int), (∀ n ∈ l, g n ≤ f n) → sumF g l ≤ sumF f l
  | [], _ => Int.le_refl _
  | n :: l, h => by
    simp only [sumF]
    have := h n (by simp)
    have := sumF_mono l (fun m hm => h m (by simp [hm]))
    omega

/-- There is always room. -/
theorem assignK_ok {ord : Nat → List Int} {g : Int → Int} {ns : List Int} (hn : ns.Nodup) (hg : ∀ n, 0 ≤ g n) (hord : ∀ s n, n ∈ ord s ↔ n ∈ ns) : ∀ (k : Nat), (k : Int) ≤ sumF g ns → AsgK g ns k (assignK ord g k)
  | 0, _ => ⟨rfl, fun n => by simp [assignK, cnt], fun n => hg n, by simp [assignK]⟩
  | k + 1, hk => by
    have ih := assignK_ok hn hg hord k (by omega)
    unfold assignK
    generalize assignK ord g k = st at *
    have h1 : sumF st.1 ns = sumF g ns - sumF (cnt st.2) ns := by
      rw [← sumF_sub]
      congr 1
      funext n
      exact ih.room n
    have h2 := sumF_cnt ns hn st.2
    obtain ⟨n, hn1, hn2⟩ := sumF_pos st.1 ns (by rw [h1]; have := ih.len; omega)
    cases hf : firstN st.1 (ord k) with
    | none =>
      unfold firstN at hf
      rw [List.find?_eq_none] at hf
      have := hf n ((hord k n).2 hn1)
      simp at this
      omega
    | some m =>
      obtain ⟨hm1, hm2⟩ := firstN_some hf
      have e : stepA (ord k) st = (upd st.1 m (st.1 m - 1), st.2 ++ [m]) := by unfold stepA; rw [hf]
      rw [e]
      refine ⟨by simp [ih.len], fun x => ?_, fun x => ?_, fun x hx => ?_⟩
      · show upd st.1 m (st.1 m - 1) x = g x - cnt (st.2 ++ [m]) x
        rw [cnt_snoc]
        unfold upd
        have := ih.room x
        split
        · rename_i e; subst e; omega
        · omega
      · show 0 ≤ upd st.1 m (st.1 m - 1) x
        unfold upd
        have := ih.nn x
        split <;> omega
      · rcases List.mem_append.1 hx with hx | hx
        · exact ih.mem x hx
        · rw [List.mem_singleton] at hx
          subst hx
          exact (hord k x).1 hm1

theorem limit_sum {l : List Mb} (h : VL l) : 80 ≤ sumF (limitL l) (l.map Mb.node) := by
  have key : ∀ l' : List Mb, (∀ m ∈ l', m ∈ l) → 80 * wsum l' ≤ sumF (limitL l) (l'.map Mb.node) * wsum l := by
    intro l'
    induction l' with
    | nil => intro _; simp [wsum, sumF]
    | cons m l' ih =>
      intro hm
      have h1 := ih (fun x hx => hm x (by simp [hx]))
      have h2 := (limit_pos h (hm m (by simp))).2.2.1
      simp only [List.map_cons, sumF, wsum]
      rw [Int.add_mul]
      omega
  have h1 := key l (fun _ h => h)
  have h2 := h.wsum
  rcases Int.lt_or_le (sumF (limitL l) (l.map Mb.node)) 80 with h3 | h3
  · have : sumF (limitL l) (l.map Mb.node) * wsum l < 80 * wsum l := Int.mul_lt_mul_of_pos_right h3 (by omega)
    omega
  · exact h3
theorem VL.nodup {l : List Mb} (h : VL l) : (l.map Mb.node).Nodup := by
  have := h.asc
  rw [List.nodup_iff_pairwise_ne, List.pairwise_map]
  exact this.imp (fun h e => by omega)

section
variable (P : Int → Nat → Int) (Q : Nat → Int)
/-- The owners. -/
def ownersL (l : List Mb) : List Int := (assignK (fun s => ords P l (Q s)) (limitL l) 64).2
theorem assign_at {l : List Mb} (h : VL l) {k : Nat} (hk : k ≤ 80) : AsgK (limitL l) (l.map Mb.node) k (assignK (fun s => ords P l (Q s)) (limitL l) k) :=
  assignK_ok h.nodup (fun n => (limitL_nn l n).1) (fun s n => by rw [mem_ords P h, List.mem_map]) k (by have := limit_sum h; omega)
theorem owners_ok {l : List Mb} (h : VL l) : (ownersL P Q l).length = 64 ∧ (∀ n, cnt (ownersL P Q l) n ≤ limitL l n) ∧ ∀ n ∈ ownersL P Q l, ∃ m ∈ l, m.node = n := by
  have a := assign_at P Q h (show 64 ≤ 80 by decide)
  refine ⟨a.len, fun n => ?_, fun n hn => List.mem_map.1 (a.mem n hn)⟩
  have h1 := a.room n
  have h2 := a.nn n
  unfold ownersL
  omega
end
section
variable (ord : Nat → List Int) (g : Int → Int)
theorem stepA_prefix (o : List Int) (st : (Int → Int) × List Int) : ∃ t, (stepA o st).2 = st.2 ++ t := by
  unfold stepA
  split
  · exact ⟨_, rfl⟩
  · exact ⟨[], by simp⟩
theorem assignK_prefix (k : Nat) : ∀ j, ∃ t, (assignK ord g (k + j)).2 = (assignK ord g k).2 ++ t
  | 0 => ⟨[], by simp⟩
  | j + 1 => by
    obtain ⟨t, ht⟩ := assignK_prefix k j
    obtain ⟨u, hu⟩ := stepA_prefix (ord (k + j)) (assignK ord g (k + j))
    exact ⟨t ++ u, by rw [← Nat.add_assoc, assignK, hu, ht, List.append_assoc]⟩
end
theorem cnt_append (a b : List Int) (n : Int) : cnt (a ++ b) n = cnt a n + cnt b n := by unfold cnt; rw [List.count_append]; omega

section
variable (P : Int → Nat → Int) (Q : Nat → Int)
abbrev asg (l : List Mb) (k : Nat) : (Int → Int) × List Int := assignK (fun s => ords P l (Q s)) (limitL l) k
/-- The owner of a slot: the first with room, at the slot's time. -/
theorem owner_at {l : List Mb} (h : VL l) {s : Nat} (hs : s < 64) : ∃ n, firstN (asg P Q l s).1 (ords P l (Q s)) = some n ∧ (ownersL P Q l)[s]? = some n ∧ ∀ x, cnt (asg P Q l s).2 x ≤ cnt (ownersL P Q l) x := by
  have a0 := assign_at P Q h (show s ≤ 80 by omega)
  have a1 := assign_at P Q h (show s + 1 ≤ 80 by omega)
  obtain ⟨t, ht⟩ := assignK_prefix (fun s => ords P l (Q s)) (limitL l) (s + 1) (63 - s)
  rw [show s + 1 + (63 - s) = 64 by omega] at ht
  cases hf : firstN (asg P Q l s).1 (ords P l (Q s)) with
  | none =>
    have : asg P Q l (s + 1) = asg P Q l s := by
      show stepA _ _ = _
      unfold stepA
      rw [show firstN (assignK (fun s => ords P l (Q s)) (limitL l) s).1 (ords P l (Q s)) = none from hf]
    have h1 := a1.len
    have h2 := a0.len
    rw [show assignK (fun s => ords P l (Q s)) (limitL l) (s + 1) = assignK (fun s => ords P l (Q s)) (limitL l) s from this] at h1
    omega
  | some n =>
    have e : (asg P Q l (s + 1)).2 = (asg P Q l s).2 ++ [n] := by
      show (stepA _ _).2 = _
      unfold stepA
      rw [show firstN (assignK (fun s => ords P l (Q s)) (limitL l) s).1 (ords P l (Q s)) = some n from hf]
    have e2 : ownersL P Q l = (asg P Q l s).2 ++ [n] ++ t := by
      unfold ownersL
      rw [ht]
      show (asg P Q l (s + 1)).2 ++ t = _
      rw [e]
    refine ⟨n, rfl, ?_, fun x => ?_⟩
    · rw [e2, List.append_assoc, List.getElem?_append_right (by rw [a0.len]; omega), a0.len]
      simp
    · rw [e2, cnt_append, cnt_append]
      have := cnt_nn [n] x
      have := cnt_nn t x
      omega
theorem find_before {p : Int → Bool} : ∀ {o : List Int} {n : Int}, o.find? p = some n → ∀ (i : Nat) (x : Int), o[i]? = some x → (∀ k, k ≤ i → o[k]? ≠ some n) → p x = false
  | [], _, h, _, _, _, _ => by simp at h
  | y :: o, n, h, i, x, hx, hk => by
    rw [List.find?_cons] at h
    by_cases hy : p y = true
    · rw [hy] at h
      simp only [Option.some.injEq] at h
      subst h
      exact absurd rfl (hk 0 (Nat.zero_le _))
    · have hy' : p y = false := by simpa using hy
      rw [hy'] at h
      simp only [] at h
      cases i with
      | zero =>
        simp only [List.getElem?_cons_zero, Option.some.injEq] at hx
        subst hx
        exact hy'
      | succ i =>
        simp only [List.getElem?_cons_succ] at hx
        exact find_before h i x hx (fun k hk' => by have := hk (k + 1) (by omega); simpa using this)
/-- Clockwise: who comes before the owner has as many slots as its limit. -/
theorem clockwise {l : List Mb} (h : VL l) {s : Nat} (hs : s < 64) {n : Int} (hn : (ownersL P Q l)[s]? = some n) {i : Nat} {x : Int} (hx : (ords P l (Q s))[i]? = some x) (hb : ∀ k, k ≤ i → (ords P l (Q s))[k]? ≠ some n) : limitL l x ≤ cnt (ownersL P Q l) x := by
  obtain ⟨m, h1, h2, h3⟩ := owner_at P Q h hs
  rw [hn] at h2
  cases h2
  have h4 := find_before h1 i x hx hb
  have h5 := (assign_at P Q h (show s ≤ 80 by omega)).room x
  have h6 := h3 x
  simp only [decide_eq_false_iff_not] at h4
  have h7 : (asg P Q l s).1 x = limitL l x - cnt (asg P Q l s).2 x := h5
  omega
/-- No member is at its limit: every slot goes to the first one clockwise. -/
theorem free_first {l : List Mb} (h : VL l) (hf : ∀ m ∈ l, cnt (ownersL P Q l) m.node < limitL l m.node) {s : Nat} (hs : s < 64) : ∃ n, (ords P l (Q s)).head? = some n ∧ (ownersL P Q l)[s]? = some n := by
  obtain ⟨n, h1, h2, h3⟩ := owner_at P Q h hs
  refine ⟨n, ?_, h2⟩
  cases ho : ords P l (Q s) with
  | nil => rw [ho] at h1; simp [firstN] at h1
  | cons y o =>
    rw [ho] at h1
    unfold firstN at h1
    obtain ⟨m, hm, he⟩ := (mem_ords P h).1 (show y ∈ ords P l (Q s) by rw [ho]; exact List.mem_cons_self)
    have h5 := (assign_at P Q h (show s ≤ 80 by omega)).room y
    have h6 := h3 y
    have h7 := hf m hm
    rw [he] at h7
    have h8 : 0 < (asg P Q l s).1 y := by
      have : (asg P Q l s).1 y = limitL l y - cnt (asg P Q l s).2 y := h5
      omega
    rw [List.find?_cons] at h1
    simp only [h8, decide_true, Option.some.injEq] at h1
    subst h1
    rfl

theorem draws_append (a b : List Mb) : draws P (a ++ b) = draws P a ++ draws P b := by unfold draws; rw [List.flatMap_append]
theorem filter_draws_other {l : List Mb} {n : Int} (h : ∀ m ∈ l, m.node ≠ n) : (draws P l).filter (fun x => decide (x.node ≠ n)) = draws P l := by
  rw [List.filter_eq_self]
  intro x hx
  obtain ⟨m, hm, hx⟩ := (mem_draws P).1 hx
  simpa [((mem_drawM P).1 hx).1] using h m hm
theorem filter_draw_own (m : Mb) : (drawM P m).filter (fun x => decide (x.node ≠ m.node)) = [] := by
  rw [List.filter_eq_nil_iff]
  intro x hx
  simp [((mem_drawM P).1 hx).1]
/-- With a further member, the circle of the others is as it was. -/
theorem circ_more {a b : List Mb} {m : Mb} (h : VL (a ++ b)) (hm : VL (a ++ m :: b)) (hn : ∀ x ∈ a ++ b, x.node ≠ m.node) : (circ P (a ++ m :: b)).filter (fun x => decide (x.node ≠ m.node)) = circ P (a ++ b) := by
  refine circ_uniq P h.asc ?_ (sorted_filter (circ_sorted P hm.asc) _)
  refine ((sortMk_perm _).filter _).trans ?_
  rw [draws_append, draws_append, List.filter_append]
  show (List.filter _ (draws P a) ++ List.filter _ (List.flatMap (drawM P) (m :: b))).Perm _
  rw [List.flatMap_cons, List.filter_append, filter_draw_own, List.nil_append]
  have e1 := filter_draws_other P (l := a) (n := m.node) (fun x hx => hn x (by simp [hx]))
  have e2 := filter_draws_other P (l := b) (n := m.node) (fun x hx => hn x (by simp [hx]))
  rw [e1, show List.filter (fun x => decide (x.node ≠ m.node)) (List.flatMap (drawM P) b) = draws P b from e2]
theorem head_filter {α : Type} {q : α → Bool} : ∀ {c : List α} {x : α}, c.head? = some x → q x = true → (c.filter q).head? = some x
  | [], _, h, _ => by simp at h
  | y :: c, x, h, hq => by
    simp only [List.head?_cons, Option.some.injEq] at h
    subst h
    rw [List.filter_cons_of_pos hq]
    rfl
theorem consistent {a b : List Mb} {m : Mb} (h : VL (a ++ b)) (hm : VL (a ++ m :: b)) (hn : ∀ x ∈ a ++ b, x.node ≠ m.node)
    (hf : ∀ x ∈ a ++ b, cnt (ownersL P Q (a ++ b)) x.node < limitL (a ++ b) x.node) (hf' : ∀ x ∈ a ++ m :: b, cnt (ownersL P Q (a ++ m :: b)) x.node < limitL (a ++ m :: b) x.node)
    {s : Nat} (hs : s < 64) : ∃ x y, (ownersL P Q (a ++ b))[s]? = some x ∧ (ownersL P Q (a ++ m :: b))[s]? = some y ∧ (y = x ∨ y = m.node) := by
  obtain ⟨x, h1, h2⟩ := free_first P Q h hf hs
  obtain ⟨y, h3, h4⟩ := free_first P Q hm hf' hs
  refine ⟨x, y, h2, h4, ?_⟩
  by_cases e : y = m.node
  · exact .inr e
  · left
    unfold ords at h1 h3
    rw [List.head?_map] at h1 h3
    cases hc : (rot (circ P (a ++ m :: b)) (Q s)).head? with
    | none => rw [hc] at h3; simp at h3
    | some z =>
      rw [hc] at h3
      simp only [Option.map_some, Option.some.injEq] at h3
      have h5 := head_filter (q := fun x => decide (x.node ≠ m.node)) hc (by rw [h3]; simpa using e)
      have h6 : (rot (circ P (a ++ m :: b)) (Q s)).filter (fun x => decide (x.node ≠ m.node)) = rot (circ P (a ++ b)) (Q s) := by
        unfold rot
        rw [List.filter_append, List.filter_filter, List.filter_filter, ← circ_more P h hm hn, List.filter_filter, List.filter_filter]
        congr 1 <;> (apply List.filter_congr; intro x _; exact Bool.and_comm _ _)
      rw [h6] at h5
      rw [h5] at h1
      simp only [Option.map_some, Option.some.injEq] at h1
      rw [← h1, h3]

/-- Owners depend on nodes and weights alone. -/
theorem map_same : ∀ {a b : List Mb}, a.map (fun m => (m.node, m.weight)) = b.map (fun m => (m.node, m.weight)) → draws P a = draws P b ∧ wsum a = wsum b ∧ ∀ n, (findN a n).map Mb.weight = (findN b n).map Mb.weight
  | [], [], _ => ⟨rfl, rfl, fun _ => rfl⟩
  | [], _ :: _, h => by simp at h
  | _ :: _, [], h => by simp at h
  | x :: a, y :: b, h => by
    simp only [List.map_cons, List.cons.injEq, Prod.mk.injEq] at h
    obtain ⟨⟨h1, h2⟩, h3⟩ := h
    obtain ⟨i1, i2, i3⟩ := map_same h3
    refine ⟨?_, by simp only [wsum, h2, i2], fun n => ?_⟩
    · unfold draws at i1 ⊢
      rw [List.flatMap_cons, List.flatMap_cons, i1]
      congr 1
      unfold drawM
      rw [h1, h2]
    · unfold findN at i3 ⊢
      rw [List.find?_cons, List.find?_cons, h1]
      by_cases e : y.node = n
      · simp [e, h2]
      · simp only [e, decide_false]; exact i3 n
theorem limitL_eq {a b : List Mb} (h : a.map (fun m => (m.node, m.weight)) = b.map (fun m => (m.node, m.weight))) (ha : VL a) (hb : VL b) (n : Int) : limitL a n = limitL b n := by
  obtain ⟨_, h2, h3⟩ := map_same (fun _ _ => 0) h
  unfold limitL
  rw [if_pos ((validL_iff a).2 ha), if_pos ((validL_iff b).2 hb)]
  have := h3 n
  cases ea : findN a n with
  | none =>
    rw [ea] at this
    cases eb : findN b n with
    | none => rfl
    | some y => rw [eb] at this; simp at this
  | some x =>
    rw [ea] at this
    cases eb : findN b n with
    | none => rw [eb] at this; simp at this
    | some y =>
      rw [eb] at this
      simp only [Option.map_some, Option.some.injEq] at this
      simp only [this, h2]
theorem owners_eq {a b : List Mb} (h : a.map (fun m => (m.node, m.weight)) = b.map (fun m => (m.node, m.weight))) (ha : VL a) (hb : VL b) : ownersL P Q a = ownersL P Q b := by
  unfold ownersL
  have h1 : limitL a = limitL b := funext (limitL_eq h ha hb)
  have h2 : (fun s => ords P a (Q s)) = (fun s => ords P b (Q s)) := by
    funext s
    unfold ords circ
    rw [(map_same P h).1]
  rw [h1, h2]
end
/-- Weights that are multiplied change no limit. -/
theorem limit_scaled {w s t : Int} (ht : 1 ≤ t) (hs : 1 ≤ s) : (80 * (t * w) + t * s - 1) / (t * s) = (80 * w + s - 1) / s := by
  have hts : 0 < t * s := Int.mul_pos (by omega) (by omega)
  apply Int.le_antisymm
  · apply Int.le_of_lt_add_one
    rw [Int.ediv_lt_iff_lt_mul hts]
    have h1 := Int.lt_mul_ediv_self_add (x := 80 * w + s - 1) (k := s) (by omega)
    generalize (80 * w + s - 1) / s = q at *
    have : 80 * w + s - 1 < (q + 1) * s := by rw [Int.add_mul, Int.mul_comm q s]; omega
    have h2 : t * (80 * w + s - 1 + 1) ≤ t * ((q + 1) * s) := Int.mul_le_mul_of_nonneg_left (by omega) (by omega)
    have e1 : t * (80 * w + s - 1 + 1) = 80 * (t * w) + t * s := by rw [show 80 * w + s - 1 + 1 = 80 * w + s by omega, Int.mul_add, ← Int.mul_assoc, Int.mul_comm t 80, Int.mul_assoc]
    have e2 : t * ((q + 1) * s) = (q + 1) * (t * s) := by rw [← Int.mul_assoc, ← Int.mul_assoc, Int.mul_comm t (q + 1)]
    omega
  · rw [Int.le_ediv_iff_mul_le hts]
    have h1 := Int.mul_ediv_self_le (x := 80 * w + s - 1) (k := s) (by omega)
    generalize (80 * w + s - 1) / s = q at *
    have h2 : t * (s * q) ≤ t * (80 * w + s - 1) := Int.mul_le_mul_of_nonneg_left h1 (by omega)
    have e1 : t * (80 * w + s - 1) = 80 * (t * w) + t * s - t := by rw [Int.mul_sub, Int.mul_add, Int.mul_one, ← Int.mul_assoc, Int.mul_comm t 80, Int.mul_assoc]
    have e2 : t * (s * q) = q * (t * s) := by rw [← Int.mul_assoc, Int.mul_comm]
    omega
/-! ### rotation by index -/
theorem rot_get {α : Type} (c : List α) {k i : Nat} (hk : k ≤ c.length) (hi : i < c.length) : (c.drop k ++ c.take k)[i]? = c[(k + i) % c.length]? := by
  by_cases h : i < c.length - k
  · rw [List.getElem?_append_left (by simpa using h), List.getElem?_drop, Nat.mod_eq_of_lt (by omega)]
  · rw [List.getElem?_append_right (by simpa using h)]
    have e : (k + i) % c.length = i - (c.length - k) := by
      have : k + i = (i - (c.length - k)) + c.length := by omega
      rw [this, Nat.add_mod_right, Nat.mod_eq_of_lt (by omega)]
    rw [e, List.length_drop, List.getElem?_take_of_lt (by omega)]
/-- How many points lie below p. -/
def lows (c : List Mk) (p : Int) : Nat := (c.filter (fun x => decide (x.point < p))).length
theorem lows_le (c : List Mk) (p : Int) : lows c p ≤ c.length := List.length_filter_le _ _
theorem rot_eq {c : List Mk} (h : c.Pairwise ltMk) (p : Int) : rot c p = c.drop (lows c p) ++ c.take (lows c p) := by
  obtain ⟨k, hk, h1, h2, _, _⟩ := rot_split h p
  have e : lows c p = k := by unfold lows; rw [h1, List.length_take]; omega
  unfold rot
  rw [h2, h1, e]
theorem rot_at {c : List Mk} (h : c.Pairwise ltMk) (p : Int) {i : Nat} (hi : i < c.length) : (rot c p)[i]? = c[(lows c p + i) % c.length]? := by
  rw [rot_eq h, rot_get c (lows_le c p) hi]
theorem rot_len {c : List Mk} (p : Int) : (rot c p).length = c.length := by
  unfold rot
  rw [List.length_append]
  induction c with
  | nil => rfl
  | cons x c ih =>
    by_cases hx : p ≤ x.point
    · rw [List.filter_cons_of_pos (by simpa using hx), List.filter_cons_of_neg (by simp; omega), List.length_cons, List.length_cons]; omega
    · rw [List.filter_cons_of_neg (by simpa using hx), List.filter_cons_of_pos (by simp; omega), List.length_cons, List.length_cons]; omega
theorem lows_below {c : List Mk} (h : c.Pairwise ltMk) (p : Int) {i : Nat} {x : Mk} (hx : c[i]? = some x) : x.point < p ↔ i < lows c p := by
  obtain ⟨k, hk, h1, _, h3, h4⟩ := rot_split h p
  have e : lows c p = k := by unfold lows; rw [h1, List.length_take]; omega
  rw [e]
  constructor
  · intro hp
    rcases Nat.lt_or_ge i k with h' | h'
    · exact h'
    · have := h4 x (List.mem_iff_getElem?.2 ⟨i - k, by rw [List.getElem?_drop]; rw [show k + (i - k) = i by omega]; exact hx⟩)
      omega
  · intro hi
    exact h3 x (List.mem_iff_getElem?.2 ⟨i, by rw [List.getElem?_take_of_lt hi]; exact hx⟩)

/-! ### the order of drawing -/
def dLt (a b : Mk) : Prop := a.node < b.node ∨ (a.node = b.node ∧ a.i < b.i)
theorem draws_order (P : Int → Nat → Int) : ∀ {l : List Mb}, l.Pairwise (fun a b => a.node < b.node) → (draws P l).Pairwise dLt
  | [], _ => List.Pairwise.nil
  | m :: l, h => by
    rw [List.pairwise_cons] at h
    unfold draws
    rw [List.flatMap_cons, List.pairwise_append]
    refine ⟨?_, draws_order P h.2, fun a ha b hb => ?_⟩
    · unfold drawM
      rw [List.pairwise_map]
      refine (List.pairwise_lt_range).imp ?_
      intro a b hab
      exact .inr ⟨rfl, by simp only []; omega⟩
    · obtain ⟨m', hm', hb⟩ := (mem_draws P).1 hb
      have h1 := ((mem_drawM P).1 ha).1
      have h2 := ((mem_drawM P).1 hb).1
      have := h.1 m' hm'
      exact .inl (by omega)
/-- A later point goes behind all that are not above it. -/
theorem ins_at {S : List Mk} {x : Mk} (hs : S.Pairwise ltMk) (hd : ∀ y ∈ S, dLt y x) {k : Nat} (h1 : ∀ y ∈ S.take k, y.point ≤ x.point) (h2 : ∀ y ∈ S.drop k, x.point < y.point) : (S.take k ++ x :: S.drop k).Pairwise ltMk := by
  have hs' : (S.take k ++ S.drop k).Pairwise ltMk := by rw [List.take_append_drop]; exact hs
  rw [List.pairwise_append] at hs' ⊢
  obtain ⟨a1, a2, a3⟩ := hs'
  refine ⟨a1, List.Pairwise.cons (fun y hy => .inl (h2 y hy)) a2, fun a ha b hb => ?_⟩
  rcases List.mem_cons.1 hb with rfl | hb
  · have e1 := h1 a ha
    have e2 := hd a (List.mem_of_mem_take ha)
    unfold ltMk
    unfold dLt at e2
    omega
  · exact a3 a ha b hb
theorem ins_perm (S : List Mk) (x : Mk) (k : Nat) : (S.take k ++ x :: S.drop k).Perm (S ++ [x]) := by
  have h1 : (S.take k ++ x :: S.drop k).Perm (x :: (S.take k ++ S.drop k)) := List.perm_middle
  rw [List.take_append_drop] at h1
  exact h1.trans (List.perm_append_singleton x S).symm
theorem sorted_points {S : List Mk} (hs : S.Pairwise ltMk) {i j : Nat} {x y : Mk} (hx : S[i]? = some x) (hy : S[j]? = some y) (hij : i ≤ j) : x.point ≤ y.point := by
  rcases Nat.lt_or_ge i j with h | h
  · obtain ⟨h1, rfl⟩ := List.getElem?_eq_some_iff.1 hx
    obtain ⟨h2, rfl⟩ := List.getElem?_eq_some_iff.1 hy
    have := List.pairwise_iff_getElem.1 hs i j h1 h2 h
    unfold ltMk at this
    omega
  · have : i = j := by omega
    subst this
    rw [hx] at hy
    cases hy
    omega

/-! ### valid rings -/
def okRing (ep : Int) (l : List Mb) (ow : List Int) : Prop := 1 ≤ ep ∧ ep ≤ 1000000 ∧ VL l ∧ ow.length = 64 ∧ ∀ n, cnt ow n ≤ limitL l n
theorem cnt_take_le (ow : List Int) (j : Nat) (n : Int) : cnt (ow.take j) n ≤ cnt ow n := by
  have : cnt ow n = cnt (ow.take j) n + cnt (ow.drop j) n := by rw [← cnt_append, List.take_append_drop]
  have := cnt_nn (ow.drop j) n
  omega
theorem cnt_take_succ {ow : List Int} {j : Nat} {x : Int} (h : ow[j]? = some x) (n : Int) : cnt (ow.take (j + 1)) n = cnt (ow.take j) n + if n = x then 1 else 0 := by
  rw [List.take_add_one, h]
  exact cnt_snoc _ _ _
theorem cnt_pos_mem {ow : List Int} {n : Int} (h : 0 < cnt ow n) : n ∈ ow := by
  unfold cnt at h
  exact List.count_pos_iff.1 (by omega)
theorem mem_cnt_pos {ow : List Int} {n : Int} (h : n ∈ ow) : 1 ≤ cnt ow n := by
  unfold cnt
  have := List.count_pos_iff.2 h
  omega
end Go.Proofs.YtplkmbfeeegaiaaDoor
