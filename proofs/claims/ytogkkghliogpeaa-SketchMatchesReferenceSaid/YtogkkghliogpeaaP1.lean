/-
  The plain law: counters in their order, and what each call makes of them.
-/
import Derived.Test.YtogkkghliogpeaaB2
namespace Go.Proofs.Ytogkkghliogpeaa
open Go.RowKit

/-- x comes before y. -/
def BefC (x y : C) : Prop := y.hi < x.hi ∨ (y.hi = x.hi ∧ x.key.data.toList < y.key.data.toList)
instance (x y : C) : Decidable (BefC x y) := inferInstanceAs (Decidable (y.hi < x.hi ∨ (y.hi = x.hi ∧ x.key.data.toList < y.key.data.toList)))

theorem data_inj {s t : ByteArray} (e : s.data.toList = t.data.toList) : s = t := toList_inj (by rw [ByteArray.toList_eq, ByteArray.toList_eq]; exact e)
theorem BefC.trans {x y z : C} (h1 : BefC x y) (h2 : BefC y z) : BefC x z := by
  unfold BefC at *
  rcases h1 with h1 | ⟨h1, g1⟩
  · rcases h2 with h2 | ⟨h2, g2⟩
    · left; omega
    · left; omega
  · rcases h2 with h2 | ⟨h2, g2⟩
    · left; omega
    · right; exact ⟨by omega, lt_tr g1 g2⟩
theorem BefC.irrefl {x : C} (h : BefC x x) : False := by
  unfold BefC at h
  rcases h with h | ⟨_, h⟩
  · omega
  · exact lt_irr _ h
theorem BefC.total {x y : C} (h : x.key ≠ y.key) : BefC x y ∨ BefC y x := by
  unfold BefC
  rcases Int.lt_trichotomy x.hi y.hi with h1 | h1 | h1
  · exact .inr (.inl h1)
  · rcases lt_total x.key.data.toList y.key.data.toList with h2 | h2 | h2
    · exact .inl (.inr ⟨h1.symm, h2⟩)
    · exact absurd (data_inj h2) h
    · exact .inr (.inr ⟨h1, h2⟩)
  · exact .inl (.inl h1)

def insC (x : C) : List C → List C
  | [] => [x]
  | y :: r => if BefC y x then y :: insC x r else x :: y :: r
def ordC (l : List C) : List C := l.foldr insC []

theorem insC_perm (x : C) : ∀ l : List C, (insC x l).Perm (x :: l)
  | [] => List.Perm.refl _
  | y :: r => by
    unfold insC
    split
    · exact ((insC_perm x r).cons y).trans (List.Perm.swap x y r)
    · exact List.Perm.refl _
theorem insC_sorted {x : C} : ∀ {l : List C}, l.Pairwise BefC → (∀ y ∈ l, y.key ≠ x.key) → (insC x l).Pairwise BefC
  | [], _, _ => by simp [insC]
  | y :: r, h, hk => by
    rw [List.pairwise_cons] at h
    unfold insC
    split
    · rename_i hb
      rw [List.pairwise_cons]
      refine ⟨fun z hz => ?_, insC_sorted h.2 (fun z hz => hk z (by simp [hz]))⟩
      rcases List.mem_cons.1 ((insC_perm x r).mem_iff.1 hz) with rfl | hz
      · exact hb
      · exact h.1 z hz
    · rename_i hb
      have hxy : BefC x y := (BefC.total (hk y (by simp))).resolve_left hb
      rw [List.pairwise_cons]
      refine ⟨fun z hz => ?_, List.pairwise_cons.2 h⟩
      rcases List.mem_cons.1 hz with rfl | hz
      · exact hxy
      · exact hxy.trans (h.1 z hz)
theorem ordC_perm : ∀ l : List C, (ordC l).Perm l
  | [] => List.Perm.refl _
  | x :: r => (insC_perm x (ordC r)).trans ((ordC_perm r).cons x)
theorem ordC_sorted : ∀ {l : List C}, (l.map C.key).Nodup → (ordC l).Pairwise BefC
  | [], _ => List.Pairwise.nil
  | x :: r, h => by
    rw [List.map_cons, List.nodup_cons] at h
    exact insC_sorted (ordC_sorted h.2) (fun y hy e => h.1 (e ▸ List.mem_map_of_mem ((ordC_perm r).mem_iff.1 hy)))
theorem sorted_eq {A B : List C} (hp : A.Perm B) (hA : A.Pairwise BefC) (hB : B.Pairwise BefC) : A = B :=
  hp.eq_of_pairwise (fun _ _ _ _ h1 h2 => absurd (h1.trans h2) (fun h => h.irrefl)) hA hB
theorem ordC_of_perm {A B : List C} (hp : A.Perm B) (hA : (A.map C.key).Nodup) : ordC A = ordC B :=
  sorted_eq (((ordC_perm A).trans hp).trans (ordC_perm B).symm) (ordC_sorted hA) (ordC_sorted ((hp.map C.key).nodup_iff.1 hA))
theorem ordC_of_sorted {A B : List C} (hp : A.Perm B) (hA : A.Pairwise BefC) (hk : (A.map C.key).Nodup) : A = ordC B :=
  sorted_eq (hp.trans (ordC_perm B).symm) hA (ordC_sorted ((hp.map C.key).nodup_iff.1 hk))

/-- The sum of the upper bounds. -/
def sumH : List C → Int
  | [] => 0
  | x :: r => x.hi + sumH r
theorem sumH_append : ∀ a b : List C, sumH (a ++ b) = sumH a + sumH b
  | [], b => by simp [sumH]
  | x :: r, b => by simp only [List.cons_append, sumH]; rw [sumH_append r b]; omega
theorem sumH_perm {A B : List C} (h : A.Perm B) : sumH A = sumH B := by
  induction h with
  | nil => rfl
  | cons x _ ih => simp only [sumH]; rw [ih]
  | swap x y l => simp only [sumH]; omega
  | trans _ _ ih1 ih2 => rw [ih1, ih2]
theorem sumH_nonneg : ∀ {L : List C}, (∀ x ∈ L, 0 ≤ x.hi) → 0 ≤ sumH L
  | [], _ => by simp [sumH]
  | x :: r, h => by simp only [sumH]; have := h x (by simp); have := sumH_nonneg (L := r) (fun y hy => h y (by simp [hy])); omega
theorem sumH_mem {L : List C} (h : ∀ x ∈ L, 0 ≤ x.hi) {x : C} (hx : x ∈ L) : x.hi ≤ sumH L := by
  obtain ⟨X, Y, rfl⟩ := List.append_of_mem hx
  have h1 := sumH_nonneg (L := X) (fun y hy => h y (by simp [hy]))
  have h2 := sumH_nonneg (L := Y) (fun y hy => h y (by simp [hy]))
  rw [sumH_append]; simp only [sumH]; omega

/-- Without the counter of a key. -/
def delC (L : List C) (key : ByteArray) : List C := L.filter (fun x => decide (x.key ≠ key))
theorem mem_delC {L : List C} {key : ByteArray} {x : C} : x ∈ delC L key ↔ x ∈ L ∧ x.key ≠ key := by unfold delC; simp
theorem delC_keys {L : List C} (h : (L.map C.key).Nodup) (key : ByteArray) : ((delC L key).map C.key).Nodup := h.sublist ((List.filter_sublist).map _)
theorem delC_none {L : List C} {key : ByteArray} (h : atC L key = none) : delC L key = L := by
  unfold delC
  rw [List.filter_eq_self]
  intro x hx
  simpa using atC_none h x hx
theorem atC_of_mem {L : List C} (h : (L.map C.key).Nodup) {x : C} (hx : x ∈ L) : atC L x.key = some x := by
  cases e : atC L x.key with
  | none => exact absurd rfl (atC_none e x hx)
  | some y =>
    obtain ⟨h1, h2⟩ := atC_some e
    obtain ⟨i, hi⟩ := List.mem_iff_getElem?.1 hx
    obtain ⟨j, hj⟩ := List.mem_iff_getElem?.1 h1
    have := nodup_idx h hi hj h2.symm
    subst this
    rw [hi] at hj; exact hj.symm
theorem atC_perm {A B : List C} (hp : A.Perm B) (h : (A.map C.key).Nodup) (key : ByteArray) : atC A key = atC B key := by
  have hB := (hp.map C.key).nodup_iff.1 h
  cases e : atC B key with
  | none =>
    cases e2 : atC A key with
    | none => rfl
    | some y => obtain ⟨h1, h2⟩ := atC_some e2; exact absurd h2 (atC_none e y (hp.mem_iff.1 h1))
  | some y => obtain ⟨h1, h2⟩ := atC_some e; rw [← h2]; exact atC_of_mem h (hp.mem_iff.2 h1)
theorem delC_split {L : List C} (h : (L.map C.key).Nodup) {x : C} (hx : x ∈ L) : L.Perm (x :: delC L x.key) := by
  obtain ⟨X, Y, rfl⟩ := List.append_of_mem hx
  have e : delC (X ++ x :: Y) x.key = X ++ Y := by
    rw [List.map_append, List.map_cons, List.nodup_append, List.nodup_cons] at h
    unfold delC
    rw [List.filter_append, List.filter_cons]
    rw [List.filter_eq_self.2 (fun y hy => by simpa using fun e : y.key = x.key => h.2.2 y.key (List.mem_map_of_mem hy) x.key (by simp) e), List.filter_eq_self.2 (fun y hy => by simpa using fun e : y.key = x.key => h.2.1.1 (e ▸ List.mem_map_of_mem hy))]
    simp
  rw [e]
  exact List.perm_middle
theorem sumH_del {L : List C} (h : (L.map C.key).Nodup) (key : ByteArray) : sumH (delC L key) = sumH L - hiOf L key := by
  unfold hiOf
  cases e : atC L key with
  | none => rw [delC_none e]; simp
  | some x =>
    obtain ⟨h1, h2⟩ := atC_some e
    have := sumH_perm (delC_split h h1)
    rw [h2] at this
    simp only [sumH] at this
    simp only []
    omega
theorem len_del {L : List C} (h : (L.map C.key).Nodup) {x : C} (hx : x ∈ L) : L.length = (delC L x.key).length + 1 := by
  have := (delC_split h hx).length_eq
  simpa using this

/-- With new bounds of a key. -/
def putC (L : List C) (x : C) : List C := x :: delC L x.key
theorem putC_keys {L : List C} (h : (L.map C.key).Nodup) (x : C) : ((putC L x).map C.key).Nodup := by
  unfold putC
  rw [List.map_cons, List.nodup_cons]
  refine ⟨fun hm => ?_, delC_keys h _⟩
  obtain ⟨y, hy, e⟩ := List.mem_map.1 hm
  exact (mem_delC.1 hy).2 e
theorem sumH_put {L : List C} (h : (L.map C.key).Nodup) (x : C) : sumH (putC L x) = sumH L + (x.hi - hiOf L x.key) := by
  unfold putC
  simp only [sumH]
  rw [sumH_del h]; omega

theorem hiOf_mem {L : List C} (h : (L.map C.key).Nodup) {x : C} (hx : x ∈ L) : hiOf L x.key = x.hi := by unfold hiOf; rw [atC_of_mem h hx]
theorem loOf_mem {L : List C} (h : (L.map C.key).Nodup) {x : C} (hx : x ∈ L) : loOf L x.key = x.lo := by unfold loOf; rw [atC_of_mem h hx]
theorem bef_iff {L : List C} (h : (L.map C.key).Nodup) {x y : C} (hx : x ∈ L) (hy : y ∈ L) : Bef L x.key y.key ↔ BefC x y := by
  unfold Bef BefC
  rw [hiOf_mem h hx, hiOf_mem h hy, ByteArray.toList_eq, ByteArray.toList_eq]

/-- The last one. -/
theorem isLast_eq {L : List C} (h : (L.map C.key).Nodup) (hs : L.Pairwise BefC) {out : ByteArray} (hl : IsLast L L out) : ∃ x, L.getLast? = some x ∧ x.key = out := by
  obtain ⟨hm, hb⟩ := hl
  obtain ⟨y, hy, rfl⟩ := List.mem_map.1 hm
  obtain ⟨X, x, rfl⟩ : ∃ X x, L = X ++ [x] := by
    rcases List.eq_nil_or_concat L with rfl | ⟨X, x, e⟩
    · cases hy
    · exact ⟨X, x, by simpa using e⟩
  refine ⟨x, by simp, ?_⟩
  rcases List.mem_append.1 hy with hy' | hy'
  · have h1 : BefC y x := (List.pairwise_append.1 hs).2.2 y hy' x (by simp)
    have h2 := hb x (by simp)
    have h3 := cmpK_pos.2 ((bef_iff h hy (show x ∈ X ++ [x] by simp)).2 h1)
    omega
  · rw [List.mem_singleton] at hy'; rw [hy']

/-- What holds of a sketch's counters. -/
structure OkL (cap : Nat) (L : List C) : Prop where
  cap1 : 1 ≤ cap
  cap64 : cap ≤ 64
  len : L.length ≤ cap
  sorted : L.Pairwise BefC
  keys : (L.map C.key).Nodup
  ks : ∀ x ∈ L, x.key.size ≤ maxLen
  pos : ∀ x ∈ L, 0 ≤ x.lo ∧ x.lo ≤ x.hi ∧ 1 ≤ x.hi
  sum : sumH L ≤ 4611686018427387903

theorem OkL.nil {cap : Nat} (h1 : 1 ≤ cap) (h2 : cap ≤ 64) : OkL cap [] := ⟨h1, h2, by simp, List.Pairwise.nil, by simp, by simp, by simp, by simp [sumH]⟩
theorem OkL.mem {cap : Nat} {L : List C} (h : OkL cap L) {x : C} (hx : x ∈ L) : x.hi ≤ sumH L := sumH_mem (fun y hy => by have := h.pos y hy; omega) hx
theorem OkL.hi0 {cap : Nat} {L : List C} (h : OkL cap L) (key : ByteArray) : 0 ≤ hiOf L key ∧ hiOf L key ≤ sumH L ∧ 0 ≤ loOf L key ∧ loOf L key ≤ hiOf L key := by
  have h0 := sumH_nonneg (L := L) (fun y hy => by have := h.pos y hy; omega)
  unfold hiOf loOf
  cases e : atC L key with
  | none => exact ⟨by simp, h0, by simp, by simp⟩
  | some x =>
    obtain ⟨h1, _⟩ := atC_some e
    have := h.pos x h1
    have := h.mem h1
    exact ⟨by simp only []; omega, this, by simp only []; omega, by simp only []; omega⟩

/-- The least count. -/
def leastC (cap : Nat) (L : List C) : Int := if L.length < cap then 0 else match L.getLast? with | none => 0 | some x => x.hi

theorem OkL.least {cap : Nat} {L : List C} (h : OkL cap L) : 0 ≤ leastC cap L ∧ leastC cap L ≤ sumH L := by
  have h0 := sumH_nonneg (L := L) (fun y hy => by have := h.pos y hy; omega)
  unfold leastC
  split
  · exact ⟨by omega, h0⟩
  · cases e : L.getLast? with
    | none => exact ⟨by simp, h0⟩
    | some x =>
      have hx := List.mem_of_getLast? e
      have := h.pos x hx
      exact ⟨by simp only []; omega, h.mem hx⟩

/-- Add. -/
def addC (cap : Nat) (L : List C) (key : ByteArray) (n : Int) : List C :=
  match atC L key with
  | some x => insC ⟨key, x.lo + n, x.hi + n⟩ (delC L key)
  | none => if L.length = cap then insC ⟨key, n, leastC cap L + n⟩ L.dropLast else insC ⟨key, n, n⟩ L

theorem OkL.ins {cap : Nat} {L : List C} {x : C} (h1 : 1 ≤ cap) (h2 : cap ≤ 64) (hl : L.length + 1 ≤ cap) (hs : L.Pairwise BefC) (hk : (L.map C.key).Nodup) (hks : ∀ y ∈ L, y.key.size ≤ maxLen) (hp : ∀ y ∈ L, 0 ≤ y.lo ∧ y.lo ≤ y.hi ∧ 1 ≤ y.hi)
    (hx : x.key.size ≤ maxLen) (hxp : 0 ≤ x.lo ∧ x.lo ≤ x.hi ∧ 1 ≤ x.hi) (hne : ∀ y ∈ L, y.key ≠ x.key) (hsum : x.hi + sumH L ≤ 4611686018427387903) : OkL cap (insC x L) := by
  have hp' := insC_perm x L
  refine ⟨h1, h2, by rw [hp'.length_eq]; simpa using hl, insC_sorted hs hne, ?_, ?_, ?_, by rw [sumH_perm hp']; simpa [sumH] using hsum⟩
  · rw [(hp'.map C.key).nodup_iff, List.map_cons, List.nodup_cons]
    exact ⟨fun hm => by obtain ⟨y, hy, e⟩ := List.mem_map.1 hm; exact hne y hy e, hk⟩
  · intro y hy
    rcases List.mem_cons.1 (hp'.mem_iff.1 hy) with rfl | hy
    · exact hx
    · exact hks y hy
  · intro y hy
    rcases List.mem_cons.1 (hp'.mem_iff.1 hy) with rfl | hy
    · exact hxp
    · exact hp y hy

theorem sumH_dropLast {L : List C} {x : C} (e : L.getLast? = some x) : sumH L.dropLast + x.hi = sumH L := by
  obtain ⟨X, rfl⟩ := List.getLast?_eq_some_iff.1 e
  rw [List.dropLast_concat, sumH_append]
  simp [sumH]

theorem addC_sum {cap : Nat} {L : List C} (h : OkL cap L) (key : ByteArray) (n : Int) : sumH (addC cap L key n) = sumH L + n := by
  unfold addC
  cases e : atC L key with
  | some x =>
    obtain ⟨h1, h2⟩ := atC_some e
    simp only []
    rw [sumH_perm (insC_perm _ _)]
    have := sumH_perm (delC_split h.keys h1)
    rw [h2] at this
    simp only [sumH] at this ⊢
    omega
  | none =>
    simp only []
    split
    · rename_i hl
      rw [sumH_perm (insC_perm _ _)]
      simp only [sumH]
      unfold leastC
      rw [if_neg (by omega)]
      cases e2 : L.getLast? with
      | none =>
        rw [List.getLast?_eq_none_iff] at e2
        have := h.cap1
        rw [e2] at hl; simp at hl; omega
      | some x =>
        have := sumH_dropLast e2
        simp only []
        omega
    · rw [sumH_perm (insC_perm _ _)]
      simp only [sumH]
      omega

theorem addC_ok {cap : Nat} {L : List C} (h : OkL cap L) {key : ByteArray} {n : Int} (hk : key.size ≤ maxLen) (hn : 1 ≤ n) (hs : sumH L + n ≤ 4611686018427387903) : OkL cap (addC cap L key n) := by
  have hsum := addC_sum h key n
  have hl0 := h.least
  unfold addC at hsum ⊢
  cases e : atC L key with
  | some x =>
    rw [e] at hsum
    obtain ⟨h1, h2⟩ := atC_some e
    simp only [] at hsum ⊢
    rw [sumH_perm (insC_perm _ _)] at hsum
    simp only [sumH] at hsum
    have hp := h.pos x h1
    have hlen := len_del h.keys h1
    rw [h2] at hlen
    have := h.len
    exact OkL.ins h.cap1 h.cap64 (by omega) (h.sorted.sublist List.filter_sublist) (delC_keys h.keys _) (fun y hy => h.ks y (mem_delC.1 hy).1) (fun y hy => h.pos y (mem_delC.1 hy).1) hk ⟨by simp only []; omega, by simp only []; omega, by simp only []; omega⟩ (fun y hy => (mem_delC.1 hy).2) (by simp only []; omega)
  | none =>
    rw [e] at hsum
    simp only [] at hsum ⊢
    have hne := atC_none e
    split
    · rename_i hl
      rw [if_pos hl, sumH_perm (insC_perm _ _)] at hsum
      simp only [sumH] at hsum
      have hsub : L.dropLast.Sublist L := List.dropLast_sublist L
      have := h.cap1
      exact OkL.ins h.cap1 h.cap64 (by rw [List.length_dropLast]; omega) (h.sorted.sublist hsub) (h.keys.sublist (hsub.map _)) (fun y hy => h.ks y (hsub.mem hy)) (fun y hy => h.pos y (hsub.mem hy)) hk ⟨by simp only []; omega, by simp only []; omega, by simp only []; omega⟩ (fun y hy => hne y (hsub.mem hy)) (by simp only []; omega)
    · rename_i hl
      rw [if_neg hl, sumH_perm (insC_perm _ _)] at hsum
      simp only [sumH] at hsum
      have := h.len
      exact OkL.ins h.cap1 h.cap64 (by omega) h.sorted h.keys h.ks h.pos hk ⟨by simp only []; omega, by simp only []; omega, by simp only []; omega⟩ hne (by simp only []; omega)

/-- Halve. -/
def halfC (x : C) : C := ⟨x.key, x.lo / 2, (x.hi + 1) / 2⟩
def halveC (L : List C) : List C := ordC (L.map halfC)
theorem half_keys (L : List C) : (L.map halfC).map C.key = L.map C.key := by rw [List.map_map]; rfl
theorem sumH_half : ∀ {L : List C}, (∀ x ∈ L, 1 ≤ x.hi) → sumH (L.map halfC) ≤ sumH L
  | [], _ => by simp [sumH]
  | x :: r, h => by
    simp only [List.map_cons, sumH, halfC]
    have := h x (by simp)
    have h2 := sumH_half (L := r) (fun y hy => h y (by simp [hy]))
    omega
theorem halveC_ok {cap : Nat} {L : List C} (h : OkL cap L) : OkL cap (halveC L) := by
  have hp := ordC_perm (L.map halfC)
  have hkk : ((L.map halfC).map C.key).Nodup := by rw [half_keys]; exact h.keys
  refine ⟨h.cap1, h.cap64, by unfold halveC; rw [hp.length_eq, List.length_map]; exact h.len, ordC_sorted hkk, (hp.map C.key).nodup_iff.2 hkk, ?_, ?_, ?_⟩
  · intro y hy
    obtain ⟨x, hx, rfl⟩ := List.mem_map.1 (hp.mem_iff.1 hy)
    exact h.ks x hx
  · intro y hy
    obtain ⟨x, hx, rfl⟩ := List.mem_map.1 (hp.mem_iff.1 hy)
    have := h.pos x hx
    show 0 ≤ x.lo / 2 ∧ x.lo / 2 ≤ (x.hi + 1) / 2 ∧ 1 ≤ (x.hi + 1) / 2
    omega
  · unfold halveC
    rw [sumH_perm hp]
    have := sumH_half (L := L) (fun x hx => by have := h.pos x hx; omega)
    have := h.sum
    omega
end Go.Proofs.Ytogkkghliogpeaa
