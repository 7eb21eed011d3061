/-
  Exact counts of the ten keys; lists of uses.
-/
import Derived.Test.YtogkkghliogpeaaK1
namespace Go.Proofs.Ytogkkghliogpeaa
open Go.RowKit

theorem Exact.add' {cap : Nat} {L : List C} {c : ByteArray → Int} (h : Exact L c) (_ok : OkL cap L) (h0 : ∀ k, 0 ≤ c k) {key : ByteArray} {n : Int} (hn : 1 ≤ n) (hl : atC L key = none → L.length < cap) : Exact (addC cap L key n) (plus c key n) := by
  intro x
  have hlh := h.lo h0 key
  unfold addC plus
  cases e : atC L key with
  | some y =>
    obtain ⟨hy, hyk⟩ := atC_some e
    have hy2 := (h y).1 hy
    rw [hyk] at hy2
    simp only []
    rw [(insC_perm _ _).mem_iff, List.mem_cons, mem_delC, h x]
    by_cases hx : x.key = key
    · rw [if_pos hx, hx]
      have := h0 key
      constructor
      · rintro (rfl | ⟨_, hh⟩)
        · exact ⟨by omega, by simp only []; omega, by simp only []; omega⟩
        · exact absurd rfl hh
      · rintro ⟨_, a2, a3⟩
        exact .inl (C.ext' hx (by simp only []; omega) (by simp only []; omega))
    · rw [if_neg hx]
      constructor
      · rintro (rfl | ⟨hh, _⟩)
        · exact absurd rfl hx
        · exact hh
      · intro hh
        exact .inr ⟨hh, hx⟩
  | none =>
    have hl' := hl e
    have hc : c key = 0 := by rw [← hlh.1]; unfold loOf; rw [e]
    simp only []
    rw [if_neg (by omega), (insC_perm _ _).mem_iff, List.mem_cons, h x]
    by_cases hx : x.key = key
    · rw [if_pos hx, hx]
      constructor
      · rintro (rfl | ⟨hh, _⟩)
        · exact ⟨by omega, by simp only []; omega, by simp only []; omega⟩
        · omega
      · rintro ⟨_, a2, a3⟩
        exact .inl (C.ext' hx (by simp only []; omega) (by simp only []; omega))
    · rw [if_neg hx]
      constructor
      · rintro (rfl | hh)
        · exact absurd rfl hx
        · exact hh
      · intro hh
        exact .inr hh

/-- With a key of the ten that has no counter there is room. -/
theorem Named.room {L : List C} (h : Named L) (hk : (L.map C.key).Nodup) {key : ByteArray} (hn : key ∈ nms) (e : atC L key = none) : L.length + 1 ≤ 10 := by
  have hne := atC_none e
  have := sub_length (A := key :: L.map C.key) (B := nms) (List.nodup_cons.2 ⟨fun hm => by obtain ⟨x, hx, e⟩ := List.mem_map.1 hm; exact hne x hx e, hk⟩) (fun k hk => by
    rcases List.mem_cons.1 hk with rfl | hk
    · exact hn
    · obtain ⟨x, hx, rfl⟩ := List.mem_map.1 hk; exact h x hx)
  have h2 : nms.length = 10 := rfl
  simp only [List.length_cons, List.length_map] at this
  omega

theorem Ex.add' {cap : Nat} {L : List C} {c : ByteArray → Int} {B n : Int} (h : Ex L c B) (ok : OkL cap L) (hc : 10 ≤ cap) {key : ByteArray} (hk : key ∈ nms) (hn : 1 ≤ n) (hn2 : n ≤ 1000) : Ex (addC cap L key n) (plus c key n) (B + 1000) :=
  ⟨h.ex.add' ok h.nn hn (fun e => by have := h.nm.room ok.keys hk e; omega), fun k => by unfold plus; have := h.nn k; split <;> omega, h.nm.add hk, by rw [addC_sum ok]; have := h.sm; omega⟩

/-- What uses add up to. -/
def cnts : List (ByteArray × Int) → ByteArray → Int
  | [], _ => 0
  | p :: r, k => (if k = p.1 then p.2 else 0) + cnts r k
theorem cnts_append (a b : List (ByteArray × Int)) (k : ByteArray) : cnts (a ++ b) k = cnts a k + cnts b k := by
  induction a with
  | nil => simp [cnts]
  | cons p r ih => simp only [List.cons_append, cnts, ih]; omega
theorem cnts_reverse (a : List (ByteArray × Int)) (k : ByteArray) : cnts a.reverse k = cnts a k := by
  induction a with
  | nil => rfl
  | cons p r ih => rw [List.reverse_cons, cnts_append, ih]; simp only [cnts]; omega
theorem cnts_snoc (a : List (ByteArray × Int)) (key : ByteArray) (n : Int) (k : ByteArray) : cnts (a ++ [(key, n)]) k = plus (cnts a) key n k := by
  rw [cnts_append]
  unfold plus
  simp only [cnts]
  split <;> omega

theorem getV_exact {L : List C} {c : ByteArray → Int} (h : Exact L c) (h0 : ∀ k, 0 ≤ c k) (key : ByteArray) :
    (0 < c key ∧ getV L key = .tuple #[ctrV key (c key) 0, .bool true]) ∨ (c key = 0 ∧ getV L key = .tuple #[ctrV ⟨#[]⟩ 0 0, .bool false]) := by
  unfold getV
  cases e : atC L key with
  | some x =>
    obtain ⟨hx, hk⟩ := atC_some e
    have := (h x).1 hx
    rw [hk] at this
    left
    refine ⟨this.1, ?_⟩
    simp only []
    rw [this.2.1, this.2.2, Int.sub_self]
  | none =>
    right
    have := (h.lo h0 key).1
    unfold loOf at this
    rw [e] at this
    exact ⟨this.symm, rfl⟩

theorem Fam.keepA {w W W' : World} {l : List SE} {A : Nat → Prop} (h : Fam w W l) (k : Keep A W W') (h1 : ∀ e ∈ l, ¬ A e.s ∧ ¬ A e.bm) (h2 : ∀ i, A i → w.heap.size ≤ i) : Fam w W' l :=
  ⟨h.k.trans' k (fun i hi => .inr (h2 i hi)), fun e he => ⟨(h.sk e he).1.keep k (h1 e he).1 (h1 e he).2, (h.sk e he).2⟩, h.ds, h.db⟩

theorem nms_inj {i j : Nat} {k : ByteArray} (h1 : nms[i]? = some k) (h2 : nms[j]? = some k) : i = j := by
  have hn : nms.Nodup := by decide
  exact (List.getElem?_inj (List.getElem?_eq_some_iff.1 h1).1 hn).1 (h1.trans h2.symm)

/-- The numbers of the ten keys lie in the array at xb. -/
def ArrIs (W : World) (xb : Nat) (c : ByteArray → Int) : Prop := ∀ m key, nms[m]? = some key → W.cell? ⟨xb, m, none⟩ = some (.int .i64 (c key)) ∧ W.frozen? ⟨xb, m, none⟩ = false
theorem ArrIs.keep {W W' : World} {xb : Nat} {c : ByteArray → Int} {A : Nat → Prop} (h : ArrIs W xb c) (k : Keep A W W') (hA : ¬ A xb) : ArrIs W' xb c := fun m key hm =>
  ⟨k.cell (h m key hm).1 hA, (k.frozen (World.block_lt_of_cell? _ _ (h m key hm).1) hA m).trans (h m key hm).2⟩
theorem ArrIs.set {W : World} {xb t : Nat} {c : ByteArray → Int} {key : ByteArray} (h : ArrIs W xb c) (ht : nms[t]? = some key) (n : Int) : ArrIs (W.setCell ⟨xb, t, none⟩ (.int .i64 (c key + n))) xb (plus c key n) := fun m k hm => by
  unfold plus
  refine ⟨?_, by rw [World.frozen?_setCell]; exact (h m k hm).2⟩
  by_cases hk : k = key
  · subst hk
    have := nms_inj ht hm
    subst this
    rw [if_pos rfl]
    exact cell_set_same (h t k hm).1
  · rw [if_neg hk, cell_set_off (fun e => hk (by subst e; rw [ht] at hm; exact (Option.some.inj hm).symm))]
    exact (h m k hm).1
theorem ArrIs.congr {W : World} {xb : Nat} {c d : ByteArray → Int} (h : ArrIs W xb c) (e : ∀ k, d k = c k) : ArrIs W xb d := fun m key hm => by rw [e]; exact h m key hm

/-- A use: a key of the ten, and a number. -/
def useOf (f : Nat → Nat → Int) (j : Nat) : ByteArray × Int := (nms.getD (pk (f j 1) 10).toNat ⟨#[]⟩, 1 + pk (f j 2) 1000)
def usesOf (f : Nat → Nat → Int) (N : Nat) : List (ByteArray × Int) := (List.range N).map (useOf f)
theorem usesOf_succ (f : Nat → Nat → Int) (i : Nat) : usesOf f (i + 1) = usesOf f i ++ [useOf f i] := by unfold usesOf; rw [List.range_succ, List.map_append]; rfl
/-- The same from the end. -/
def backOf (f : Nat → Nat → Int) (N i : Nat) : List (ByteArray × Int) := (List.range i).map (fun j => useOf f (N - 1 - j))
theorem backOf_succ (f : Nat → Nat → Int) (N i : Nat) : backOf f N (i + 1) = backOf f N i ++ [useOf f (N - 1 - i)] := by unfold backOf; rw [List.range_succ, List.map_append]; rfl
theorem backOf_all (f : Nat → Nat → Int) (N : Nat) (k : ByteArray) : cnts (backOf f N N) k = cnts (usesOf f N) k := by
  have e : backOf f N N = (usesOf f N).reverse := by
    unfold backOf usesOf
    apply List.ext_getElem?
    intro i
    by_cases hi : i < N
    · rw [List.getElem?_reverse (by simpa using hi)]
      simp only [List.getElem?_map, List.length_map, List.length_range]
      rw [List.getElem?_range hi, List.getElem?_range (by omega)]
      simp
    · rw [List.getElem?_eq_none (by simp; omega), List.getElem?_eq_none (by simp; omega)]
  rw [e, cnts_reverse]
end Go.Proofs.Ytogkkghliogpeaa
