/-
  Exact counts: as long as a sketch is not full, its counters are the numbers of uses.
-/
import Derived.Test.YtogkkghliogpeaaF2
namespace Go.Proofs.Ytogkkghliogpeaa
open Go.RowKit

theorem C.ext' {x y : C} (h1 : x.key = y.key) (h2 : x.lo = y.lo) (h3 : x.hi = y.hi) : x = y := by
  cases x; cases y
  simp only [C.mk.injEq] at *
  exact ⟨h1, h2, h3⟩

/-- The keys are of the ten. -/
def Named (L : List C) : Prop := ∀ x ∈ L, x.key ∈ nms
theorem nms_len : nms.length = 10 := rfl
theorem Named.len {L : List C} (h : Named L) (hk : (L.map C.key).Nodup) : L.length ≤ 10 := by
  have := sub_length hk (fun k hk => by obtain ⟨x, hx, rfl⟩ := List.mem_map.1 hk; exact h x hx)
  rw [List.length_map] at this
  exact this
theorem Named.union {L L' : List C} (h : Named L) (h' : Named L') (hk : (L.map C.key).Nodup) (hk' : (L'.map C.key).Nodup) : (unionK L L').length ≤ 10 := by
  refine sub_length (B := nms) (unionK_nodup hk hk') (fun k hk => ?_)
  rcases mem_unionK.1 hk with h1 | h1
  · obtain ⟨x, hx, rfl⟩ := List.mem_map.1 h1; exact h x hx
  · obtain ⟨x, hx, rfl⟩ := List.mem_map.1 h1; exact h' x hx
theorem mem_addC {cap : Nat} {L : List C} {key : ByteArray} {n : Int} {x : C} (hx : x ∈ addC cap L key n) : x.key = key ∨ x ∈ L := by
  unfold addC at hx
  cases e : atC L key with
  | some y =>
    rw [e] at hx
    rcases List.mem_cons.1 ((insC_perm _ _).mem_iff.1 hx) with rfl | hx
    · exact .inl rfl
    · exact .inr (mem_delC.1 hx).1
  | none =>
    rw [e] at hx
    simp only [] at hx
    split at hx
    · rcases List.mem_cons.1 ((insC_perm _ _).mem_iff.1 hx) with rfl | hx
      · exact .inl rfl
      · exact .inr ((List.dropLast_sublist L).mem hx)
    · rcases List.mem_cons.1 ((insC_perm _ _).mem_iff.1 hx) with rfl | hx
      · exact .inl rfl
      · exact .inr hx
theorem Named.add {cap : Nat} {L : List C} {key : ByteArray} {n : Int} (h : Named L) (hk : key ∈ nms) : Named (addC cap L key n) := fun x hx => by
  rcases mem_addC hx with e | e
  · rw [e]; exact hk
  · exact h x e
theorem Named.halve {L : List C} (h : Named L) : Named (halveC L) := fun x hx => by
  obtain ⟨y, hy, rfl⟩ := List.mem_map.1 ((ordC_perm _).mem_iff.1 hx)
  exact h y hy
theorem Named.merge {cap cap' : Nat} {L L' : List C} (h : Named L) (h' : Named L') : Named (mergeC cap L cap' L') := fun x hx => by
  have := (Mrg.join_mem (List.mem_of_mem_take hx)).1
  rcases mem_unionK.1 this with h1 | h1
  · obtain ⟨y, hy, e⟩ := List.mem_map.1 h1; rw [← e]; exact h y hy
  · obtain ⟨y, hy, e⟩ := List.mem_map.1 h1; rw [← e]; exact h' y hy

/-- The counters are just these numbers. -/
def Exact (L : List C) (c : ByteArray → Int) : Prop := ∀ x, x ∈ L ↔ (0 < c x.key ∧ x.lo = c x.key ∧ x.hi = c x.key)
theorem exact_eq {L M : List C} {c : ByteArray → Int} (hL : (L.map C.key).Nodup) (hM : (M.map C.key).Nodup) (sL : L.Pairwise BefC) (sM : M.Pairwise BefC) (h1 : Exact L c) (h2 : Exact M c) : L = M :=
  sorted_eq (perm_of_mem (nodup_of_keys hL) (nodup_of_keys hM) (fun x => (h1 x).trans (h2 x).symm)) sL sM
theorem Exact.nil : Exact [] (fun _ => 0) := fun x => by simp
theorem Exact.congr {L : List C} {c d : ByteArray → Int} (h : Exact L c) (e : ∀ k, d k = c k) : Exact L d := fun x => by rw [e]; exact h x
theorem Exact.lo {L : List C} {c : ByteArray → Int} (h : Exact L c) (h0 : ∀ k, 0 ≤ c k) (k : ByteArray) : loOf L k = c k ∧ hiOf L k = c k := by
  unfold loOf hiOf
  cases e : atC L k with
  | some x =>
    obtain ⟨hx, rfl⟩ := atC_some e
    exact (h x).1 hx |>.2
  | none =>
    have hn := atC_none e
    have : ¬ 0 < c k := fun hp => hn ⟨k, c k, c k⟩ ((h ⟨k, c k, c k⟩).2 ⟨hp, rfl, rfl⟩) rfl
    have := h0 k
    simp only []
    omega

def plus (c : ByteArray → Int) (key : ByteArray) (n : Int) : ByteArray → Int := fun k => if k = key then c k + n else c k

theorem Exact.add {cap : Nat} {L : List C} {c : ByteArray → Int} (h : Exact L c) (_ok : OkL cap L) (h0 : ∀ k, 0 ≤ c k) {key : ByteArray} {n : Int} (hn : 1 ≤ n) (hl : L.length < cap) : Exact (addC cap L key n) (plus c key n) := by
  intro x
  have hlh := h.lo h0 key
  unfold addC plus
  cases e : atC L key with
  | some y =>
    obtain ⟨hy, hyk⟩ := atC_some e
    have hy2 := (h y).1 hy
    rw [hyk] at hy2
    simp only []
    rw [(insC_perm _ _).mem_iff, List.mem_cons, mem_delC, h x]
    by_cases hx : x.key = key
    · rw [if_pos hx, hx]
      have := h0 key
      constructor
      · rintro (rfl | ⟨_, hh⟩)
        · exact ⟨by omega, by simp only []; omega, by simp only []; omega⟩
        · exact absurd rfl hh
      · rintro ⟨_, a2, a3⟩
        exact .inl (C.ext' hx (by simp only []; omega) (by simp only []; omega))
    · rw [if_neg hx]
      constructor
      · rintro (rfl | ⟨hh, _⟩)
        · exact absurd rfl hx
        · exact hh
      · intro hh
        exact .inr ⟨hh, hx⟩
  | none =>
    have hc : c key = 0 := by rw [← hlh.1]; unfold loOf; rw [e]
    simp only []
    rw [if_neg (by omega), (insC_perm _ _).mem_iff, List.mem_cons, h x]
    by_cases hx : x.key = key
    · rw [if_pos hx, hx]
      constructor
      · rintro (rfl | ⟨hh, _⟩)
        · exact ⟨by omega, by simp only []; omega, by simp only []; omega⟩
        · omega
      · rintro ⟨_, a2, a3⟩
        exact .inl (C.ext' hx (by simp only []; omega) (by simp only []; omega))
    · rw [if_neg hx]
      constructor
      · rintro (rfl | hh)
        · exact absurd rfl hx
        · exact hh
      · intro hh
        exact .inr hh

theorem ofHi_exact {cap : Nat} {L : List C} {c : ByteArray → Int} (h : Exact L c) (h0 : ∀ k, 0 ≤ c k) (hl : L.length < cap) (k : ByteArray) : Ytogkkghliogpeaa.ofHi cap L k = c k := by
  have := (h.lo h0 k).2
  unfold hiOf at this
  unfold Ytogkkghliogpeaa.ofHi
  cases e : atC L k with
  | some x => rw [e] at this; exact this
  | none => rw [e] at this; simp only [] at this ⊢; unfold leastC; rw [if_pos hl]; exact this

theorem Exact.merge {cap : Nat} {L : List C} {cap' : Nat} {L' : List C} {c c' : ByteArray → Int} (m : Mrg cap L cap' L') (h : Exact L c) (h' : Exact L' c') (h0 : ∀ k, 0 ≤ c k) (h0' : ∀ k, 0 ≤ c' k) (hl : L.length < cap) (hl' : L'.length < cap') (hu : (unionK L L').length ≤ cap) :
    Exact (mergeC cap L cap' L') (fun k => c k + c' k) := by
  intro x
  have e : mergeC cap L cap' L' = joinC cap L cap' L' := by
    unfold mergeC
    rw [List.take_of_length_le]
    rw [(Mrg.join_perm cap L cap' L').length_eq, List.length_map]; exact hu
  have hb : ∀ k, bothC cap L cap' L' k = ⟨k, c k + c' k, c k + c' k⟩ := fun k => by
    unfold bothC
    rw [(h.lo h0 k).1, (h'.lo h0' k).1, ofHi_exact h h0 hl k, ofHi_exact h' h0' hl' k]
  rw [e, (Mrg.join_perm cap L cap' L').mem_iff, List.mem_map]
  constructor
  · rintro ⟨k, hk, rfl⟩
    have h1 := m.hi1 hk
    rw [hb k] at h1 ⊢
    simp only [] at h1 ⊢
    exact ⟨by omega, trivial, trivial⟩
  · rintro ⟨h1, h2, h3⟩
    have h1' : 0 < c x.key + c' x.key := h1
    refine ⟨x.key, ?_, ?_⟩
    · have a1 := h0 x.key
      have a2 := h0' x.key
      by_cases hc : 0 < c x.key
      · exact mem_unionK.2 (.inl (List.mem_map.2 ⟨⟨x.key, c x.key, c x.key⟩, (h ⟨x.key, c x.key, c x.key⟩).2 ⟨hc, rfl, rfl⟩, rfl⟩))
      · exact mem_unionK.2 (.inr (List.mem_map.2 ⟨⟨x.key, c' x.key, c' x.key⟩, (h' ⟨x.key, c' x.key, c' x.key⟩).2 ⟨by show 0 < c' x.key; omega, rfl, rfl⟩, rfl⟩))
    · rw [hb]
      exact C.ext' rfl h2.symm h3.symm

/-! ### several sketches -/
structure SE where
  s : Nat
  bm : Nat
  cap : Nat
  L : List C
/-- Sketches beside each other, all newer than w. -/
structure Fam (w W : World) (l : List SE) : Prop where
  k : Keep (fun _ => False) w W
  sk : ∀ e ∈ l, Sk W e.s e.bm e.cap e.L ∧ w.heap.size ≤ e.s ∧ w.heap.size ≤ e.bm
  ds : (l.map SE.s).Nodup
  db : (l.map SE.bm).Nodup
section
variable {w W W' : World} {l A B : List SE} {e : SE}
theorem Fam.nil (k : Keep (fun _ => False) w W) : Fam w W [] := ⟨k, by simp, by simp, by simp⟩
theorem Fam.keep (h : Fam w W l) (k : Keep (fun _ => False) W W') : Fam w W' l :=
  ⟨h.k.trans k, fun e he => ⟨(h.sk e he).1.keep k (fun h => h) (fun h => h), (h.sk e he).2⟩, h.ds, h.db⟩
theorem Fam.drewN (h : Fam w W l) (n : Nat) : Fam w (W.drewN n) l := h.keep ((Keep.refl _ W).drewN n)
theorem Fam.new (h : Fam w W l) {s bm cap : Nat} (hs : Sk W' s bm cap []) (k : Keep (fun _ => False) W W') (h1 : W.heap.size ≤ s) (h2 : W.heap.size ≤ bm) : Fam w W' (l ++ [⟨s, bm, cap, []⟩]) := by
  have hw := h.k.size
  refine ⟨h.k.trans k, fun e he => ?_, ?_, ?_⟩
  · rcases List.mem_append.1 he with he | he
    · exact (h.keep k).sk e he
    · rw [List.mem_singleton] at he
      subst he
      exact ⟨hs, by show w.heap.size ≤ s; omega, by show w.heap.size ≤ bm; omega⟩
  · rw [List.map_append, List.nodup_append]
    refine ⟨h.ds, by simp, fun a ha b hb e => ?_⟩
    obtain ⟨x, hx, rfl⟩ := List.mem_map.1 ha
    simp only [List.map_cons, List.map_nil, List.mem_singleton] at hb
    have := (h.sk x hx).1.at_.lt.1
    omega
  · rw [List.map_append, List.nodup_append]
    refine ⟨h.db, by simp, fun a ha b hb e => ?_⟩
    obtain ⟨x, hx, rfl⟩ := List.mem_map.1 ha
    simp only [List.map_cons, List.map_nil, List.mem_singleton] at hb
    have := (h.sk x hx).1.at_.lt.2
    omega
theorem Fam.at_ (h : Fam w W (A ++ e :: B)) : Sk W e.s e.bm e.cap e.L := (h.sk e (by simp)).1
theorem Fam.other (h : Fam w W (A ++ e :: B)) {x : SE} (hx : x ∈ A ++ B) : x.s ≠ e.s ∧ x.bm ≠ e.bm ∧ x.s ≠ e.bm ∧ x.bm ≠ e.s := by
  have hx' : x ∈ A ++ e :: B := by simp only [List.mem_append, List.mem_cons] at hx ⊢; rcases hx with h | h <;> simp [h]
  have hd := h.ds
  have hb := h.db
  have p1 : ((A ++ e :: B).map SE.s).Perm (e.s :: (A ++ B).map SE.s) := by simp
  have p2 : ((A ++ e :: B).map SE.bm).Perm (e.bm :: (A ++ B).map SE.bm) := by simp
  rw [p1.nodup_iff, List.nodup_cons] at hd
  rw [p2.nodup_iff, List.nodup_cons] at hb
  refine ⟨fun e' => hd.1 (e' ▸ List.mem_map_of_mem hx), fun e' => hb.1 (e' ▸ List.mem_map_of_mem hx), ?_, ?_⟩
  · exact h.at_.at_.map.not_cell (h.sk x hx').1.at_.c0
  · exact fun e' => (h.sk x hx').1.at_.map.not_cell h.at_.at_.c0 e'.symm
theorem Fam.upd (h : Fam w W (A ++ e :: B)) {M : List C} (k : Keep (fun k => k = e.s ∨ k = e.bm) W W') (n : Sk W' e.s e.bm e.cap M) : Fam w W' (A ++ ⟨e.s, e.bm, e.cap, M⟩ :: B) := by
  have he := (h.sk e (by simp)).2
  refine ⟨h.k.trans' k (fun i hi => .inr (by omega)), fun x hx => ?_, by simpa using h.ds, by simpa using h.db⟩
  rcases List.mem_append.1 hx with hx | hx
  · have ho := h.other (x := x) (by simp [hx])
    exact ⟨(h.sk x (by simp [hx])).1.keep k (fun e' => e'.elim ho.1 ho.2.2.1) (fun e' => e'.elim ho.2.2.2 ho.2.1), (h.sk x (by simp [hx])).2⟩
  · rcases List.mem_cons.1 hx with rfl | hx
    · exact ⟨n, he⟩
    · have ho := h.other (x := x) (by simp [hx])
      exact ⟨(h.sk x (by simp [hx])).1.keep k (fun e' => e'.elim ho.1 ho.2.2.1) (fun e' => e'.elim ho.2.2.2 ho.2.1), (h.sk x (by simp [hx])).2⟩
theorem Fam.merged (h : Fam w W (A ++ e :: B)) {M : List C} {bn : Nat} (k : Keep (fun k => k = e.s) W W') (n : Sk W' e.s bn e.cap M) (hb : W.heap.size ≤ bn) : Fam w W' (A ++ ⟨e.s, bn, e.cap, M⟩ :: B) := by
  have he := (h.sk e (by simp)).2
  have hw := h.k.size
  have ko : ∀ x ∈ A ++ B, Sk W' x.s x.bm x.cap x.L ∧ w.heap.size ≤ x.s ∧ w.heap.size ≤ x.bm := fun x hx => by
    have ho := h.other hx
    have hx' : x ∈ A ++ e :: B := by simp only [List.mem_append, List.mem_cons] at hx ⊢; rcases hx with h | h <;> simp [h]
    exact ⟨(h.sk x hx').1.keep k ho.1 ho.2.2.2, (h.sk x hx').2⟩
  refine ⟨h.k.trans' k (fun i hi => .inr (by omega)), fun x hx => ?_, by simpa using h.ds, ?_⟩
  · rcases List.mem_append.1 hx with hx | hx
    · exact ko x (by simp [hx])
    · rcases List.mem_cons.1 hx with rfl | hx
      · exact ⟨n, he.1, by show w.heap.size ≤ bn; omega⟩
      · exact ko x (by simp [hx])
  · have p2 : ((A ++ e :: B).map SE.bm).Perm (e.bm :: (A ++ B).map SE.bm) := by simp
    have p3 : ((A ++ (⟨e.s, bn, e.cap, M⟩ : SE) :: B).map SE.bm).Perm (bn :: (A ++ B).map SE.bm) := by simp
    have hd := h.db
    rw [p2.nodup_iff, List.nodup_cons] at hd
    rw [p3.nodup_iff, List.nodup_cons]
    refine ⟨fun hm => ?_, hd.2⟩
    obtain ⟨x, hx, e'⟩ := List.mem_map.1 hm
    have hx' : x ∈ A ++ e :: B := by simp only [List.mem_append, List.mem_cons] at hx ⊢; rcases hx with h | h <;> simp [h]
    have := (h.sk x hx').1.at_.lt.2
    omega
end
end Go.Proofs.Ytogkkghliogpeaa
