/-
  The rows of a store, kept in a map.
-/
import Derived.Test.YtmndjicaofciiaaGreatDoorH1
namespace Go.Proofs.YtmndjicaofciiaaGreatDoor
open Go.RowKit Go.Shelf

def idRel (l : List R5) (k v : Value) : Prop := ∃ r ∈ l, k = idV r.tb r.ky ∧ v = rowV r
theorem rowV_inj {r s : R5} (h : rowV r = rowV s) : r = s := by
  obtain ⟨a, b, c, d, e⟩ := r
  obtain ⟨a', b', c', d', e'⟩ := s
  simp at h
  obtain ⟨rfl, rfl, rfl, rfl, rfl⟩ := h
  rfl
theorem idV_inj {a b c d : Int} (h : idV a b = idV c d) : a = c ∧ b = d := by simpa using h
/-- A store at z, its map at mb: the rows l, the position p. -/
structure StA (W : World) (z mb : Nat) (l : List R5) (p : Int) : Prop where
  box : BoxL W z [.map (some mb), .int .i64 p]
  mp : MapRel Tryz.prog 65 W mb (idRel l)
  nd : (l.map R5.rid).Nodup
  fine : ∀ r ∈ l, r.fine
theorem StA.ne {W : World} {z mb : Nat} {l : List R5} {p : Int} (h : StA W z mb l p) : z ≠ mb := h.mp.not_cell (h.box.cell 0 _ rfl)
theorem StA.keep {A : Nat → Prop} {W W' : World} {z mb : Nat} {l : List R5} {p : Int} (h : StA W z mb l p) (k : Keep A W W') (h1 : ¬ A z) (h2 : ¬ A mb) : StA W' z mb l p :=
  ⟨h.box.keep k h1, h.mp.of_heap (k.block _ h.mp.lt h2), h.nd, h.fine⟩
theorem StA.kept {W W' : World} {z mb : Nat} {l : List R5} {p : Int} (h : StA W z mb l p) (k : Keep (fun _ => False) W W') : StA W' z mb l p := h.keep k (fun h => h) (fun h => h)
theorem StA.drew {W : World} {z mb : Nat} {l : List R5} {p : Int} (h : StA W z mb l p) : StA W.drew z mb l p := h.kept (Keep.refl _ W).drew
theorem zeroRow (w : World) : (zeroValue 37).run Tryz.prog w = .ok (rowV ⟨0, 0, 0, 0, 0⟩) w := by kernel_rfl
/-- What a store says of a key. -/
def lookV : Option R5 → Value
  | none => .tuple #[rowV ⟨0, 0, 0, 0, 0⟩, .bool false]
  | some r => .tuple #[rowV r, .bool true]
theorem StA.look {W : World} {z mb : Nat} {l : List R5} {p : Int} (h : StA W z mb l p) {t k : Int} (ht : I64 t) (hk : I64 k) :
    (Instr.lookup 59 (.map (some mb)) (idV t k) true).run Tryz.prog W = .ok (lookV (getR l t k)) W := by
  obtain ⟨kl, hkl⟩ := keyId ht hk
  rcases h.mp.look idKeyed Tryz.underlying59 (zeroRow W) true hkl with ⟨a, b⟩ | ⟨v, ⟨r, hr, e1, rfl⟩, b⟩
  · have e : getR l t k = none := by
      cases e : getR l t k with
      | none => rfl
      | some r =>
        obtain ⟨h1, h2, h3⟩ := getR_some e
        exact absurd ⟨r, h1, by rw [h2, h3], rfl⟩ (a (rowV r))
    rw [e]; exact b
  · obtain ⟨rfl, rfl⟩ := idV_inj e1
    rw [getR_of h.nd hr]; exact b
theorem StA.len {W : World} {z mb : Nat} {l : List R5} {p : Int} (h : StA W z mb l p) (ty : TypeId) : (Builtin.len_ #[59] ty #[.map (some mb)]).run Tryz.prog W = .ok (.int .i64 l.length) W := by
  obtain ⟨left, h1, h2, h3⟩ := h.mp.len Tryz.underlying59
  rw [h3]
  congr 3
  have hp : (left.map (·.1)).Perm (l.map (fun r => idV r.tb r.ky)) := by
    rw [List.perm_ext_iff_of_nodup h1]
    · intro k
      simp only [List.mem_map]
      constructor
      · rintro ⟨⟨k', v⟩, hm, rfl⟩
        obtain ⟨r, hr, e, _⟩ := (h2 _ _).1 hm
        exact ⟨r, hr, e.symm⟩
      · rintro ⟨r, hr, rfl⟩
        exact ⟨(idV r.tb r.ky, rowV r), (h2 _ _).2 ⟨r, hr, rfl, rfl⟩, rfl⟩
    · have h4 := h.nd
      rw [List.nodup_iff_pairwise_ne, List.pairwise_map] at h4 ⊢
      refine h4.imp ?_
      intro a b hne e
      obtain ⟨e1, e2⟩ := idV_inj e
      exact hne (by unfold R5.rid; rw [e1, e2])
  have := hp.length_eq
  simp only [List.length_map] at this
  rw [this]
/-- What a change leaves in the map. -/
theorem idRel_put {l : List R5} {c : Chg} (hc : c.has = true) (k v : Value) : idRel (stepR l c) k v ↔ (k = idV c.tb c.ky ∧ v = rowV c.new) ∨ (k ≠ idV c.tb c.ky ∧ idRel l k v) := by
  unfold idRel stepR
  rw [if_pos hc]
  constructor
  · rintro ⟨r, hr, rfl, rfl⟩
    rcases List.mem_append.1 hr with hr | hr
    · obtain ⟨h1, h2⟩ := List.mem_filter.1 hr
      refine .inr ⟨fun e => ?_, r, h1, rfl, rfl⟩
      obtain ⟨e1, e2⟩ := idV_inj e
      simp only [Bool.not_eq_true', decide_eq_false_iff_not] at h2
      exact h2 (by unfold R5.rid; rw [e1, e2])
    · rw [List.mem_singleton] at hr
      subst hr
      exact .inl ⟨rfl, rfl⟩
  · rintro (⟨rfl, rfl⟩ | ⟨hne, r, hr, rfl, rfl⟩)
    · exact ⟨c.new, List.mem_append.2 (.inr (List.mem_singleton.2 rfl)), rfl, rfl⟩
    · refine ⟨r, List.mem_append.2 (.inl (List.mem_filter.2 ⟨hr, ?_⟩)), rfl, rfl⟩
      simp only [Bool.not_eq_true', decide_eq_false_iff_not]
      intro e
      unfold R5.rid at e
      rw [Prod.mk.injEq] at e
      exact hne (by rw [e.1, e.2])
theorem idRel_del {l : List R5} {c : Chg} (hc : c.has = false) (k v : Value) : idRel (stepR l c) k v ↔ (k ≠ idV c.tb c.ky ∧ idRel l k v) := by
  unfold idRel stepR
  rw [hc]
  simp only [Bool.false_eq_true, if_false, List.append_nil]
  constructor
  · rintro ⟨r, hr, rfl, rfl⟩
    obtain ⟨h1, h2⟩ := List.mem_filter.1 hr
    refine ⟨fun e => ?_, r, h1, rfl, rfl⟩
    obtain ⟨e1, e2⟩ := idV_inj e
    simp only [Bool.not_eq_true', decide_eq_false_iff_not] at h2
    exact h2 (by unfold R5.rid; rw [e1, e2])
  · rintro ⟨hne, r, hr, rfl, rfl⟩
    refine ⟨r, List.mem_filter.2 ⟨hr, ?_⟩, rfl, rfl⟩
    simp only [Bool.not_eq_true', decide_eq_false_iff_not]
    intro e
    unfold R5.rid at e
    rw [Prod.mk.injEq] at e
    exact hne (by rw [e.1, e.2])
theorem stepR_fine {l : List R5} (h : ∀ r ∈ l, r.fine) {c : Chg} (hc : c.fine) : ∀ r ∈ stepR l c, r.fine := by
  intro r hr
  unfold stepR at hr
  rcases List.mem_append.1 hr with hr | hr
  · exact h r (List.mem_filter.1 hr).1
  · split at hr
    · rw [List.mem_singleton] at hr
      subst hr
      exact hc.2
    · cases hr
theorem BoxL.put {W : World} {z b : Nat} {xs : List Value} {ob : Obj} (h : BoxL W z xs) (hb : z ≠ b) : BoxL (W.putObj b ob) z xs :=
  h.keep ((Keep.refl (fun j => j = b) W).putObj ob (.inl rfl)) hb
theorem StA.update {W : World} {z mb : Nat} {l : List R5} {p : Int} (h : StA W z mb l p) {c : Chg} (hc : c.has = true) (hf : c.fine) :
    ∃ es ck, (Instr.mapUpdate 59 (.map (some mb)) (idV c.tb c.ky) (rowV c.new)).run Tryz.prog W = .ok () (W.putObj mb (.map es ck)) ∧ StA (W.putObj mb (.map es ck)) z mb (stepR l c) p := by
  obtain ⟨kl, hkl⟩ := keyId hf.1.1 hf.1.2.1
  obtain ⟨es, ck, hup, hm⟩ := h.mp.update idKeyed Tryz.underlying59 hkl (rowV c.new)
  exact ⟨es, ck, hup, h.box.put h.ne, hm.congr (idRel_put hc), stepR_nodup h.nd c, stepR_fine h.fine hf⟩
theorem StA.delete {W : World} {z mb : Nat} {l : List R5} {p : Int} (h : StA W z mb l p) {c : Chg} (hc : c.has = false) (hf : c.fine) (ty : TypeId) :
    ∃ es ck, (Builtin.delete_ #[59, 65] ty #[.map (some mb), idV c.tb c.ky]).run Tryz.prog W = .ok (.tuple #[]) (W.putObj mb (.map es ck)) ∧ StA (W.putObj mb (.map es ck)) z mb (stepR l c) p := by
  obtain ⟨kl, hkl⟩ := keyId hf.1.1 hf.1.2.1
  obtain ⟨es, ck, hup, hm⟩ := h.mp.delete idKeyed Tryz.underlying59 hkl ty
  exact ⟨es, ck, hup, h.box.put h.ne, hm.congr (idRel_del hc), stepR_nodup h.nd c, stepR_fine h.fine hf⟩
theorem StA.setPos {W : World} {z mb : Nat} {l : List R5} {p : Int} (h : StA W z mb l p) (q : Int) : StA (W.setCell ⟨z, 1, none⟩ (.int .i64 q)) z mb l q :=
  ⟨h.box.set 1 (by simp) _, h.mp.of_heap (heap_set_ne h.ne.symm), h.nd, h.fine⟩
theorem StA.made {W : World} (t : TypeId) : StA ((W.alloc (.map #[] 0)).alloc (.cells #[.map (some W.heap.size), .int .i64 0] t)) (W.heap.size + 1) W.heap.size [] 0 := by
  refine ⟨?_, ?_, by simp, by simp⟩
  · have := BoxL.new (W.alloc (.map #[] 0)) [.map (some W.heap.size), .int .i64 0] t
    rw [World.size_alloc] at this
    exact this
  · refine MapRel.of_heap (w := W.alloc (.map #[] 0)) ((MapRel.made _ _ W).congr (fun k v => ?_)) (Below.heap_alloc _ _ _ (by simp))
    simp [idRel]
end Go.Proofs.YtmndjicaofciiaaGreatDoor
