/-
  A range over a map, by what is still to come.
-/
import Derived.Test.YtmndjicaofciiaaGreatDoorG2
import Derived.Maps.Range
namespace Go.Proofs.YtmndjicaofciiaaGreatDoor
open Go Go.RowKit
open Go.ChangeMaps (setBlock)

/-- The iterator at r is under way over the map at b: the entries 'left' are still to come (key and value). -/
def Ranging (P : Program) (kt : TypeId) (w : World) (b r : Nat) (R : Value → Value → Prop) (left : List (Value × Value)) : Prop :=
  ∃ es clock since seen c0, w.heap[b]? = some (.map es clock) ∧ (∀ e ∈ es.toList, ∃ l, keyOf P kt e.key = some l) ∧ (es.toList.map (·.key)).Nodup ∧
    (∀ k v, R k v ↔ ∃ e ∈ es.toList, e.key = k ∧ e.val = v) ∧ (es.toList.map (·.born)).Nodup ∧ (∀ e ∈ es.toList, e.born < clock) ∧
    w.heap[r]? = some (.mapIter (some b) since seen c0) ∧ (∀ e ∈ es.toList, e.born < since) ∧ since ≤ c0 ∧ since ≤ clock ∧
    ((leftOf es seen).toList.map (fun e => (e.key, e.val))).Perm left

theorem Ranging.rel {P : Program} {kt : TypeId} {w : World} {b r : Nat} {R : Value → Value → Prop} {left : List (Value × Value)} (h : Ranging P kt w b r R left) : MapRel P kt w b R := by
  obtain ⟨es, clock, since, seen, c0, h1, h2, h3, h4, h5, h6, _⟩ := h
  exact ⟨es, clock, h1, h2, h3, h4, h5, h6⟩
theorem Ranging.of_heap {P : Program} {kt : TypeId} {w w' : World} {b r : Nat} {R : Value → Value → Prop} {left : List (Value × Value)} (h : Ranging P kt w b r R left) (hb : w'.heap[b]? = w.heap[b]?) (hr : w'.heap[r]? = w.heap[r]?) : Ranging P kt w' b r R left := by
  obtain ⟨es, clock, since, seen, c0, h1, h2, h3, h4, h5, h6, h7, r⟩ := h
  exact ⟨es, clock, since, seen, c0, hb.trans h1, h2, h3, h4, h5, h6, hr.trans h7, r⟩
theorem Ranging.lt {P : Program} {kt : TypeId} {w : World} {b r : Nat} {R : Value → Value → Prop} {left : List (Value × Value)} (h : Ranging P kt w b r R left) : r < w.heap.size ∧ b < w.heap.size ∧ r ≠ b := by
  obtain ⟨es, clock, since, seen, c0, h1, h2, h3, h4, h5, h6, h7, _⟩ := h
  refine ⟨(Array.getElem?_eq_some_iff.1 h7).1, (Array.getElem?_eq_some_iff.1 h1).1, fun e => ?_⟩
  subst e
  rw [h1] at h7
  cases h7

theorem Ranging.left_eq {P : Program} {kt : TypeId} {w : World} {b r : Nat} {R : Value → Value → Prop} {left : List (Value × Value)} (h : Ranging P kt w b r R left) : w.rangeLeft b r = left.length := by
  obtain ⟨es, clock, since, seen, c0, h1, h2, h3, h4, h5, h6, h7, h8, h9, h10, h11⟩ := h
  unfold World.rangeLeft
  rw [h1, h7]
  have := h11.length_eq
  simpa using this

theorem Ranging.perm {P : Program} {kt : TypeId} {w : World} {b r : Nat} {R : Value → Value → Prop} {left left' : List (Value × Value)} (h : Ranging P kt w b r R left) (hp : left.Perm left') : Ranging P kt w b r R left' := by
  obtain ⟨es, clock, since, seen, c0, h1, h2, h3, h4, h5, h6, h7, h8, h9, h10, h11⟩ := h
  exact ⟨es, clock, since, seen, c0, h1, h2, h3, h4, h5, h6, h7, h8, h9, h10, h11.trans hp⟩

/-- range begins: all entries are to come. -/
theorem MapRel.range {P : Program} {kt et t : TypeId} {w : World} {b : Nat} {R : Value → Value → Prop} (h : MapRel P kt w b R) (ht : P.underlying t = some (.map kt et)) :
    ∃ ob left, (Instr.range t (.map (some b))).run P w = .ok (.pointer (some ⟨w.heap.size, 0, none⟩)) (w.alloc ob) ∧ Ranging P kt (w.alloc ob) b w.heap.size R left ∧ (left.map (·.1)).Nodup ∧ ∀ k v, (k, v) ∈ left ↔ R k v := by
  obtain ⟨es, clock, hb, hk, hn, hr, hbn, hbc⟩ := h
  have hlt := (Array.getElem?_eq_some_iff.1 hb).1
  have hl : leftOf es #[] = es := by unfold leftOf; simp
  refine ⟨.mapIter (some b) clock #[] clock, es.toList.map (fun e => (e.key, e.val)), ?_, ⟨es, clock, clock, #[], clock, ?_, hk, hn, hr, hbn, hbc, World.alloc_heap_new _ _, hbc, Nat.le_refl _, Nat.le_refl _, by rw [hl]⟩, ?_, ?_⟩
  · simp [Instr.range, run_underlying ht, MapKept.run_getObj_map hb, Result.andThen]
  · rw [Below.heap_alloc _ _ _ hlt]; exact hb
  · rw [List.map_map]; exact hn
  · intro k v
    rw [hr, List.mem_map]
    constructor
    · rintro ⟨e, he, h⟩
      cases h
      exact ⟨e, he, rfl, rfl⟩
    · rintro ⟨e, he, rfl, rfl⟩
      exact ⟨e, he, rfl⟩

theorem leftOf_push {es : Array MapEntry} {seen : Array Nat} {e : MapEntry} (hn : (es.toList.map (·.born)).Nodup) (he : e ∈ (leftOf es seen).toList) :
    ((leftOf es seen).toList.map (fun x => (x.key, x.val))).Perm ((e.key, e.val) :: (leftOf es (seen.push e.born)).toList.map (fun x => (x.key, x.val))) := by
  have e1 : ∀ s : Array Nat, (leftOf es s).toList = es.toList.filter (fun x => !s.contains x.born) := fun s => by unfold leftOf; simp
  rw [e1] at he
  rw [e1, e1]
  have hmem := (List.mem_filter.1 he).1
  obtain ⟨X, Y, hXY⟩ := List.append_of_mem hmem
  have hpred := (List.mem_filter.1 he).2
  rw [hXY] at hn ⊢
  simp only [List.map_append, List.map_cons] at hn
  rw [List.nodup_append, List.nodup_cons] at hn
  have hfil : ∀ Z : List MapEntry, (∀ x ∈ Z, x.born ≠ e.born) → Z.filter (fun x => !(seen.push e.born).contains x.born) = Z.filter (fun x => !seen.contains x.born) := fun Z hZ => by
    apply List.filter_congr
    intro x hx
    have := hZ x hx
    simp [this]
  have hX : ∀ x ∈ X, x.born ≠ e.born := fun x hx h => hn.2.2 x.born (List.mem_map_of_mem hx) e.born (by simp) h
  have hY : ∀ x ∈ Y, x.born ≠ e.born := fun x hx h => hn.2.1.1 (by rw [← h]; exact List.mem_map_of_mem hx)
  simp only [List.filter_append, List.map_append]
  have e2 : (e :: Y).filter (fun x => !seen.contains x.born) = e :: Y.filter (fun x => !seen.contains x.born) := List.filter_cons_of_pos (p := fun x : MapEntry => !seen.contains x.born) hpred
  have e3 : (e :: Y).filter (fun x => !(seen.push e.born).contains x.born) = Y.filter (fun x => !(seen.push e.born).contains x.born) := List.filter_cons_of_neg (p := fun x : MapEntry => !(seen.push e.born).contains x.born) (by simp)
  rw [hfil X hX, e2, e3, hfil Y hY]
  simp only [List.map_cons]
  exact List.perm_middle

/-- A step: nothing is left, or one of those that are left comes. -/
theorem Ranging.next {P : Program} {kt : TypeId} {w : World} {b r : Nat} {R : Value → Value → Prop} {left : List (Value × Value)} (h : Ranging P kt w b r R left) (ty : TypeId) :
    (left = [] ∧ (Instr.next (.pointer (some ⟨r, 0, none⟩)) false ty).run P w = .ok (.tuple #[.bool false]) w) ∨
    ∃ k v left' w', left.Perm ((k, v) :: left') ∧ R k v ∧ (Instr.next (.pointer (some ⟨r, 0, none⟩)) false ty).run P w = .ok (.tuple #[.bool true, k, v]) w' ∧ Ranging P kt w' b r R left' ∧ Keep (fun i => i = r) w w' ∧ w'.heap.size = w.heap.size ∧
      (Instr.entry (.pointer (some ⟨r, 0, none⟩))).run P w' = .ok (.tuple #[k, v]) w' := by
  have hne := h.lt
  obtain ⟨es, clock, since, seen, c0, h1, h2, h3, h4, h5, h6, h7, h8, h9, h10, h11⟩ := h
  rcases run_next_at (P := P) w ty r b since c0 seen es clock h7 h1 h8 h9 with ⟨h0, hrun⟩ | ⟨e, he, w1, hw1, hrun⟩
  · left
    refine ⟨?_, hrun⟩
    have : (leftOf es seen).toList = [] := by
      apply List.eq_nil_of_length_eq_zero
      simpa using h0
    rw [this] at h11
    exact List.perm_nil.1 h11.symm
  · right
    have hmem : e ∈ es.toList := by unfold leftOf at he; simp at he ⊢; exact he.1
    have hb1 : w1.heap = w.heap := by rcases hw1 with rfl | rfl <;> rfl
    have hset : ∀ i, i ≠ r → (setBlock w1 r (.mapIter (some b) since (seen.push e.born) clock)).heap[i]? = w.heap[i]? := fun i hi => by
      rw [← hb1]; simp [setBlock, Ne.symm hi]
    have hsz : (setBlock w1 r (.mapIter (some b) since (seen.push e.born) clock)).heap.size = w.heap.size := by simp [setBlock, hb1]
    have hr' : (setBlock w1 r (.mapIter (some b) since (seen.push e.born) clock)).heap[r]? = some (.mapIter (some b) since (seen.push e.born) clock) := by
      have := hne.1
      simp [setBlock, hb1, this]
    have hb' := (hset b (Ne.symm hne.2.2)).trans h1
    refine ⟨e.key, e.val, _, setBlock w1 r (.mapIter (some b) since (seen.push e.born) clock), h11.symm.trans (leftOf_push h5 he), (h4 _ _).2 ⟨e, hmem, rfl, rfl⟩, hrun, ⟨es, clock, since, _, clock, hb', h2, h3, h4, h5, h6, hr', h8, h10, h10, List.Perm.refl _⟩, ⟨?_, ?_, ?_, by rw [hsz]; exact Nat.le_refl _, fun i _ hi => hset i hi⟩, hsz, ?_⟩
    · rcases hw1 with rfl | rfl <;> rfl
    · rcases hw1 with rfl | rfl <;> rfl
    · rcases hw1 with rfl | rfl <;> rfl
    · exact run_entry_at _ r b since seen es clock e hr' hb' hmem h5
end Go.Proofs.YtmndjicaofciiaaGreatDoor
