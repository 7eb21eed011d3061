/-
  A map's length; an update while a range is under way; regions whose callees lay blocks.
-/
import Derived.Test.YtmndjicaofciiaaGreatDoorG3
import Derived.Deep.QuietTactic
namespace Go.Proofs.YtmndjicaofciiaaGreatDoor
open Go Go.RowKit
open Go.Maps (Keyed)

theorem filter_modify {α : Type} {p : α → Bool} {f : α → α} : ∀ (l : List α) (j : Nat), (∀ x, l[j]? = some x → p x = false ∧ p (f x) = false) → (l.modify j f).filter p = l.filter p
  | [], j, _ => by cases j <;> rfl
  | x :: r, 0, h => by
    obtain ⟨h1, h2⟩ := h x rfl
    rw [List.modify_zero_cons, List.filter_cons, List.filter_cons, h1, h2]; simp
  | x :: r, j + 1, h => by
    rw [List.modify_succ_cons, List.filter_cons, List.filter_cons, filter_modify r j (fun y hy => h y (by simpa using hy))]

/-- An entry that has come already is given a new value. -/
theorem Ranging.update {P : Program} {kt et t : TypeId} {w : World} {b r : Nat} {R : Value → Value → Prop} {left : List (Value × Value)} (h : Ranging P kt w b r R left) (K : Keyed P kt) (ht : P.underlying t = some (.map kt et)) {key : Value} {kl : Lit} (hkey : keyOf P kt key = some kl) (val : Value)
    {v0 : Value} (hv : R key v0) (hl : ∀ p ∈ left, p.1 ≠ key) {w' : World} (hrun : (Instr.mapUpdate t (.map (some b)) key val).run P w = .ok () w') : Ranging P kt w' b r (fun k v => (k = key ∧ v = val) ∨ (k ≠ key ∧ R k v)) left := by
  have hne := h.lt
  obtain ⟨es, clock, since, seen, c0, hb, hk, hn, hr, hbn, hbc, h7, h8, h9, h10, h11⟩ := h
  have hlt := hne.2.1
  rcases K.find w hkey es.toList hk with ⟨h1, h2⟩ | ⟨j, e0, h1, h2, h3⟩
  · obtain ⟨e, he, e1, _⟩ := (hr _ _).1 hv
    exact absurd e1 (h2 e he)
  · have hjl : j < es.toList.length := (List.getElem?_eq_some_iff.1 h2).1
    have hj : es[j]? = some e0 := by simpa using h2
    have hmod : (es.modify j (fun e => { e with key, val := val })).toList = es.toList.modify j (fun e => { e with key, val := val }) := by simp
    have hm0 : e0 ∈ es.toList := List.mem_of_getElem? h2
    have hmem : ∀ e, e ∈ (es.modify j (fun e => { e with key, val := val })).toList ↔ (e = { e0 with key, val := val } ∨ (e ∈ es.toList ∧ e.key ≠ key)) := by
      intro e
      rw [hmod]
      constructor
      · intro he
        obtain ⟨i, hi⟩ := List.mem_iff_getElem?.1 he
        rw [List.getElem?_modify] at hi
        by_cases hij : j = i
        · subst hij
          simp [h2] at hi
          exact .inl hi.symm
        · have hi' : es.toList[i]? = some e := by simpa [hij] using hi
          exact .inr ⟨List.mem_of_getElem? hi', fun hek => hij (nodup_idx hn h2 hi' (h3.trans hek.symm))⟩
      · rintro (rfl | ⟨he, hek⟩)
        · exact List.mem_iff_getElem?.2 ⟨j, by rw [List.getElem?_modify]; simp [h2]⟩
        · obtain ⟨i, hi⟩ := List.mem_iff_getElem?.1 he
          refine List.mem_iff_getElem?.2 ⟨i, ?_⟩
          rw [List.getElem?_modify]
          by_cases hij : j = i
          · subst hij
            rw [h2] at hi
            cases hi
            exact absurd h3 hek
          · simp [hij, hi]
    have hrun' : (Instr.mapUpdate t (.map (some b)) key val).run P w = .ok () (w.putObj b (.map (es.modify j (fun e => { e with key, val := val })) clock)) := by
      simp [Instr.mapUpdate, run_underlying ht, MapKept.run_getObj_map hb, K.check w false hkey, h1, hj, h3, K.stays w hkey, MapKept.run_setObj_map _ hb, Result.andThen, World.putObj]
    rw [hrun'] at hrun
    cases hrun
    refine ⟨es.modify j (fun e => { e with key, val := val }), clock, since, seen, c0, World.putObj_heap_same hlt, ?_, ?_, ?_, ?_, ?_, ?_, ?_, h9, h10, ?_⟩
    · intro e he
      rcases (hmem e).1 he with rfl | ⟨he, _⟩
      · exact ⟨kl, hkey⟩
      · exact hk e he
    · have : (es.modify j (fun e => { e with key, val := val })).toList.map (·.key) = es.toList.map (·.key) := by
        rw [hmod]
        apply List.ext_getElem?
        intro i
        simp only [List.getElem?_map, List.getElem?_modify]
        by_cases hij : j = i
        · subst hij; simp [h2, h3]
        · simp [hij]
      rw [this]; exact hn
    · intro k v
      constructor
      · rintro (⟨rfl, rfl⟩ | ⟨hne, hR⟩)
        · exact ⟨_, (hmem _).2 (.inl rfl), rfl, rfl⟩
        · obtain ⟨e, he, rfl, rfl⟩ := (hr _ _).1 hR
          exact ⟨e, (hmem _).2 (.inr ⟨he, hne⟩), rfl, rfl⟩
      · rintro ⟨e, he, rfl, rfl⟩
        rcases (hmem e).1 he with rfl | ⟨he, hne⟩
        · exact .inl ⟨rfl, rfl⟩
        · exact .inr ⟨hne, (hr _ _).2 ⟨e, he, rfl, rfl⟩⟩
    · have : (es.modify j (fun e => { e with key, val := val })).toList.map (·.born) = es.toList.map (·.born) := by
        rw [hmod]
        apply List.ext_getElem?
        intro i
        simp only [List.getElem?_map, List.getElem?_modify]
        by_cases hij : j = i
        · subst hij; simp [h2]
        · simp [hij]
      rw [this]; exact hbn
    · intro e he
      rcases (hmem e).1 he with rfl | ⟨he, _⟩
      · exact hbc e0 hm0
      · exact hbc e he
    · rw [World.putObj_heap_other hne.2.2]; exact h7
    · intro e he
      rcases (hmem e).1 he with rfl | ⟨he, _⟩
      · exact h8 e0 hm0
      · exact h8 e he
    · have e1 : ∀ (z : Array MapEntry) (s : Array Nat), (leftOf z s).toList = z.toList.filter (fun x => !s.contains x.born) := fun z s => by unfold leftOf; simp
      rw [e1, hmod, filter_modify, ← e1]
      · exact h11
      · intro x hx
        rw [h2] at hx
        cases hx
        have : (!seen.contains e0.born) = false := by
          cases hc : (!seen.contains e0.born) with
          | false => rfl
          | true =>
            have hin : e0 ∈ (leftOf es seen).toList := by rw [e1]; exact List.mem_filter.2 ⟨hm0, hc⟩
            exact absurd h3 (hl (e0.key, e0.val) (h11.mem_iff.1 (List.mem_map_of_mem (f := fun e : MapEntry => (e.key, e.val)) hin)))
        exact ⟨this, this⟩

/-- The length of a map whose entries are known. -/
theorem MapRel.len {P : Program} {kt et t : TypeId} {w : World} {b : Nat} {R : Value → Value → Prop} (h : MapRel P kt w b R) (ht : P.underlying t = some (.map kt et)) :
    ∃ left : List (Value × Value), (left.map (·.1)).Nodup ∧ (∀ k v, (k, v) ∈ left ↔ R k v) ∧ ∀ ty, (Builtin.len_ #[t] ty #[.map (some b)]).run P w = .ok (.int .i64 left.length) w := by
  obtain ⟨es, clock, hb, hk, hn, hr, hbn, hbc⟩ := h
  refine ⟨es.toList.map (fun e => (e.key, e.val)), ?_, ?_, fun ty => ?_⟩
  · rw [List.map_map]; exact hn
  · intro k v
    rw [hr, List.mem_map]
    constructor
    · rintro ⟨e, he, h⟩
      cases h
      exact ⟨e, he, rfl, rfl⟩
    · rintro ⟨e, he, rfl, rfl⟩
      exact ⟨e, he, rfl⟩
  · simp [Builtin.len_, run_underlying ht, MapKept.run_getObj_map hb, goInt, Result.andThen]

/-- A world that has kept all blocks. -/
structure KW (w : World) where
  val : World
  k : Keep (fun _ => False) w val

instance (w : World) : Nonempty (KW w) := ⟨⟨w, Keep.refl _ w⟩⟩
theorem wp_region_quiet_kept {P : Program} {id : Nat} {Q : Exit → Act → World → Prop} {a : Act} {w : World} {l : List Oper} (hm : P.follows .mixedOrders = true) (hB : Region.lexB .any l.toArray = true)
    (h : wpQuiet P l.toArray (fun w' => ∃ p : KW w, w' = p.val) (fun a' => ∀ w', (∃ p : KW w, w' = p.val) → Q .normal a' w') l a) : (Code.region id l.toArray true).wp P Q a w :=
  wp_region_quiet (C := fun w' => ∃ p : KW w, w' = p.val) hm hB ⟨⟨w.drew, (Keep.refl _ w).drew⟩, rfl⟩ (by simpa using h)
theorem Calls.kept_of {P : Program} {f : FuncId} {args : Array Value} {w : World} {p : KW w} {v : Value}
    (h : Calls P f args p.val fun e w' => e = .returned v ∧ Keep (fun _ => False) p.val w') : Calls P f args p.val fun e w'' => e = .returned v ∧ ∃ q : KW w, w'' = q.val :=
  h.mono fun _ w' ⟨he, hk⟩ => ⟨he, ⟨w', p.k.trans hk⟩, rfl⟩
end Go.Proofs.YtmndjicaofciiaaGreatDoor
