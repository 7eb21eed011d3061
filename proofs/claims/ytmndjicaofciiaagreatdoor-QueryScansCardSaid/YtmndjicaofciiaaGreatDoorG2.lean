/-
  Small laws on worlds: what is kept outside a set of blocks; cells behind stores; a map keyed by strings, by its entries.
-/
import Derived.RangeFuncRecord
import Derived.RangeFuncOwn
import Derived.WalkKit
import Derived.Maps.Keyed
namespace Go.Proofs.YtmndjicaofciiaaGreatDoor
open Go Go.RowKit

/-- w' is w but for blocks of A and new blocks. -/
structure Keep (A : Nat → Prop) (w w' : World) : Prop where
  os : w'.os = w.os
  tape : w'.tape = w.tape
  output : w'.output = w.output
  size : w.heap.size ≤ w'.heap.size
  block : ∀ k, k < w.heap.size → ¬ A k → w'.heap[k]? = w.heap[k]?

theorem Keep.refl (A : Nat → Prop) (w : World) : Keep A w w := ⟨rfl, rfl, rfl, Nat.le_refl _, fun _ _ _ => rfl⟩
theorem Keep.mono {A B : Nat → Prop} {w w' : World} (h : Keep A w w') (hAB : ∀ k, A k → B k) : Keep B w w' := ⟨h.os, h.tape, h.output, h.size, fun k hk hn => h.block k hk (fun ha => hn (hAB k ha))⟩
/-- Two steps: what the second lets go is new since the first, or of A. -/
theorem Keep.trans' {A B : Nat → Prop} {a b c : World} (h : Keep A a b) (k : Keep B b c) (hB : ∀ i, B i → A i ∨ a.heap.size ≤ i) : Keep A a c :=
  ⟨k.os.trans h.os, k.tape.trans h.tape, k.output.trans h.output, Nat.le_trans h.size k.size, fun i hi hn => (k.block i (Nat.lt_of_lt_of_le hi h.size) (fun hb => (hB i hb).elim hn (fun h' => absurd hi (Nat.not_lt.2 h')))).trans (h.block i hi hn)⟩
theorem Keep.trans {A : Nat → Prop} {a b c : World} (h : Keep A a b) (k : Keep A b c) : Keep A a c := h.trans' k (fun _ => .inl)
theorem Keep.drew {A : Nat → Prop} {a w : World} (h : Keep A a w) : Keep A a w.drew := ⟨h.os, h.tape, h.output, h.size, h.block⟩
theorem Keep.alloc {A : Nat → Prop} {a w : World} (h : Keep A a w) (o : Obj) : Keep A a (w.alloc o) :=
  h.trans ⟨rfl, rfl, rfl, by simp, fun k hk _ => Below.heap_alloc _ _ _ hk⟩
theorem Keep.setCell {A : Nat → Prop} {a w : World} (h : Keep A a w) {p : Addr} (v : Value) (hp : A p.block ∨ a.heap.size ≤ p.block) : Keep A a (w.setCell p v) :=
  h.trans' (B := fun k => k = p.block) ⟨rfl, rfl, rfl, by simp, fun k _ hn => Below.heap_setCell _ _ _ _ hn⟩ (fun i e => e ▸ hp)
theorem Keep.putObj {A : Nat → Prop} {a w : World} (h : Keep A a w) {b : Nat} (o : Obj) (hp : A b ∨ a.heap.size ≤ b) : Keep A a (w.putObj b o) :=
  h.trans' (B := fun k => k = b) ⟨rfl, rfl, rfl, by simp, fun k _ hn => World.putObj_heap_other hn⟩ (fun i e => e ▸ hp)
theorem Keep.grown {A : Nat → Prop} {a w w' : World} {row : Option Nat} (h : Keep A a w) (hg : w.grownBy w' row) (hr : ∀ k, row = some k → A k ∨ a.heap.size ≤ k) : Keep A a w' :=
  h.trans' (B := fun k => row = some k) ⟨hg.os, hg.tape, hg.output, hg.size, fun k hk hn => hg.block k hk (fun e => hn e.symm)⟩ hr
theorem Keep.cell {A : Nat → Prop} {w w' : World} (h : Keep A w w') {b o : Nat} {v : Value} (hc : w.cell? ⟨b, o, none⟩ = some v) (hb : ¬ A b) : w'.cell? ⟨b, o, none⟩ = some v :=
  (World.cell?_of_block (w := w) (a := ⟨b, o, none⟩) (h.block b (World.block_lt_of_cell? _ _ hc) hb)).trans hc
theorem Keep.heap {A : Nat → Prop} {w w' : World} (h : Keep A w w') {b : Nat} {o : Obj} (hc : w.heap[b]? = some o) (hb : ¬ A b) : w'.heap[b]? = some o :=
  (h.block b (Array.getElem?_eq_some_iff.1 hc).1 hb).trans hc
theorem Keep.below {B : Nat} {w w' : World} (h : Keep (fun k => B ≤ k) w w') (hB : B ≤ w.heap.size) : Below B w w' :=
  ⟨h.os, h.tape, h.output, h.size, fun k hk => h.block k (Nat.lt_of_lt_of_le hk hB) (Nat.not_le.2 hk)⟩
theorem Keep.of_below {B : Nat} {w w' : World} (h : Below B w w') : Keep (fun k => B ≤ k) w w' :=
  ⟨h.os, h.tape, h.output, h.size, fun k _ hn => h.block k (Nat.not_le.1 hn)⟩
theorem Keep.of_grown {w w' : World} {row : Option Nat} (hg : w.grownBy w' row) : Keep (fun k => row = some k) w w' :=
  ⟨hg.os, hg.tape, hg.output, hg.size, fun k hk hn => hg.block k hk (fun e => hn e.symm)⟩

theorem cell_set_same {w : World} {b o : Nat} {u v : Value} (h : w.cell? ⟨b, o, none⟩ = some u) : (w.setCell ⟨b, o, none⟩ v).cell? ⟨b, o, none⟩ = some v := World.cell?_setCell_same _ _ _ h
theorem cell_set_ne {w : World} {b o b' o' : Nat} {v : Value} (h : b ≠ b' ∨ o ≠ o') : (w.setCell ⟨b, o, none⟩ v).cell? ⟨b', o', none⟩ = w.cell? ⟨b', o', none⟩ :=
  World.cell?_setCell_other _ _ _ _ (fun e => by cases e; simp at h)
theorem cell_set_off {w : World} {b o b' o' : Nat} {v : Value} (h : o ≠ o') : (w.setCell ⟨b, o, none⟩ v).cell? ⟨b', o', none⟩ = w.cell? ⟨b', o', none⟩ := cell_set_ne (.inr h)
theorem cell_set_blk {w : World} {b o b' o' : Nat} {v : Value} (h : b ≠ b') : (w.setCell ⟨b, o, none⟩ v).cell? ⟨b', o', none⟩ = w.cell? ⟨b', o', none⟩ := cell_set_ne (.inl h)
theorem heap_set_ne {w : World} {a : Addr} {v : Value} {k : Nat} (h : k ≠ a.block) : (w.setCell a v).heap[k]? = w.heap[k]? := Below.heap_setCell _ _ _ _ h
theorem cell_put {w : World} {b r o : Nat} {ob : Obj} (h : b ≠ r) : (w.putObj r ob).cell? ⟨b, o, none⟩ = w.cell? ⟨b, o, none⟩ := World.cell?_of_block (w := w) (a := ⟨b, o, none⟩) (World.putObj_heap_other h)
theorem frozen_put {w : World} {b r o : Nat} {ob : Obj} (h : b ≠ r) : (w.putObj r ob).frozen? ⟨b, o, none⟩ = w.frozen? ⟨b, o, none⟩ := World.frozen?_of_block (w := w) (a := ⟨b, o, none⟩) (World.putObj_heap_other h)

/-! ### a map by the relation of its keys to its elements -/

/-- Block b of w is a map; R says which key has which element. -/
def MapRel (P : Program) (kt : TypeId) (w : World) (b : Nat) (R : Value → Value → Prop) : Prop :=
  ∃ es clock, w.heap[b]? = some (.map es clock) ∧ (∀ e ∈ es.toList, ∃ l, keyOf P kt e.key = some l) ∧ (es.toList.map (·.key)).Nodup ∧
    (∀ k v, R k v ↔ ∃ e ∈ es.toList, e.key = k ∧ e.val = v) ∧ (es.toList.map (·.born)).Nodup ∧ ∀ e ∈ es.toList, e.born < clock

theorem MapRel.of_heap {P : Program} {kt : TypeId} {w w' : World} {b : Nat} {R : Value → Value → Prop} (h : MapRel P kt w b R) (hh : w'.heap[b]? = w.heap[b]?) : MapRel P kt w' b R := by
  obtain ⟨es, clock, hb, r⟩ := h
  exact ⟨es, clock, hh.trans hb, r⟩

theorem MapRel.lt {P : Program} {kt : TypeId} {w : World} {b : Nat} {R : Value → Value → Prop} (h : MapRel P kt w b R) : b < w.heap.size := by
  obtain ⟨es, clock, hb, _⟩ := h
  exact (Array.getElem?_eq_some_iff.1 hb).1

theorem MapRel.not_cell {P : Program} {kt : TypeId} {w : World} {b : Nat} {R : Value → Value → Prop} (h : MapRel P kt w b R) {o : Nat} {v : Value} {b' : Nat} (hc : w.cell? ⟨b', o, none⟩ = some v) : b' ≠ b := by
  obtain ⟨es, clock, hb, _⟩ := h
  rintro rfl
  simp [World.cell?, hb] at hc

theorem MapRel.congr {P : Program} {kt : TypeId} {w : World} {b : Nat} {R R' : Value → Value → Prop} (h : MapRel P kt w b R) (hR : ∀ k v, R' k v ↔ R k v) : MapRel P kt w b R' := by
  obtain ⟨es, clock, hb, hk, hn, hr, hbn, hbc⟩ := h
  exact ⟨es, clock, hb, hk, hn, fun k v => (hR k v).trans (hr k v), hbn, hbc⟩

theorem MapRel.made (P : Program) (kt : TypeId) (w : World) : MapRel P kt (w.alloc (.map #[] 0)) w.heap.size (fun _ _ => False) :=
  ⟨#[], 0, World.alloc_heap_new w _, by simp, by simp, by simp, by simp, by simp⟩

section
variable {P : Program} {kt et t : TypeId} {w : World} {b : Nat} {R : Value → Value → Prop}
open Go.Maps (Keyed)

theorem nodup_idx {α β : Type} {f : α → β} {l : List α} (hn : (l.map f).Nodup) {i j : Nat} {a b : α} (h1 : l[i]? = some a) (h2 : l[j]? = some b) (hab : f a = f b) : i = j := by
  induction l generalizing i j with
  | nil => simp at h1
  | cons x r ih =>
    simp only [List.map_cons, List.nodup_cons, List.mem_map, not_exists, not_and] at hn
    cases i with
    | zero =>
      cases j with
      | zero => rfl
      | succ j =>
        simp only [List.getElem?_cons_zero, Option.some.injEq] at h1
        simp only [List.getElem?_cons_succ] at h2
        subst h1
        exact absurd hab.symm (hn.1 _ (List.mem_of_getElem? h2))
    | succ i =>
      cases j with
      | zero =>
        simp only [List.getElem?_cons_zero, Option.some.injEq] at h2
        simp only [List.getElem?_cons_succ] at h1
        subst h2
        exact absurd hab (hn.1 _ (List.mem_of_getElem? h1))
      | succ j =>
        simp only [List.getElem?_cons_succ] at h1 h2
        exact congrArg (· + 1) (ih hn.2 h1 h2)

theorem nodup_key_eq {es : List MapEntry} (hn : (es.map (·.key)).Nodup) {e e' : MapEntry} (h : e ∈ es) (h' : e' ∈ es) (hk : e.key = e'.key) : e = e' := by
  obtain ⟨i, hi⟩ := List.mem_iff_getElem?.1 h
  obtain ⟨j, hj⟩ := List.mem_iff_getElem?.1 h'
  have := nodup_idx hn hi hj hk
  subst this
  rw [hi] at hj
  exact Option.some.inj hj

theorem MapRel.look (h : MapRel P kt w b R) (K : Keyed P kt) (ht : P.underlying t = some (.map kt et)) {z : Value} (hz : (zeroValue et).run P w = .ok z w) (c : Bool) {key : Value} {kl : Lit} (hkey : keyOf P kt key = some kl) :
    ((∀ v, ¬ R key v) ∧ (Instr.lookup t (.map (some b)) key c).run P w = .ok (if c then .tuple #[z, .bool false] else z) w) ∨
    (∃ v, R key v ∧ (Instr.lookup t (.map (some b)) key c).run P w = .ok (if c then .tuple #[v, .bool true] else v) w) := by
  obtain ⟨es, clock, hb, hk, hn, hr, hbn, hbc⟩ := h
  rcases K.find w hkey es.toList hk with ⟨h1, h2⟩ | ⟨j, e0, h1, h2, h3⟩
  · exact .inl ⟨fun v hv => by obtain ⟨e, he, e1, _⟩ := (hr _ _).1 hv; exact h2 e he e1,
      by simp [Instr.lookup, run_underlying ht, MapKept.run_getObj_map hb, K.check w _ hkey, h1, hz, Result.andThen]⟩
  · exact .inr ⟨e0.val, (hr _ _).2 ⟨e0, List.mem_of_getElem? h2, h3, rfl⟩,
      by simp [Instr.lookup, run_underlying ht, MapKept.run_getObj_map hb, K.check w _ hkey, h1, Result.andThen]⟩

theorem MapRel.fn (h : MapRel P kt w b R) {k v v' : Value} (h1 : R k v) (h2 : R k v') : v = v' := by
  obtain ⟨es, clock, hb, hk, hn, hr, hbn, hbc⟩ := h
  obtain ⟨e, he, e1, rfl⟩ := (hr _ _).1 h1
  obtain ⟨e', he', e1', rfl⟩ := (hr _ _).1 h2
  rw [nodup_key_eq hn he he' (e1.trans e1'.symm)]

theorem MapRel.update (h : MapRel P kt w b R) (K : Keyed P kt) (ht : P.underlying t = some (.map kt et)) {key : Value} {kl : Lit} (hkey : keyOf P kt key = some kl) (val : Value) :
    ∃ es' clock', (Instr.mapUpdate t (.map (some b)) key val).run P w = .ok () (w.putObj b (.map es' clock')) ∧
      MapRel P kt (w.putObj b (.map es' clock')) b (fun k v => (k = key ∧ v = val) ∨ (k ≠ key ∧ R k v)) := by
  obtain ⟨es, clock, hb, hk, hn, hr, hbn, hbc⟩ := h
  have hlt := (Array.getElem?_eq_some_iff.1 hb).1
  rcases K.find w hkey es.toList hk with ⟨h1, h2⟩ | ⟨j, e0, h1, h2, h3⟩
  · refine ⟨es.push ⟨key, val, clock⟩, clock + 1, ?_, es.push ⟨key, val, clock⟩, clock + 1, World.putObj_heap_same hlt, ?_, ?_, ?_, ?_, ?_⟩
    · simp [Instr.mapUpdate, run_underlying ht, MapKept.run_getObj_map hb, K.check w false hkey, h1, MapKept.run_setObj_map _ hb, Result.andThen, World.putObj]
    · intro e he
      simp only [Array.toList_push, List.mem_append, List.mem_singleton] at he
      rcases he with he | rfl
      · exact hk e he
      · exact ⟨kl, hkey⟩
    · simp only [Array.toList_push, List.map_append, List.map_cons, List.map_nil]
      rw [List.nodup_append]
      refine ⟨hn, by simp, ?_⟩
      rintro a ha c hc rfl
      simp only [List.mem_cons, List.not_mem_nil, or_false] at hc
      obtain ⟨e, he, rfl⟩ := List.mem_map.1 ha
      exact h2 e he hc
    · intro k v
      simp only [Array.toList_push, List.mem_append, List.mem_singleton]
      constructor
      · rintro (⟨rfl, rfl⟩ | ⟨hne, hR⟩)
        · exact ⟨_, .inr rfl, rfl, rfl⟩
        · obtain ⟨e, he, r⟩ := (hr _ _).1 hR
          exact ⟨e, .inl he, r⟩
      · rintro ⟨e, he | rfl, rfl, rfl⟩
        · exact .inr ⟨h2 e he, (hr _ _).2 ⟨e, he, rfl, rfl⟩⟩
        · exact .inl ⟨rfl, rfl⟩
    · simp only [Array.toList_push, List.map_append, List.map_cons, List.map_nil]
      rw [List.nodup_append]
      refine ⟨hbn, by simp, ?_⟩
      rintro a ha c hc rfl
      simp only [List.mem_cons, List.not_mem_nil, or_false] at hc
      obtain ⟨e, he, rfl⟩ := List.mem_map.1 ha
      have := hbc e he
      omega
    · intro e he
      simp only [Array.toList_push, List.mem_append, List.mem_singleton] at he
      rcases he with he | rfl
      · have := hbc e he; omega
      · simp
  · have hjl : j < es.toList.length := (List.getElem?_eq_some_iff.1 h2).1
    have hjs : j < es.size := by simpa using hjl
    have hj : es[j]? = some e0 := by simpa using h2
    have hmod : (es.modify j (fun e => { e with key, val := val })).toList = es.toList.modify j (fun e => { e with key, val := val }) := by simp
    have hm0 : e0 ∈ es.toList := List.mem_of_getElem? h2
    have hmem : ∀ e, e ∈ (es.modify j (fun e => { e with key, val := val })).toList ↔ (e = { e0 with key, val := val } ∨ (e ∈ es.toList ∧ e.key ≠ key)) := by
      intro e
      rw [hmod]
      constructor
      · intro he
        obtain ⟨i, hi⟩ := List.mem_iff_getElem?.1 he
        rw [List.getElem?_modify] at hi
        by_cases hij : j = i
        · subst hij
          simp [h2] at hi
          exact .inl hi.symm
        · have hi' : es.toList[i]? = some e := by simpa [hij] using hi
          exact .inr ⟨List.mem_of_getElem? hi', fun hek => hij (nodup_idx hn h2 hi' (h3.trans hek.symm))⟩
      · rintro (rfl | ⟨he, hek⟩)
        · exact List.mem_iff_getElem?.2 ⟨j, by rw [List.getElem?_modify]; simp [h2]⟩
        · obtain ⟨i, hi⟩ := List.mem_iff_getElem?.1 he
          refine List.mem_iff_getElem?.2 ⟨i, ?_⟩
          rw [List.getElem?_modify]
          by_cases hij : j = i
          · subst hij
            rw [h2] at hi
            cases hi
            exact absurd h3 hek
          · simp [hij, hi]
    refine ⟨es.modify j (fun e => { e with key, val := val }), clock, ?_, es.modify j (fun e => { e with key, val := val }), clock, World.putObj_heap_same hlt, ?_, ?_, ?_, ?_, ?_⟩
    · simp [Instr.mapUpdate, run_underlying ht, MapKept.run_getObj_map hb, K.check w false hkey, h1, hj, h3, K.stays w hkey, MapKept.run_setObj_map _ hb, Result.andThen, World.putObj]
    · intro e he
      rcases (hmem e).1 he with rfl | ⟨he, _⟩
      · exact ⟨kl, hkey⟩
      · exact hk e he
    · have : (es.modify j (fun e => { e with key, val := val })).toList.map (·.key) = es.toList.map (·.key) := by
        rw [hmod]
        apply List.ext_getElem?
        intro i
        simp only [List.getElem?_map, List.getElem?_modify]
        by_cases hij : j = i
        · subst hij; simp [h2, h3]
        · simp [hij]
      rw [this]; exact hn
    · intro k v
      constructor
      · rintro (⟨rfl, rfl⟩ | ⟨hne, hR⟩)
        · exact ⟨_, (hmem _).2 (.inl rfl), rfl, rfl⟩
        · obtain ⟨e, he, rfl, rfl⟩ := (hr _ _).1 hR
          exact ⟨e, (hmem _).2 (.inr ⟨he, hne⟩), rfl, rfl⟩
      · rintro ⟨e, he, rfl, rfl⟩
        rcases (hmem e).1 he with rfl | ⟨he, hne⟩
        · exact .inl ⟨rfl, rfl⟩
        · exact .inr ⟨hne, (hr _ _).2 ⟨e, he, rfl, rfl⟩⟩
    · have : (es.modify j (fun e => { e with key, val := val })).toList.map (·.born) = es.toList.map (·.born) := by
        rw [hmod]
        apply List.ext_getElem?
        intro i
        simp only [List.getElem?_map, List.getElem?_modify]
        by_cases hij : j = i
        · subst hij; simp [h2]
        · simp [hij]
      rw [this]; exact hbn
    · intro e he
      rcases (hmem e).1 he with rfl | ⟨he, _⟩
      · exact hbc e0 hm0
      · exact hbc e he

theorem MapRel.delete (h : MapRel P kt w b R) (K : Keyed P kt) (ht : P.underlying t = some (.map kt et)) {key : Value} {kl : Lit} (hkey : keyOf P kt key = some kl) (ty : TypeId) :
    ∃ es' clock', (Builtin.delete_ #[t, kt] ty #[.map (some b), key]).run P w = .ok (.tuple #[]) (w.putObj b (.map es' clock')) ∧
      MapRel P kt (w.putObj b (.map es' clock')) b (fun k v => k ≠ key ∧ R k v) := by
  obtain ⟨es, clock, hb, hk, hn, hr, hbn, hbc⟩ := h
  have hlt := (Array.getElem?_eq_some_iff.1 hb).1
  rcases K.find w hkey es.toList hk with ⟨h1, h2⟩ | ⟨j, e0, h1, h2, h3⟩
  · refine ⟨es, clock, ?_, es, clock, World.putObj_heap_same hlt, hk, hn, ?_, hbn, hbc⟩
    · simp [Builtin.delete_, run_underlying ht, MapKept.run_getObj_map hb, K.check w _ hkey, h1, MapKept.run_setObj_map _ hb, Result.andThen, World.putObj]
    · intro k v
      show k ≠ key ∧ R k v ↔ _
      rw [hr]
      exact ⟨fun h => h.2, fun h => ⟨fun e => by obtain ⟨x, hx, e1, _⟩ := h; exact h2 x hx (e1.trans e), h⟩⟩
  · have hjl : j < es.toList.length := (List.getElem?_eq_some_iff.1 h2).1
    have hjs : j < es.size := by simpa using hjl
    have hsub : (es.eraseIdxIfInBounds j).toList = es.toList.eraseIdx j := by
      unfold Array.eraseIdxIfInBounds
      rw [dif_pos hjs]
      simp
    have hm0 : e0 ∈ es.toList := List.mem_of_getElem? h2
    have hmem : ∀ e, e ∈ (es.eraseIdxIfInBounds j).toList ↔ e ∈ es.toList ∧ e.key ≠ key := by
      intro e
      rw [hsub]
      constructor
      · intro he
        obtain ⟨i, hi⟩ := List.mem_eraseIdx_iff_getElem?.1 he
        exact ⟨List.mem_of_getElem? hi.2, fun hek => hi.1 (nodup_idx hn hi.2 h2 (hek.trans h3.symm))⟩
      · rintro ⟨he, hek⟩
        obtain ⟨i, hi⟩ := List.mem_iff_getElem?.1 he
        refine List.mem_eraseIdx_iff_getElem?.2 ⟨i, fun e => ?_, hi⟩
        subst e
        rw [h2] at hi
        cases hi
        exact hek h3
    refine ⟨es.eraseIdxIfInBounds j, clock, ?_, es.eraseIdxIfInBounds j, clock, World.putObj_heap_same hlt, ?_, ?_, ?_, ?_, ?_⟩
    · simp [Builtin.delete_, run_underlying ht, MapKept.run_getObj_map hb, K.check w _ hkey, h1, MapKept.run_setObj_map _ hb, Result.andThen, World.putObj]
    · intro e he
      exact hk e ((hmem e).1 he).1
    · rw [hsub]
      exact List.Nodup.sublist ((List.eraseIdx_sublist _ _).map _) hn
    · intro k v
      show k ≠ key ∧ R k v ↔ _
      rw [hr]
      constructor
      · rintro ⟨hne, e, he, rfl, rfl⟩
        exact ⟨e, (hmem e).2 ⟨he, hne⟩, rfl, rfl⟩
      · rintro ⟨e, he, rfl, rfl⟩
        exact ⟨((hmem e).1 he).2, e, ((hmem e).1 he).1, rfl, rfl⟩
    · rw [hsub]
      exact List.Nodup.sublist ((List.eraseIdx_sublist _ _).map _) hbn
    · intro e he
      exact hbc e ((hmem e).1 he).1
end

end Go.Proofs.YtmndjicaofciiaaGreatDoor
