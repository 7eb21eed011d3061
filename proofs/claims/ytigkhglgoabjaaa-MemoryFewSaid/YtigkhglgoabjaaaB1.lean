/-
  What a pool is in memory, and what taking an entry away, putting it back and adding one makes of it.
-/
import Derived.Test.YtigkhglgoabjaaaA2
namespace Go.Proofs.Ytigkhglgoabjaaa
open Go.RowKit

/-- An entry, as data. -/
structure E where
  key : ByteArray
  t : Nat
  z : Int

/-- An entry and its block. -/
structure Ent where
  b : Nat
  e : E

abbrev at_ (b o : Nat) : Addr := ⟨b, o, none⟩
abbrev ptr (b : Nat) : Value := .pointer (some ⟨b, 0, none⟩)

/-- Each node leads to the next one, and back. -/
def Links (w : World) : List Nat → Prop
  | a :: b :: r => (w.cell? ⟨a, 4, none⟩ = some (ptr b) ∧ w.cell? ⟨b, 3, none⟩ = some (ptr a)) ∧ Links w (b :: r)
  | _ => True

theorem links_append {w : World} : ∀ (X : List Nat) (a : Nat) (Y : List Nat), Links w (X ++ a :: Y) ↔ Links w (X ++ [a]) ∧ Links w (a :: Y)
  | [], a, Y => by simp [Links]
  | [x], a, Y => by simp [Links]
  | x :: y :: r, a, Y => by
    have := links_append (w := w) (y :: r) a Y
    simp only [List.cons_append] at this ⊢
    simp only [Links]
    rw [this]
    constructor <;> (intro h; simp_all)

theorem links_join {w : World} {A : List Nat} {a c : Nat} {C : List Nat} (h1 : Links w (A ++ [a])) (h2 : w.cell? ⟨a, 4, none⟩ = some (ptr c)) (h3 : w.cell? ⟨c, 3, none⟩ = some (ptr a)) (h4 : Links w (c :: C)) :
    Links w (A ++ a :: c :: C) := (links_append A a (c :: C)).2 ⟨h1, ⟨h2, h3⟩, h4⟩

theorem links_split {w : World} {A : List Nat} {a c : Nat} {C : List Nat} (h : Links w (A ++ a :: c :: C)) :
    Links w (A ++ [a]) ∧ (w.cell? ⟨a, 4, none⟩ = some (ptr c) ∧ w.cell? ⟨c, 3, none⟩ = some (ptr a)) ∧ Links w (c :: C) := (links_append A a (c :: C)).1 h

theorem links_frame {w w' : World} : ∀ (p : List Nat), (∀ a ∈ p.dropLast, w'.cell? ⟨a, 4, none⟩ = w.cell? ⟨a, 4, none⟩) → (∀ b ∈ p.tail, w'.cell? ⟨b, 3, none⟩ = w.cell? ⟨b, 3, none⟩) → Links w p → Links w' p
  | [], _, _, _ => trivial
  | [_], _, _, _ => trivial
  | a :: b :: r, h4, h3, h => by
    obtain ⟨⟨l1, l2⟩, l3⟩ := h
    refine ⟨⟨(h4 a (by simp)).trans l1, (h3 b (by simp)).trans l2⟩, links_frame (b :: r) (fun x hx => h4 x ?_) (fun x hx => h3 x ?_) l3⟩
    · simp [List.dropLast] at hx ⊢; exact .inr hx
    · simp at hx ⊢; exact .inr hx

theorem links_cell4 {w : World} : ∀ (p : List Nat), Links w p → ∀ a ∈ p.dropLast, ∃ v, w.cell? ⟨a, 4, none⟩ = some v
  | [], _, _, h => by simp at h
  | [_], _, _, h => by simp at h
  | x :: y :: r, h, a, ha => by
    obtain ⟨⟨l1, l2⟩, l3⟩ := h
    simp [List.dropLast] at ha
    rcases ha with rfl | ha
    · exact ⟨_, l1⟩
    · exact links_cell4 (y :: r) l3 a (by simpa [List.dropLast] using ha)

/-- The i-th step of a path. -/
theorem links_get {w : World} : ∀ (p : List Nat) (i a b : Nat), Links w p → p[i]? = some a → p[i + 1]? = some b → w.cell? ⟨a, 4, none⟩ = some (ptr b) ∧ w.cell? ⟨b, 3, none⟩ = some (ptr a)
  | [], _, _, _, _, h, _ => by simp at h
  | [_], i, _, _, _, _, h => by simp at h
  | x :: y :: r, 0, a, b, hl, h1, h2 => by
    simp at h1 h2
    subst h1; subst h2
    exact hl.1
  | x :: y :: r, i + 1, a, b, hl, h1, h2 => links_get (y :: r) i a b hl.2 (by simpa using h1) (by simpa using h2)

theorem last_of (b : Nat) (l : List Nat) : ∃ A a, b :: l = A ++ [a] := ⟨(b :: l).dropLast, (b :: l).getLast (by simp), (List.dropLast_concat_getLast (by simp)).symm⟩
theorem head_of (b : Nat) (l : List Nat) : ∃ c C, l ++ [b] = c :: C := by cases l with | nil => exact ⟨b, [], rfl⟩ | cons x r => exact ⟨x, r ++ [b], rfl⟩

/-- Four cells and one map have turned. -/
structure Upd (w w' : World) (a c bu t bp bm : Nat) (v1 v2 : Value) (u f : Int) (R' : Value → Value → Prop) : Prop where
  keep : Keep (fun k => k = a ∨ k = c ∨ k = bu ∨ k = bp ∨ k = bm) w w'
  c1 : w'.cell? ⟨a, 4, none⟩ = some v1
  c2 : w'.cell? ⟨c, 3, none⟩ = some v2
  c3 : w'.cell? ⟨bu, t, none⟩ = some (.int .i64 u)
  c4 : w'.cell? ⟨bp, 9, none⟩ = some (.int .i64 f)
  oth : ∀ b o, b ≠ bm → ¬ (b = a ∧ o = 4) → ¬ (b = c ∧ o = 3) → ¬ (b = bu ∧ o = t) → ¬ (b = bp ∧ o = 9) → w'.cell? ⟨b, o, none⟩ = w.cell? ⟨b, o, none⟩
  frz : ∀ b o, b ≠ bm → w'.frozen? ⟨b, o, none⟩ = w.frozen? ⟨b, o, none⟩
  map : MapRel Try.prog 9 w' bm R'

theorem cell_drewN (X : World) (k : Nat) (a : Addr) : (X.drewN k).cell? a = X.cell? a := rfl
theorem frozen_drewN (X : World) (k : Nat) (a : Addr) : (X.drewN k).frozen? a = X.frozen? a := rfl
theorem Keep.drewN {A : Nat → Prop} {a w : World} (h : Keep A a w) (k : Nat) : Keep A a (w.drewN k) := ⟨h.os, h.tape, h.output, h.size, h.block⟩

theorem blk_lt {w : World} {b o : Nat} {v : Value} (h : w.cell? ⟨b, o, none⟩ = some v) : b < w.heap.size := World.block_lt_of_cell? _ _ h
theorem Keep.frozen {A : Nat → Prop} {w w' : World} (k : Keep A w w') {b : Nat} (hb : b < w.heap.size) (hA : ¬ A b) (o : Nat) : w'.frozen? ⟨b, o, none⟩ = w.frozen? ⟨b, o, none⟩ :=
  World.frozen?_of_block (w := w) (a := ⟨b, o, none⟩) (k.block _ hb hA)

theorem upd_of {w w' : World} {a c bu t bp bm : Nat} {v1 v2 : Value} {u f : Int} {R' : Value → Value → Prop} {ob : Obj} {k : Nat} {va vc vu vf : Value}
    (hw : w' = (((((w.setCell ⟨a, 4, none⟩ v1).setCell ⟨c, 3, none⟩ v2).putObj bm ob).setCell ⟨bu, t, none⟩ (.int .i64 u)).setCell ⟨bp, 9, none⟩ (.int .i64 f)).drewN k)
    (hm : MapRel Try.prog 9 w' bm R') (ha : w.cell? ⟨a, 4, none⟩ = some va) (hc : w.cell? ⟨c, 3, none⟩ = some vc) (hu : w.cell? ⟨bu, t, none⟩ = some vu) (hp : w.cell? ⟨bp, 9, none⟩ = some vf)
    (nab : a ≠ bm) (ncb : c ≠ bm) (nub : bu ≠ bm) (npb : bp ≠ bm) (nau : a ≠ bu) (ncu : c ≠ bu) (npu : bp ≠ bu) : Upd w w' a c bu t bp bm v1 v2 u f R' := by
  have e : ∀ b o, w'.cell? ⟨b, o, none⟩ = (((((w.setCell ⟨a, 4, none⟩ v1).setCell ⟨c, 3, none⟩ v2).putObj bm ob).setCell ⟨bu, t, none⟩ (.int .i64 u)).setCell ⟨bp, 9, none⟩ (.int .i64 f)).cell? ⟨b, o, none⟩ := fun b o => by rw [hw, cell_drewN]
  refine ⟨?_, ?_, ?_, ?_, ?_, ?_, ?_, hm⟩
  · rw [hw]
    have k0 := ((((((Keep.refl (fun k => k = a ∨ k = c ∨ k = bu ∨ k = bp ∨ k = bm) w).setCell (p := ⟨a, 4, none⟩) v1 (by simp)).setCell (p := ⟨c, 3, none⟩) v2 (by simp)).putObj (b := bm) ob (by simp)).setCell (p := ⟨bu, t, none⟩) (.int .i64 u) (by simp)).setCell (p := ⟨bp, 9, none⟩) (.int .i64 f) (by simp))
    exact k0.drewN k
  · rw [e, cell_set_off (by decide), cell_set_blk nau.symm, cell_put nab, cell_set_off (by decide)]
    exact cell_set_same ha
  · rw [e, cell_set_off (by decide), cell_set_blk ncu.symm, cell_put ncb]
    exact cell_set_same (by rw [cell_set_off (by decide)]; exact hc)
  · rw [e, cell_set_blk npu]
    exact cell_set_same (by rw [cell_put nub, cell_set_blk ncu, cell_set_blk nau]; exact hu)
  · rw [e]
    exact cell_set_same (by rw [cell_set_blk npu.symm, cell_put npb, cell_set_off (by decide), cell_set_off (by decide)]; exact hp)
  · intro b o hb h1 h2 h3 h4
    have n4 : bp ≠ b ∨ 9 ≠ o := by
      by_cases hx : bp = b
      · right; omega
      · left; exact hx
    have n3 : bu ≠ b ∨ t ≠ o := by
      by_cases hx : bu = b
      · right; omega
      · left; exact hx
    have n2 : c ≠ b ∨ 3 ≠ o := by
      by_cases hx : c = b
      · right; omega
      · left; exact hx
    have n1 : a ≠ b ∨ 4 ≠ o := by
      by_cases hx : a = b
      · right; omega
      · left; exact hx
    rw [e, cell_set_ne n4, cell_set_ne n3, cell_put hb, cell_set_ne n2, cell_set_ne n1]
  · intro b o hb
    rw [hw, frozen_drewN, World.frozen?_setCell, World.frozen?_setCell, frozen_put hb, World.frozen?_setCell, World.frozen?_setCell]

/-! ### the pool -/
def usedOf (L : List E) (t : Nat) : Int := (L.map fun e => if e.t = t then e.z else 0).sum
def tot (L : List E) : Int := (L.map (·.z)).sum

structure Gh where
  bp : Nat
  bs : Nat
  bu : Nat
  bm : Nat
  sc : Nat
  uc : Nat
  cap : Int
  sh : List Int
  L : List Ent

abbrev Gh.es (g : Gh) : List E := g.L.map Ent.e
abbrev Gh.bl (g : Gh) : List Nat := g.L.map Ent.b

/-- The fields of an entry. -/
structure EntIs (w : World) (x : Ent) : Prop where
  c0 : w.cell? ⟨x.b, 0, none⟩ = some (.string x.e.key)
  c1 : w.cell? ⟨x.b, 1, none⟩ = some (.int .i64 x.e.t)
  c2 : w.cell? ⟨x.b, 2, none⟩ = some (.int .i64 x.e.z)
  fz : ∀ o, w.frozen? ⟨x.b, o, none⟩ = false

structure PoolIs (w : World) (g : Gh) : Prop where
  c5 : w.cell? ⟨g.bp, 5, none⟩ = some (.int .i64 g.cap)
  c6 : w.cell? ⟨g.bp, 6, none⟩ = some (.slice (some ⟨g.bs, 0, none⟩) g.sh.length g.sc)
  c7 : w.cell? ⟨g.bp, 7, none⟩ = some (.slice (some ⟨g.bu, 0, none⟩) g.sh.length g.uc)
  c8 : w.cell? ⟨g.bp, 8, none⟩ = some (.map (some g.bm))
  c9 : w.cell? ⟨g.bp, 9, none⟩ = some (.int .i64 (g.cap - tot g.es))
  fp : ∀ o, w.frozen? ⟨g.bp, o, none⟩ = false
  fu : ∀ o, w.frozen? ⟨g.bu, o, none⟩ = false
  sh : ∀ (i : Nat) (x : Int), g.sh[i]? = some x → w.cell? ⟨g.bs, i, none⟩ = some (.int .i64 x)
  us : ∀ i, i < g.sh.length → w.cell? ⟨g.bu, i, none⟩ = some (.int .i64 (usedOf g.es i))
  links : Links w (g.bp :: g.bl ++ [g.bp])
  ents : ∀ x ∈ g.L, EntIs w x
  map : MapRel Try.prog 9 w g.bm (fun k v => ∃ x ∈ g.L, k = .string x.e.key ∧ v = ptr x.b)
  nd : (g.bp :: g.bs :: g.bu :: g.bl).Nodup
  keys : (g.es.map E.key).Nodup
  ks : ∀ x ∈ g.es, x.key.size ≤ maxLen
  rng : ∀ x ∈ g.es, x.t < g.sh.length ∧ 1 ≤ x.z
  n0 : 0 < g.sh.length
  n8 : g.sh.length ≤ 8
  cap : g.cap ≤ 1000000
  le : tot g.es ≤ g.cap
  shr : ∀ x ∈ g.sh, 0 ≤ x ∧ x ≤ 1000000

/-- The blocks of a pool. -/
def Gh.foot (g : Gh) (k : Nat) : Prop := k = g.bp ∨ k = g.bs ∨ k = g.bu ∨ k = g.bm ∨ k ∈ g.bl

theorem EntIs.keep {w w' : World} {x : Ent} {A : Nat → Prop} (h : EntIs w x) (k : Keep A w w') (hA : ¬ A x.b) : EntIs w' x :=
  ⟨k.cell h.c0 hA, k.cell h.c1 hA, k.cell h.c2 hA, fun o => (k.frozen (blk_lt h.c0) hA o).trans (h.fz o)⟩

theorem mem_ring {x : Nat} {g : Gh} (h : x ∈ g.bp :: g.bl ++ [g.bp]) : x = g.bp ∨ x ∈ g.bl := by
  simp only [List.cons_append, List.mem_cons, List.mem_append, List.not_mem_nil, or_false] at h
  rcases h with h | h | h
  · exact .inl h
  · exact .inr h
  · exact .inl h

theorem PoolIs.keep {w w' : World} {g : Gh} {A : Nat → Prop} (h : PoolIs w g) (k : Keep A w w') (hA : ∀ i, g.foot i → ¬ A i) : PoolIs w' g := by
  have fb : ∀ b, g.foot b → ∀ o v, w.cell? ⟨b, o, none⟩ = some v → w'.cell? ⟨b, o, none⟩ = some v := fun b hb o v hc => k.cell hc (hA b hb)
  have hp : g.foot g.bp := .inl rfl
  have hs : g.foot g.bs := .inr (.inl rfl)
  have hu : g.foot g.bu := .inr (.inr (.inl rfl))
  have hm : g.foot g.bm := .inr (.inr (.inr (.inl rfl)))
  have hl : ∀ b ∈ g.bl, g.foot b := fun b hb => .inr (.inr (.inr (.inr hb)))
  have ring : ∀ b ∈ g.bp :: g.bl ++ [g.bp], b < w.heap.size ∧ ¬ A b := fun b hb => by
    rcases mem_ring hb with rfl | hb
    · exact ⟨World.block_lt_of_cell? _ _ h.c5, hA _ hp⟩
    · obtain ⟨x, hx, rfl⟩ := List.mem_map.1 hb
      exact ⟨World.block_lt_of_cell? _ _ (h.ents x hx).c0, hA _ (hl _ hb)⟩
  refine { h with c5 := fb _ hp _ _ h.c5, c6 := fb _ hp _ _ h.c6, c7 := fb _ hp _ _ h.c7, c8 := fb _ hp _ _ h.c8, c9 := fb _ hp _ _ h.c9, fp := fun o => ?_, fu := fun o => ?_, sh := fun i x hx => fb _ hs _ _ (h.sh i x hx), us := fun i hi => fb _ hu _ _ (h.us i hi), links := ?_, ents := fun x hx => (h.ents x hx).keep k (hA _ (hl _ (List.mem_map_of_mem hx))), map := h.map.of_heap (k.block _ h.map.lt (hA _ hm)) }
  · exact (k.frozen (blk_lt h.c5) (hA _ hp) o).trans (h.fp o)
  · exact (k.frozen (blk_lt (h.us 0 h.n0)) (hA _ hu) o).trans (h.fu o)
  · refine links_frame _ (fun a ha => ?_) (fun b hb => ?_) h.links
    · obtain ⟨h1, h2⟩ := ring a (List.dropLast_subset _ ha)
      exact World.cell?_of_block (w := w) (a := ⟨a, 4, none⟩) (k.block _ h1 h2)
    · obtain ⟨h1, h2⟩ := ring b (List.mem_of_mem_tail hb)
      exact World.cell?_of_block (w := w) (a := ⟨b, 3, none⟩) (k.block _ h1 h2)

theorem PoolIs.drew {w : World} {g : Gh} (h : PoolIs w g) : PoolIs w.drew g := h.keep (A := fun _ => False) (Keep.refl _ w).drew (fun _ _ h => h)
theorem PoolIs.alloc {w : World} {g : Gh} (h : PoolIs w g) (o : Obj) : PoolIs (w.alloc o) g := h.keep (A := fun _ => False) ((Keep.refl _ w).alloc o) (fun _ _ h => h)

theorem PoolIs.foot_lt {w : World} {g : Gh} (h : PoolIs w g) {k : Nat} (hk : g.foot k) : k < w.heap.size := by
  rcases hk with rfl | rfl | rfl | rfl | hk
  · exact World.block_lt_of_cell? _ _ h.c5
  · obtain ⟨x, hx⟩ : ∃ x, g.sh[0]? = some x := ⟨_, List.getElem?_eq_getElem h.n0⟩
    exact World.block_lt_of_cell? _ _ (h.sh 0 x hx)
  · exact World.block_lt_of_cell? _ _ (h.us 0 h.n0)
  · exact h.map.lt
  · obtain ⟨x, hx, rfl⟩ := List.mem_map.1 hk
    exact World.block_lt_of_cell? _ _ (h.ents x hx).c0

/-- The one lemma on a turn of the pool: the list L becomes L'. -/
theorem PoolIs.turn {w w' : World} {g : Gh} {a c t : Nat} {v1 v2 : Value} {u f : Int} {R' : Value → Value → Prop} (L' : List Ent) (h : PoolIs w g) (hU : Upd w w' a c g.bu t g.bp g.bm v1 v2 u f R')
    (has : a ≠ g.bs) (hcs : c ≠ g.bs) (hau : a ≠ g.bu) (hcu : c ≠ g.bu)
    (hlinks : Links w' (g.bp :: L'.map Ent.b ++ [g.bp])) (hents : ∀ x ∈ L', EntIs w x)
    (hused : ∀ i, i < g.sh.length → usedOf (L'.map Ent.e) i = if i = t then u else usedOf g.es i) (hf : f = g.cap - tot (L'.map Ent.e))
    (hR : ∀ k v, R' k v ↔ ∃ x ∈ L', k = .string x.e.key ∧ v = ptr x.b)
    (hnd : (g.bp :: g.bs :: g.bu :: L'.map Ent.b).Nodup) (hkeys : ((L'.map Ent.e).map E.key).Nodup) (hks : ∀ x ∈ L'.map Ent.e, x.key.size ≤ maxLen) (hrng : ∀ x ∈ L'.map Ent.e, x.t < g.sh.length ∧ 1 ≤ x.z) (hle : tot (L'.map Ent.e) ≤ g.cap) :
    PoolIs w' { g with L := L' } := by
  have hpm : g.bp ≠ g.bm := h.map.not_cell h.c5
  have hum : g.bu ≠ g.bm := h.map.not_cell (h.us 0 h.n0)
  obtain ⟨x0, hx0⟩ : ∃ x, g.sh[0]? = some x := ⟨_, List.getElem?_eq_getElem h.n0⟩
  have hsm : g.bs ≠ g.bm := h.map.not_cell (h.sh 0 x0 hx0)
  simp only [List.nodup_cons, List.mem_cons, not_or] at hnd
  obtain ⟨⟨hps, hpu, hpL⟩, ⟨hsu, hsL⟩, huL, hLL⟩ := hnd
  have fp : ∀ o v, o ≠ 3 → o ≠ 4 → o ≠ 9 → w.cell? ⟨g.bp, o, none⟩ = some v → w'.cell? ⟨g.bp, o, none⟩ = some v := fun o v h3 h4 h9 hc =>
    (hU.oth g.bp o hpm (by omega) (by omega) (fun e => hpu e.1) (by omega)).trans hc
  refine ⟨fp 5 _ (by decide) (by decide) (by decide) h.c5, fp 6 _ (by decide) (by decide) (by decide) h.c6, fp 7 _ (by decide) (by decide) (by decide) h.c7, fp 8 _ (by decide) (by decide) (by decide) h.c8,
    by rw [hU.c4, hf], fun o => (hU.frz _ _ hpm).trans (h.fp o), fun o => (hU.frz _ _ hum).trans (h.fu o), fun i x hx => ?_, fun i hi => ?_, hlinks, fun x hx => ?_, hU.map.congr (fun k v => (hR k v).symm), ?_, hkeys, hks, hrng, h.n0, h.n8, h.cap, hle, h.shr⟩
  · exact (hU.oth g.bs i hsm (fun e => has e.1.symm) (fun e => hcs e.1.symm) (fun e => hsu e.1) (fun e => hps e.1.symm)).trans (h.sh i x hx)
  · show w'.cell? ⟨g.bu, i, none⟩ = some (.int .i64 (usedOf (L'.map Ent.e) i))
    rw [hused i hi]
    by_cases hit : i = t
    · subst hit; rw [if_pos rfl]; exact hU.c3
    · rw [if_neg hit]
      exact (hU.oth g.bu i hum (fun e => hau e.1.symm) (fun e => hcu e.1.symm) (fun e => hit e.2) (fun e => hpu e.1.symm)).trans (h.us i hi)
  · have hx' := hents x hx
    have hxb : x.b ∈ L'.map Ent.b := List.mem_map_of_mem hx
    have hxm : x.b ≠ g.bm := h.map.not_cell hx'.c0
    have hxu : x.b ≠ g.bu := fun e => huL (e ▸ hxb)
    have hxp : x.b ≠ g.bp := fun e => hpL (e ▸ hxb)
    exact ⟨(hU.oth _ _ hxm (by omega) (by omega) (fun e => hxu e.1) (fun e => hxp e.1)).trans hx'.c0, (hU.oth _ _ hxm (by omega) (by omega) (fun e => hxu e.1) (fun e => hxp e.1)).trans hx'.c1,
      (hU.oth _ _ hxm (by omega) (by omega) (fun e => hxu e.1) (fun e => hxp e.1)).trans hx'.c2, fun o => (hU.frz _ _ hxm).trans (hx'.fz o)⟩
  · simp only [List.nodup_cons, List.mem_cons, not_or]
    exact ⟨⟨hps, hpu, hpL⟩, ⟨hsu, hsL⟩, huL, hLL⟩

end Go.Proofs.Ytigkhglgoabjaaa
