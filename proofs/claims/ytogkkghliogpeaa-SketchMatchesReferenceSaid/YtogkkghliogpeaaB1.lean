/-
  What a sketch is in memory; compare.
-/
import Derived.Test.YtogkkghliogpeaaA1
import Derived.StillTailTactics
import Derived.Maps.Keyed
import Derived.Deep.QuietTactic
import Derived.BigQuiet
namespace Go.Proofs.Ytogkkghliogpeaa
open Go.RowKit

/-- A counter: its key and the bounds. -/
structure C where
  key : ByteArray
  lo : Int
  hi : Int

abbrev ptr (b : Nat) : Value := .pointer (some ⟨b, 0, none⟩)
abbrev bnd (lo hi : Int) : Value := .agg #[.int .i64 lo, .int .i64 hi]
def CRel (L : List C) (k v : Value) : Prop := ∃ x ∈ L, k = .string x.key ∧ v = bnd x.lo x.hi

theorem strKeyed : Maps.Keyed Try.prog 9 := Maps.string_keyed Try.underlying9
theorem keyStr {s : ByteArray} (h : s.size ≤ maxLen) : keyOf Try.prog 9 (.string s) = some (.string s.data.toList) := Go.WideMaps.keyOf_string_mk Try.underlying9 h

/-- The counter of a key. -/
def atC (L : List C) (key : ByteArray) : Option C := L.find? (fun x => decide (x.key = key))
def loOf (L : List C) (key : ByteArray) : Int := match atC L key with | none => 0 | some x => x.lo
def hiOf (L : List C) (key : ByteArray) : Int := match atC L key with | none => 0 | some x => x.hi

theorem atC_some {L : List C} {key : ByteArray} {x : C} (h : atC L key = some x) : x ∈ L ∧ x.key = key := by
  have h1 := List.find?_some h
  exact ⟨List.mem_of_find?_eq_some h, by simpa using h1⟩
theorem atC_none {L : List C} {key : ByteArray} (h : atC L key = none) : ∀ x ∈ L, x.key ≠ key := fun x hx e => by
  have := List.find?_eq_none.1 h x hx
  simp [e] at this

theorem zero60 (w : World) : (zeroValue 60).run Try.prog w = .ok (bnd 0 0) w := by kernel_rfl

/-- A lookup. -/
theorem look_one {L : List C} {w : World} {bm : Nat} (h : MapRel Try.prog 9 w bm (CRel L)) {key : ByteArray} (hk : key.size ≤ maxLen) :
    (Instr.lookup 56 (.map (some bm)) (.string key) false).run Try.prog w = .ok (bnd (loOf L key) (hiOf L key)) w := by
  unfold loOf hiOf
  rcases h.look strKeyed Try.underlying56 (zero60 w) false (keyStr hk) with ⟨h1, h2⟩ | ⟨v, h1, h2⟩
  · rw [h2]
    cases ha : atC L key with
    | none => rfl
    | some x =>
      obtain ⟨hx, hxk⟩ := atC_some ha
      exact absurd ⟨x, hx, by rw [hxk], rfl⟩ (h1 (bnd x.lo x.hi))
  · rw [h2]
    cases ha : atC L key with
    | none =>
      obtain ⟨x, hx, e, _⟩ := h1
      exact absurd (Value.string.inj e).symm (atC_none ha x hx)
    | some x =>
      obtain ⟨hx, hxk⟩ := atC_some ha
      have e : v = bnd x.lo x.hi := h.fn h1 ⟨x, hx, by rw [hxk], rfl⟩
      subst e
      rfl
theorem look_two {L : List C} {w : World} {bm : Nat} (h : MapRel Try.prog 9 w bm (CRel L)) {key : ByteArray} (hk : key.size ≤ maxLen) :
    (Instr.lookup 56 (.map (some bm)) (.string key) true).run Try.prog w = .ok (.tuple #[bnd (loOf L key) (hiOf L key), .bool (atC L key).isSome]) w := by
  unfold loOf hiOf
  rcases h.look strKeyed Try.underlying56 (zero60 w) true (keyStr hk) with ⟨h1, h2⟩ | ⟨v, h1, h2⟩
  · rw [h2]
    cases ha : atC L key with
    | none => rfl
    | some x =>
      obtain ⟨hx, hxk⟩ := atC_some ha
      exact absurd ⟨x, hx, by rw [hxk], rfl⟩ (h1 (bnd x.lo x.hi))
  · rw [h2]
    cases ha : atC L key with
    | none =>
      obtain ⟨x, hx, e, _⟩ := h1
      exact absurd (Value.string.inj e).symm (atC_none ha x hx)
    | some x =>
      obtain ⟨hx, hxk⟩ := atC_some ha
      have e : v = bnd x.lo x.hi := h.fn h1 ⟨x, hx, by rw [hxk], rfl⟩
      subst e
      rfl

/-- How the sketch orders two keys. -/
def cmpK (L : List C) (a b : ByteArray) : Int := orI (cmpI (hiOf L b) (hiOf L a)) (cmpS a b)

theorem cmp_int' (a b : Int) (w : World) : Calls Try.prog 48 #[.int .i64 a, .int .i64 b] w fun e w' => e = .returned (.int .i64 (cmpI a b)) ∧ w' = w := (cmp_int a b w).mono fun _ _ ⟨h1, h2⟩ => ⟨h1, h2.symm⟩
theorem cmp_str' (a b : ByteArray) (w : World) : Calls Try.prog 49 #[.string a, .string b] w fun e w' => e = .returned (.int .i64 (cmpS a b)) ∧ w' = w := (cmp_str a b w).mono fun _ _ ⟨h1, h2⟩ => ⟨h1, h2.symm⟩

theorem ints_cell (W : World) (x y : Int) : (W.alloc (.cells #[.int .i64 x, .int .i64 y] 3)).cell? ⟨W.heap.size, 0, none⟩ = some (.int .i64 x) ∧ (W.alloc (.cells #[.int .i64 x, .int .i64 y] 3)).cell? ⟨W.heap.size, 1, none⟩ = some (.int .i64 y) := by
  have hh : (W.alloc (.cells #[.int .i64 x, .int .i64 y] 3)).heap[W.heap.size]? = some (.cells #[.int .i64 x, .int .i64 y] 3) := World.alloc_heap_new _ _
  constructor
  · unfold World.cell?; simp only [hh]; rfl
  · unfold World.cell?; simp only [hh]; rfl

theorem field_hi (lo hi : Int) (w : World) : (Instr.field 60 (bnd lo hi) 1).run Try.prog w = .ok (.int .i64 hi) w := by kernel_rfl
theorem field_lo (lo hi : Int) (w : World) : (Instr.field 60 (bnd lo hi) 0).run Try.prog w = .ok (.int .i64 lo) w := by kernel_rfl

set_option maxRecDepth 100000 in
set_option maxHeartbeats 1000000 in
theorem compare_any (s bm : Nat) (L : List C) (a b : ByteArray) (w : World) (h2 : w.cell? ⟨s, 2, none⟩ = some (.map (some bm))) (hm : MapRel Try.prog 9 w bm (CRel L)) (ha : a.size ≤ maxLen) (hb : b.size ≤ maxLen) :
    Calls Try.prog 43 #[ptr s, .string a, .string b] w fun e w' => e = .returned (.int .i64 (cmpK L a b)) ∧ w' = (w.alloc (.cells #[.int .i64 (cmpI (hiOf L b) (hiOf L a)), .int .i64 (cmpS a b)] 3)).drewN 1 := by
  have la := look_one (w := w.drew) (hm.of_heap rfl) ha
  have lb := look_one (w := w.drew) (hm.of_heap rfl) hb
  have HM := Lib.hid hm
  have fa := field_hi (loOf L a) (hiOf L a) w.drew
  have fb := field_hi (loOf L b) (hiOf L b) w.drew
  have h2' : w.drew.cell? ⟨s, 2, none⟩ = some (.map (some bm)) := h2
  clear hm ha hb h2
  go_enter Try.func43, Try.ntmps43
  go_wp2_with fail
  refine wp_region_still_tail 18 (by kernel_rfl) (by kernel_rfl) ?_
  simp only [List.take_succ_cons, List.take_zero, List.drop_succ_cons, List.drop_zero]
  change wpStill _ _ w.drew _ _ _
  iterate 14 still_step
  still_call (cmp_int' _ _ _)
  iterate 2 still_step
  still_call (cmp_str' _ _ _)
  refine wpStill_nil ?_
  obtain ⟨hc0, hc1⟩ := ints_cell w.drew (cmpI (hiOf L b) (hiOf L a)) (cmpS a b)
  go_wp2_with (go_at_call 47; refine (cmp_or _ 2 _ _ _ hc0 hc1).mono ?_; rintro e w' ⟨rfl, rfl⟩)
  go_ret
  exact ⟨rfl, rfl⟩
end Go.Proofs.Ytogkkghliogpeaa
