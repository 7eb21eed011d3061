/-
  Two sketches and two references beside each other.
-/
import Derived.Test.YtogkkghliogpeaaR9
import Derived.Test.YtogkkghliogpeaaR6
import Derived.Test.YtogkkghliogpeaaR5
import Derived.Test.YtogkkghliogpeaaP5
namespace Go.Proofs.Ytogkkghliogpeaa
open Go.RowKit Go.Shelf

/-- Two sketches and two references; the references may hold other lists. -/
structure RB (w W : World) (s1 b1 r1 : Nat) (v1 : Value) (k1 : Nat) (L1 M1 : List C) (s2 b2 r2 : Nat) (v2 : Value) (k2 : Nat) (L2 M2 : List C) : Prop where
  fam : Fam w W [⟨s1, b1, k1, L1⟩, ⟨s2, b2, k2, L2⟩]
  f1 : Rf W r1 v1 k1 (M1.map ctrOf)
  f2 : Rf W r2 v2 k2 (M2.map ctrOf)
  lo : w.heap.size ≤ r1 ∧ w.heap.size ≤ r2
  rr : r1 ≠ r2
  ap1 : r1 ≠ s1 ∧ r1 ≠ b1 ∧ r1 ≠ s2 ∧ r1 ≠ b2
  ap2 : r2 ≠ s1 ∧ r2 ≠ b1 ∧ r2 ≠ s2 ∧ r2 ≠ b2
  av1 : ∀ b, v1.ownBlock = some b → b ≠ s1 ∧ b ≠ b1 ∧ b ≠ s2 ∧ b ≠ b2 ∧ b ≠ r1 ∧ b ≠ r2
  av2 : ∀ b, v2.ownBlock = some b → b ≠ s1 ∧ b ≠ b1 ∧ b ≠ s2 ∧ b ≠ b2 ∧ b ≠ r1 ∧ b ≠ r2

section
variable {w W W' : World} {s1 b1 r1 : Nat} {v1 : Value} {k1 : Nat} {L1 M1 : List C} {s2 b2 r2 : Nat} {v2 : Value} {k2 : Nat} {L2 M2 : List C}

theorem Fam.swap2 {e f : SE} (h : Fam w W [e, f]) : Fam w W [f, e] :=
  ⟨h.k, fun x hx => h.sk x (by simp only [List.mem_cons, List.not_mem_nil, or_false] at hx ⊢; exact hx.symm), (by have := h.ds; simp only [List.map_cons, List.map_nil, List.nodup_cons, List.mem_cons, List.not_mem_nil, or_false, not_false_eq_true, List.nodup_nil, and_true] at this ⊢; exact fun e => this e.symm), (by have := h.db; simp only [List.map_cons, List.map_nil, List.nodup_cons, List.mem_cons, List.not_mem_nil, or_false, not_false_eq_true, List.nodup_nil, and_true] at this ⊢; exact fun e => this e.symm)⟩

theorem RB.keep (h : RB w W s1 b1 r1 v1 k1 L1 M1 s2 b2 r2 v2 k2 L2 M2) (k : Keep (fun _ => False) W W') : RB w W' s1 b1 r1 v1 k1 L1 M1 s2 b2 r2 v2 k2 L2 M2 :=
  ⟨h.fam.keep k, h.f1.kept k, h.f2.kept k, h.lo, h.rr, h.ap1, h.ap2, h.av1, h.av2⟩
theorem RB.sk1 (h : RB w W s1 b1 r1 v1 k1 L1 M1 s2 b2 r2 v2 k2 L2 M2) : Sk W s1 b1 k1 L1 := h.fam.at_ (A := []) (B := [_])
theorem RB.sk2 (h : RB w W s1 b1 r1 v1 k1 L1 M1 s2 b2 r2 v2 k2 L2 M2) : Sk W s2 b2 k2 L2 := h.fam.at_ (A := [_]) (B := [])
theorem RB.ne (h : RB w W s1 b1 r1 v1 k1 L1 M1 s2 b2 r2 v2 k2 L2 M2) : s1 ≠ s2 ∧ b1 ≠ b2 := by
  have h1 := h.fam.ds
  have h2 := h.fam.db
  simp only [List.map_cons, List.map_nil, List.nodup_cons, List.mem_cons, List.not_mem_nil, or_false, not_false_eq_true, List.nodup_nil, and_true] at h1 h2
  exact ⟨h1, h2⟩
theorem RB.swap (h : RB w W s1 b1 r1 v1 k1 L1 M1 s2 b2 r2 v2 k2 L2 M2) : RB w W s2 b2 r2 v2 k2 L2 M2 s1 b1 r1 v1 k1 L1 M1 :=
  ⟨h.fam.swap2, h.f2, h.f1, ⟨h.lo.2, h.lo.1⟩, h.rr.symm, ⟨h.ap2.2.2.1, h.ap2.2.2.2, h.ap2.1, h.ap2.2.1⟩, ⟨h.ap1.2.2.1, h.ap1.2.2.2, h.ap1.1, h.ap1.2.1⟩,
    (fun b e => by have := h.av2 b e; exact ⟨this.2.2.1, this.2.2.2.1, this.1, this.2.1, this.2.2.2.2.2, this.2.2.2.2.1⟩),
    (fun b e => by have := h.av1 b e; exact ⟨this.2.2.1, this.2.2.2.1, this.1, this.2.1, this.2.2.2.2.2, this.2.2.2.2.1⟩)⟩
theorem RB.upd (h : RB w W s1 b1 r1 v1 k1 L1 M1 s2 b2 r2 v2 k2 L2 M2) {N : List C} (k : Keep (fun k => k = s1 ∨ k = b1) W W') (n : Sk W' s1 b1 k1 N) : RB w W' s1 b1 r1 v1 k1 N M1 s2 b2 r2 v2 k2 L2 M2 :=
  ⟨h.fam.upd (A := []) (B := [_]) k n, h.f1.keep k (fun e => e.elim h.ap1.1 h.ap1.2.1) (fun b hb e => e.elim (h.av1 b hb).1 (h.av1 b hb).2.1), h.f2.keep k (fun e => e.elim h.ap2.1 h.ap2.2.1) (fun b hb e => e.elim (h.av2 b hb).1 (h.av2 b hb).2.1), h.lo, h.rr, h.ap1, h.ap2, h.av1, h.av2⟩
theorem RB.old (h : RB w W s1 b1 r1 v1 k1 L1 M1 s2 b2 r2 v2 k2 L2 M2) {x : Nat} (hx : x < w.heap.size) : ¬ (x = s1 ∨ x = b1 ∨ x = r1) := by
  have h1 := h.lo
  have h2 := (h.fam.sk _ (List.mem_cons_self)).2
  simp only [] at h2
  omega
theorem Rf.lt {r : Nat} {v : Value} {cap : Nat} {l : List K3} (h : Rf W r v cap l) : r < W.heap.size := World.block_lt_of_cell? _ _ h.c1
theorem RB.merged (h : RB w W s1 b1 r1 v1 k1 L1 M1 s2 b2 r2 v2 k2 L2 M2) {N : List C} {bn : Nat} (k : Keep (fun k => k = s1) W W') (n : Sk W' s1 bn k1 N) (hb : W.heap.size ≤ bn) : RB w W' s1 bn r1 v1 k1 N M1 s2 b2 r2 v2 k2 L2 M2 := by
  have l1 := h.f1.lt
  have l2 := h.f2.lt
  refine ⟨h.fam.merged (A := []) (B := [_]) k n hb, h.f1.keep k h.ap1.1 (fun b hb e => (h.av1 b hb).1 e), h.f2.keep k h.ap2.1 (fun b hb e => (h.av2 b hb).1 e), h.lo, h.rr, ⟨h.ap1.1, by omega, h.ap1.2.2⟩, ⟨h.ap2.1, by omega, h.ap2.2.2⟩, fun b e => ?_, fun b e => ?_⟩
  · have := h.av1 b e
    have := (h.f1.ne b e).2
    exact ⟨by omega, by omega, by omega, by omega, by omega, by omega⟩
  · have := h.av2 b e
    have := (h.f2.ne b e).2
    exact ⟨by omega, by omega, by omega, by omega, by omega, by omega⟩
theorem fam_keepA {l : List SE} {A : Nat → Prop} (h : Fam w W l) (k : Keep A W W') (h1 : ∀ e ∈ l, ¬ A e.s ∧ ¬ A e.bm) (h2 : ∀ i, A i → w.heap.size ≤ i) : Fam w W' l :=
  ⟨h.k.trans' k (fun i hi => .inr (h2 i hi)), fun e he => ⟨(h.sk e he).1.keep k (h1 e he).1 (h1 e he).2, (h.sk e he).2⟩, h.ds, h.db⟩
theorem RB.ref (h : RB w W s1 b1 r1 v1 k1 L1 M1 s2 b2 r2 v2 k2 L2 M2) {N : List C} {v' : Value} (k : Keep (fun k => k = r1) W W') (n : Rf W' r1 v' k1 (N.map ctrOf)) (hb : ∀ b, v'.ownBlock = some b → W.heap.size ≤ b) : RB w W' s1 b1 r1 v' k1 L1 N s2 b2 r2 v2 k2 L2 M2 := by
  have l1 := h.f1.lt
  have l2 := h.f2.lt
  have q1 := h.sk1.at_.lt
  have q2 := h.sk2.at_.lt
  refine ⟨fam_keepA h.fam k (fun e he => ?_) (fun i e => by have := h.lo; omega), n, h.f2.keep k (fun e => h.rr e.symm) (fun b e => (h.av2 b e).2.2.2.2.1), h.lo, h.rr, h.ap1, h.ap2, fun b e => ?_, h.av2⟩
  · simp only [List.mem_cons, List.not_mem_nil, or_false] at he
    rcases he with rfl | rfl
    · exact ⟨fun e => h.ap1.1 e.symm, fun e => h.ap1.2.1 e.symm⟩
    · exact ⟨fun e => h.ap1.2.2.1 e.symm, fun e => h.ap1.2.2.2 e.symm⟩
  · have := hb b e
    exact ⟨by omega, by omega, by omega, by omega, by omega, by omega⟩
end

/-- At the head of a round. -/
structure RG (w W : World) (s1 b1 r1 : Nat) (v1 : Value) (k1 : Nat) (L1 : List C) (s2 b2 r2 : Nat) (v2 : Value) (k2 : Nat) (L2 : List C) (i : Nat) : Prop where
  rb : RB w W s1 b1 r1 v1 k1 L1 L1 s2 b2 r2 v2 k2 L2 L2
  nm1 : Named L1
  nm2 : Named L2
  sm1 : sumH L1 ≤ 1000000000000000 + 1000000000 * i
  sm2 : sumH L2 ≤ 1000000000000000 + 1000000000 * i
section
variable {w W W' : World} {s1 b1 r1 : Nat} {v1 : Value} {k1 : Nat} {L1 : List C} {s2 b2 r2 : Nat} {v2 : Value} {k2 : Nat} {L2 : List C} {i : Nat}
theorem RG.keep (h : RG w W s1 b1 r1 v1 k1 L1 s2 b2 r2 v2 k2 L2 i) (k : Keep (fun _ => False) W W') : RG w W' s1 b1 r1 v1 k1 L1 s2 b2 r2 v2 k2 L2 i := ⟨h.rb.keep k, h.nm1, h.nm2, h.sm1, h.sm2⟩
theorem RG.swap (h : RG w W s1 b1 r1 v1 k1 L1 s2 b2 r2 v2 k2 L2 i) : RG w W s2 b2 r2 v2 k2 L2 s1 b1 r1 v1 k1 L1 i := ⟨h.rb.swap, h.nm2, h.nm1, h.sm2, h.sm1⟩
theorem RG.up (h : RG w W s1 b1 r1 v1 k1 L1 s2 b2 r2 v2 k2 L2 i) : RG w W s1 b1 r1 v1 k1 L1 s2 b2 r2 v2 k2 L2 (i + 1) := ⟨h.rb, h.nm1, h.nm2, by have := h.sm1; omega, by have := h.sm2; omega⟩
theorem RG.len1 (h : RG w W s1 b1 r1 v1 k1 L1 s2 b2 r2 v2 k2 L2 i) : L1.length ≤ 10 := h.nm1.len h.rb.sk1.ok.keys
theorem RG.mrg (h : RG w W s1 b1 r1 v1 k1 L1 s2 b2 r2 v2 k2 L2 i) (hb : ¬ mrgBad k1 L1 k2 L2) : Mrg k1 L1 k2 L2 := by
  unfold mrgBad at hb
  exact ⟨h.rb.sk1.ok, h.rb.sk2.ok, by omega, by omega, by omega, by have := h.nm1.union h.nm2 h.rb.sk1.ok.keys h.rb.sk2.ok.keys; omega⟩
theorem RG.add_next (h : RG w W s1 b1 r1 v1 k1 L1 s2 b2 r2 v2 k2 L2 i) {W5 : World} {v' : Value} {key : ByteArray} {n : Int} (hk : key ∈ nms) (hn : ¬ 1000000000 < n) (r : RB w W5 s1 b1 r1 v' k1 (addC k1 L1 key n) (addC k1 L1 key n) s2 b2 r2 v2 k2 L2 L2) : RG w W5 s1 b1 r1 v' k1 (addC k1 L1 key n) s2 b2 r2 v2 k2 L2 (i + 1) :=
  ⟨r, h.nm1.add hk, h.nm2, by rw [addC_sum h.rb.sk1.ok]; have := h.sm1; omega, by have := h.sm2; omega⟩
theorem RG.merge_next (h : RG w W s1 b1 r1 v1 k1 L1 s2 b2 r2 v2 k2 L2 i) {W5 : World} {bn : Nat} {v' : Value} (hm : Mrg k1 L1 k2 L2) (r : RB w W5 s1 bn r1 v' k1 (mergeC k1 L1 k2 L2) (mergeC k1 L1 k2 L2) s2 b2 r2 v2 k2 L2 L2) : RG w W5 s1 bn r1 v' k1 (mergeC k1 L1 k2 L2) s2 b2 r2 v2 k2 L2 (i + 1) :=
  ⟨r, h.nm1.merge h.nm2, h.nm2, by have := merge_sum hm; have := hm.s1; have := hm.s2; omega, by have := h.sm2; omega⟩
end
end Go.Proofs.Ytogkkghliogpeaa
