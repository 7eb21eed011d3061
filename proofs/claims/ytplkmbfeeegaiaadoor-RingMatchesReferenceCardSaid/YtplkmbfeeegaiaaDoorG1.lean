/-
  A range over a function whose iterator yields a list that is known ahead: one law for the caller, by index.
-/
import Derived.RangeFuncNested
import Derived.RangeFuncBound
import Derived.RangeFuncCalls
import Derived.RangeFuncLeaves
import Derived.Shelf.Abstract
import Derived.Shelf.RegionOpen
import Derived.WalkKit
import Derived.OwnWalkIn
import Derived.TacticsInMore
import Derived.LoopNIn
import Derived.LoopIn
namespace Go.Proofs.YtplkmbfeeegaiaaDoor
open Go Go.RowKit

/-- What an iterator with N known values does, in the wide fence: it reads under A, it leaves the heap alone by itself. -/
def IterL (P : Program) (gf : Nat) (lb : Array Value) (N : Nat) (encs : Nat → Array Value) (A : World → Prop) : Prop :=
  ∀ (l : Nat) (J Jx : Nat → World → Prop) (W : World),
    (∀ i V, J i V → A V) → (∀ i V V', J i V → V.grownBy V' none → J i V') →
    (∀ i V, i < N → J i V → YieldAt Fence.wide 0 P l (encs i) V fun e V' => (e = .returned (.bool true) ∧ J (i + 1) V') ∨ (e = .returned (.bool false) ∧ Jx i V')) →
    J 0 W →
    CallsIn Fence.wide 0 P gf (#[.func (.yield l) #[] #[]] ++ lb) W fun e W' => (∃ v, e = .returned v) ∧ (J N W' ∨ ∃ i, i < N ∧ Jx i W')

/-- How a round's body may be left. -/
def roundL (B : Nat) (I : Nat → World → Prop) (Ix : Code → Nat → World → Prop) (i : Nat) (V : World) : Exit → Act → World → Prop
  | .normal, _, V' => KeepsFrom B V V' ∧ I (i + 1) V'
  | .ret, _, V' => KeepsFrom B V V' ∧ Ix .ret i V'
  | .exit id, _, V' => KeepsFrom B V V' ∧ Ix (.exit id) i V'
  | .goto t, _, V' => KeepsFrom B V V' ∧ Ix (.goto t) i V'
  | .panic _, _, _ => False
  | .outgrown, _, _ => False

theorem grownBy_drew (W : World) : W.grownBy W.drew none := ⟨rfl, rfl, rfl, Nat.le_refl _, fun _ _ _ => rfl⟩

theorem range_list {P : Program} {g : Operand} {ps : Array Tmp} {assign body : Code} {Q : Exit → Act → World → Prop} {a : Act} {w : World}
    {gf : Nat} {lb : Array Value} (hg : a.eval g = .func (.func gf) #[] lb) (eg : ∀ args w, (callFunc gf args).run P w = .ok (.enter gf args) w)
    {N : Nat} {encs : Nat → Array Value} {A : World → Prop} (hseq : IterL P gf lb N encs A) (hps : ∀ i, i < N → (encs i).size = ps.size)
    (I : Nat → World → Prop) (Ix : Code → Nat → World → Prop) (hI : OwnFrom w.heap.size I) (hIx : ∀ c, OwnFrom w.heap.size (Ix c))
    (hA : ∀ i V, I i V → A V) (h0 : I 0 w) (a₁ : Nat → Act)
    (hassign : ∀ (l i : Nat) (V : World) (K : Act → World → Prop), i < N → K (a₁ i) V →
      assign.wpIn (Fence.wide.inRound l) 0 P (Exit.then K (fun _ _ _ => False)) { tmps := (ps.zip (encs i)).foldl (fun t (p, v) => t.setIfInBounds p v) a.tmps, defers := [] } V)
    (hbody : ∀ (l i : Nat) (V : World), i < N → I i V → w.heap.size ≤ V.heap.size → body.wpIn (Fence.wide.inRound l) 0 P (roundL w.heap.size I Ix i V) (a₁ i) V)
    (hdone : ∀ (D : Nat) (V : World), w.heap.size ≤ D → I N V → V.heap[D]? = some (.deferred (some [])) → Q .normal { a with defers := { target := .collected D, args := #[] } :: a.defers } V)
    (hstop : ∀ (D : Nat) (c : Code) (i : Nat) (V : World), w.heap.size ≤ D → i < N → Ix c i V → V.heap[D]? = some (.deferred (some [])) → c.wpIn Fence.wide 0 P Q { a with defers := { target := .collected D, args := #[] } :: a.defers } V) :
    (Code.rangeFunc g ps assign body).wpIn Fence.wide 0 P Q a w := by
  refine wpIn_rangeFunc fun fn hfn => ?_
  let rec_ : LoopState → Option Code → Loop := fun st pe => { state := st, pending := pe, fn, tmps := a.tmps, params := ps, assign, body, defers := w.heap.size }
  obtain ⟨W1, hW1⟩ : ∃ W1, (w.alloc (.deferred (some []))).alloc (.loop (rec_ .ready none)) = W1 := ⟨_, rfl⟩
  have hl1 : W1.heap[w.heap.size + 1]? = some (.loop (rec_ .ready none)) := by
    have := World.alloc_heap_new (w.alloc (.deferred (some []))) (.loop (rec_ .ready none))
    rw [World.size_alloc, hW1] at this; exact this
  have hk1 : W1.heap[w.heap.size]? = some (.deferred (some [])) := by
    rw [← hW1]; exact (Below.heap_alloc _ _ _ (by simp)).trans (World.alloc_heap_new w _)
  have hI1 : I 0 W1 := by rw [← hW1]; exact hI.alloc _ (hI.alloc _ h0)
  refine ⟨w.heap.size + 1, [{ target := .collected w.heap.size, args := #[] }], W1, { target := .fn (.func gf) lb, args := #[.func (.yield (w.heap.size + 1)) #[] #[]] }, W1, gf,
    #[.func (.yield (w.heap.size + 1)) #[] #[]] ++ lb, W1, ?_, ?_, fun _ _ => trivial, ?_, fun h => by simp [Fence.wide] at h, ?_⟩
  · rw [← hW1]; exact run_enterLoop_outer _ _ _ _ _
  · simp only [resolve, hg]
    simp [go_sem]
  · simp [invoke, go_sem, eg]
  · refine (hseq (w.heap.size + 1)
      (fun i V => I i V ∧ V.heap[w.heap.size + 1]? = some (.loop (rec_ .ready none)) ∧ V.heap[w.heap.size]? = some (.deferred (some [])))
      (fun i V => ∃ c, Ix c i V ∧ V.heap[w.heap.size + 1]? = some (.loop (rec_ .done (some c))) ∧ V.heap[w.heap.size]? = some (.deferred (some [])))
      W1 (fun i V h => hA i V h.1) (fun i V V' h hg => ⟨hI i V V' none h.1 hg (fun r e => by cases e), (hg.block _ (Array.getElem?_eq_some_iff.1 h.2.1).1 (fun e => by cases e)).trans h.2.1, (hg.block _ (Array.getElem?_eq_some_iff.1 h.2.2).1 (fun e => by cases e)).trans h.2.2⟩) ?_ ⟨hI1, hl1, hk1⟩).mono ?_
    · rintro i V hi ⟨hiv, hl, hk⟩
      have hlt : w.heap.size + 1 < V.heap.size := (Array.getElem?_eq_some_iff.1 hl).1
      have hy := run_yield (P := P) (args := encs i) hl (hps i hi)
      refine ⟨fn, _, assign, body, hy, roundIn_of_wpIn hfn (hassign _ i V _ hi ⟨_, run_beginRound hl rfl, ?_⟩)⟩
      obtain ⟨V2, hV2⟩ : ∃ V2, V.putObj (w.heap.size + 1) (.loop { rec_ .ready none with state := .busy }) = V2 := ⟨_, rfl⟩
      have hl2 : V2.heap[w.heap.size + 1]? = some (.loop (rec_ .busy none)) := by rw [← hV2]; exact World.putObj_heap_same hlt
      have hk2 : V2.heap[w.heap.size]? = some (.deferred (some [])) := by rw [← hV2]; exact (World.putObj_heap_other (by omega)).trans hk
      have hi2 : I i V2 := by rw [← hV2]; exact hI.putObj _ hiv (by omega) hl rfl
      have hs2 : w.heap.size ≤ V2.heap.size := by rw [← hV2, World.putObj_size]; omega
      have key : ∀ (jump : Option Code) (V3 : World), KeepsFrom w.heap.size V2 V3 →
          (Instr.endRound (w.heap.size + 1) jump).run P V3 = .ok (.bool jump.isNone) (V3.putObj (w.heap.size + 1) (.loop (rec_ (if jump.isNone then .ready else .done) jump))) ∧
          V3.heap[w.heap.size + 1]? = some (.loop (rec_ .busy none)) ∧
          (V3.putObj (w.heap.size + 1) (.loop (rec_ (if jump.isNone then .ready else .done) jump))).heap[w.heap.size + 1]? = some (.loop (rec_ (if jump.isNone then .ready else .done) jump)) ∧
          (V3.putObj (w.heap.size + 1) (.loop (rec_ (if jump.isNone then .ready else .done) jump))).heap[w.heap.size]? = some (.deferred (some [])) := by
        intro jump V3 hk3
        have hl3 := hk3.same _ _ (by omega) hl2 rfl
        exact ⟨run_endRound (P := P) jump hl3, hl3, World.putObj_heap_same (Array.getElem?_eq_some_iff.1 hl3).1, (World.putObj_heap_other (by omega)).trans (hk3.same _ _ (Nat.le_refl _) hk2 rfl)⟩
      have hV2' : V.putObj (w.heap.size + 1) (.loop { rec_ .ready none with state := .busy }) = V2 := hV2
      rw [show V.putObj (w.heap.size + 1) _ = V2 from hV2']
      refine wpIn_mono (hbody _ i V2 hi hi2 hs2) ?_
      rintro e a3 V3 hp
      cases e with
      | normal =>
        obtain ⟨hk3, hi3⟩ := hp
        obtain ⟨hr, hl3, hl4, hk4⟩ := key none V3 hk3
        exact ⟨_, _, hr, .inl ⟨rfl, hI.putObj _ hi3 (by omega) hl3 rfl, hl4, hk4⟩⟩
      | ret =>
        obtain ⟨hk3, hi3⟩ := hp
        obtain ⟨hr, hl3, hl4, hk4⟩ := key (some .ret) V3 hk3
        exact ⟨_, _, hr, .inr ⟨rfl, .ret, (hIx _).putObj _ hi3 (by omega) hl3 rfl, hl4, hk4⟩⟩
      | exit id =>
        obtain ⟨hk3, hi3⟩ := hp
        obtain ⟨hr, hl3, hl4, hk4⟩ := key (some (.exit id)) V3 hk3
        exact ⟨_, _, hr, .inr ⟨rfl, .exit id, (hIx _).putObj _ hi3 (by omega) hl3 rfl, hl4, hk4⟩⟩
      | goto t =>
        obtain ⟨hk3, hi3⟩ := hp
        obtain ⟨hr, hl3, hl4, hk4⟩ := key (some (.goto t)) V3 hk3
        exact ⟨_, _, hr, .inr ⟨rfl, .goto t, (hIx _).putObj _ hi3 (by omega) hl3 rfl, hl4, hk4⟩⟩
      | panic ch => exact hp.elim
      | outgrown => exact hp.elim
    · rintro e V2 ⟨⟨v, rfl⟩, (⟨hi, hl, hk⟩ | ⟨i, hiN, c, hi, hl, hk⟩)⟩
      · exact ⟨none, _, run_endLoop (P := P) hl (by simp [rec_]), hdone _ _ (Nat.le_refl _) (hI.putObj _ hi (by omega) hl rfl) ((World.putObj_heap_other (by omega)).trans hk)⟩
      · exact ⟨some c, _, run_endLoop (P := P) hl (by simp [rec_]), hstop _ c i _ (Nat.le_refl _) hiN ((hIx c).putObj _ hi (by omega) hl rfl) ((World.putObj_heap_other (by omega)).trans hk)⟩

end Go.Proofs.YtplkmbfeeegaiaaDoor
