/-
  A walk that parts: where two operations may come, both orders are walked.
-/
import Derived.Test.YtplkmbfeeegaiaaDoorG7
namespace Go.Proofs.YtplkmbfeeegaiaaDoor
open Go Go.RowKit

/-- done: all are listed; read: the operation only reads; one: it is the only one that may come; two: either of the two may come. -/
inductive WT where
  | done : WT
  | read (i : Nat) (t : WT) : WT
  | one (i : Nat) (t : WT) : WT
  | two (i : Nat) (t : WT) (j : Nat) (u : WT) : WT
def WT.len : WT → Nat
  | .done => 0
  | .read _ t => t.len + 1
  | .one _ t => t.len + 1
  | .two _ t _ _ => t.len + 1

section
variable {P : Program} {md : Region.Mode} {ops : Array Oper}
def walkT (P : Program) (ops : Array Oper) (Q : Act → World → Prop) (C : World → Prop) : WT → Act → World → Prop
  | .done, a, w => C w ∧ Q a w
  | .read i t, a, w => ∃ o v, ops[i]? = some o ∧ YC P ops C o v a ∧ walkT P ops Q C t (a.put o.dst v) w
  | .one i t, a, w => C w ∧ ∃ o, ops[i]? = some o ∧ if Region.wanted o (yielded ops a.tmps) then o.wp P a w (walkT P ops Q C t) noQ else walkT P ops Q C t (a.put o.dst undef) w
  | .two i t j u, a, w => C w ∧ (∃ o, ops[i]? = some o ∧ if Region.wanted o (yielded ops a.tmps) then o.wp P a w (walkT P ops Q C t) noQ else walkT P ops Q C t (a.put o.dst undef) w) ∧
      ∃ o, ops[j]? = some o ∧ if Region.wanted o (yielded ops a.tmps) then o.wp P a w (walkT P ops Q C u) noQ else walkT P ops Q C u (a.put o.dst undef) w

variable {C : World → Prop}
theorem walkT_read {Q : Act → World → Prop} {i : Nat} {t : WT} {a : Act} {w : World} {o : Oper} (ho : ops[i]? = some o)
    (h : ∀ K : Act → Prop, (∀ a, walkT P ops Q C t a w → K a) → if Region.wanted o (yielded ops a.tmps) then ∃ v, (∀ w, C w → o.quietAt P a (fun w'' => w'' = w) w v) ∧ K (a.put o.dst v) else K (a.put o.dst undef)) : walkT P ops Q C (.read i t) a w := by
  have h1 := h _ (fun _ h => h)
  by_cases hw : Region.wanted o (yielded ops a.tmps) = true
  · rw [if_pos hw] at h1
    obtain ⟨v, h2, h3⟩ := h1
    exact ⟨o, v, ho, .inl ⟨hw, h2⟩, h3⟩
  · rw [if_neg hw] at h1
    exact ⟨o, undef, ho, .inr ⟨by simpa using hw, rfl⟩, h1⟩
theorem walkT_do {Q : Act → World → Prop} {i : Nat} {t : WT} {a : Act} {w : World} {o : Oper} (ho : ops[i]? = some o) (hC : C w)
    (h : ∀ K : Act → World → Prop, (∀ a w, walkT P ops Q C t a w → K a w) → if Region.wanted o (yielded ops a.tmps) then o.wp P a w K noQ else K (a.put o.dst undef) w) : walkT P ops Q C (.one i t) a w :=
  ⟨hC, o, ho, h _ (fun _ _ h => h)⟩
theorem walkT_two {Q : Act → World → Prop} {i j : Nat} {t u : WT} {a : Act} {w : World} {o p : Oper} (ho : ops[i]? = some o) (hp : ops[j]? = some p) (hC : C w)
    (h : ∀ K : Act → World → Prop, (∀ a w, walkT P ops Q C t a w → K a w) → if Region.wanted o (yielded ops a.tmps) then o.wp P a w K noQ else K (a.put o.dst undef) w)
    (h' : ∀ K : Act → World → Prop, (∀ a w, walkT P ops Q C u a w → K a w) → if Region.wanted p (yielded ops a.tmps) then p.wp P a w K noQ else K (a.put p.dst undef) w) : walkT P ops Q C (.two i t j u) a w :=
  ⟨hC, ⟨o, ho, h _ (fun _ _ h => h)⟩, p, hp, h' _ (fun _ _ h => h)⟩

def walkTB (md : Region.Mode) (ops : Array Oper) : WT → Array Bool → Bool
  | .done, listed => (Region.ready md ops listed).isEmpty
  | .read k t, listed => (Region.ready md ops listed).contains k && Region.free md ops listed k && walkTB md ops t (listed.setIfInBounds k true)
  | .one k t, listed => decide (Region.ready md ops listed = [k]) && walkTB md ops t (listed.setIfInBounds k true)
  | .two i t j u, listed => decide (Region.ready md ops listed = [i, j]) && (decide (t.len = u.len) && (walkTB md ops t (listed.setIfInBounds i true) && walkTB md ops u (listed.setIfInBounds j true)))

theorem wpC_walkT {Q : Act → World → Prop} (hsel : Region.noSelect ops = true) : ∀ (t : WT) (listed : Array Bool) (a : Act) (w : World), walkTB md ops t listed = true → walkT P ops Q C t a w → wpC P md ops C Q t.len listed a w
  | .done, listed, a, w, hB, h => ⟨h.1, by simpa [walkTB] using hB, h.2⟩
  | .read k t, listed, a, w, hB, h => by
    simp only [walkTB, Bool.and_eq_true] at hB
    obtain ⟨⟨hr, hf⟩, hB'⟩ := hB
    obtain ⟨o, v, ho, hy, h⟩ := h
    exact wpC_first ho (Region.noSelect_spec hsel) _ listed a w (Region.free_spec ho hf) (by simpa using hr) hy (wpC_walkT hsel t _ _ w hB' h)
  | .one k t, listed, a, w, hB, h => by
    simp only [walkTB, Bool.and_eq_true, decide_eq_true_eq] at hB
    obtain ⟨hC, o, ho, h⟩ := h
    refine ⟨hC, fun h0 => (by rw [hB.1] at h0; cases h0), fun i hi => ?_⟩
    rw [hB.1, List.mem_singleton] at hi
    subst hi
    unfold wpOp
    simp only [ho]
    split
    · rename_i hw
      rw [if_pos hw] at h
      exact .inl (Oper.wp_mono (fun a' w' h2 => wpC_walkT hsel t _ a' w' hB.2 h2) h)
    · rename_i hw
      rw [if_neg hw] at h
      exact wpC_walkT hsel t _ _ w hB.2 h
  | .two k t j u, listed, a, w, hB, h => by
    simp only [walkTB, Bool.and_eq_true, decide_eq_true_eq] at hB
    obtain ⟨hr, hlen, hB1, hB2⟩ := hB
    obtain ⟨hC, ⟨o, ho, h⟩, p, hp, h'⟩ := h
    refine ⟨hC, fun h0 => (by rw [hr] at h0; cases h0), fun i hi => ?_⟩
    rw [hr] at hi
    rcases List.mem_cons.1 hi with rfl | hi
    · unfold wpOp
      simp only [ho]
      split
      · rename_i hw
        rw [if_pos hw] at h
        exact .inl (Oper.wp_mono (fun a' w' h2 => wpC_walkT hsel t _ a' w' hB1 h2) h)
      · rename_i hw
        rw [if_neg hw] at h
        exact wpC_walkT hsel t _ _ w hB1 h
    · rw [List.mem_singleton] at hi
      subst hi
      unfold wpOp
      simp only [hp]
      split
      · rename_i hw
        rw [if_pos hw] at h'
        exact .inl (Oper.wp_mono (fun a' w' h2 => by rw [hlen]; exact wpC_walkT hsel u _ a' w' hB2 h2) h')
      · rename_i hw
        rw [if_neg hw] at h'
        show wpC P md ops C Q t.len _ _ _
        rw [hlen]
        exact wpC_walkT hsel u _ _ w hB2 h'

def walkTOk (ops : Array Oper) (t : WT) : Bool := Region.noSelect ops && decide (t.len = ops.size) && walkTB .any ops t (Array.replicate ops.size false)
theorem wp_region_walkT {id : Nat} {Q : Exit → Act → World → Prop} {a : Act} {w : World} {l : List Oper} (t : WT) (C : World → Prop) (hm : P.follows .mixedOrders = true) (hB : walkTOk l.toArray t = true)
    (h : walkT P l.toArray (fun a w => Q .normal a w) C t a w.drew) : (Code.region id l.toArray true).wp P Q a w := by
  simp only [walkTOk, Bool.and_eq_true, decide_eq_true_eq] at hB
  obtain ⟨⟨hsel, hlen⟩, hB⟩ := hB
  refine wp_region_any hm (wpAny_of_wpC (C := C) (Q := fun a w => Q .normal a w) (fun _ _ h => h) _ _ _ _ ?_)
  rw [← hlen]
  exact wpC_walkT hsel t _ a _ (by rw [hlen]; exact hB) h
/-- The same; the ways meet in J. -/
theorem wp_region_walkT_join {id : Nat} {Q : Exit → Act → World → Prop} {a : Act} {w : World} {l : List Oper} (t : WT) (C : World → Prop) (J : Act → World → Prop) (hm : P.follows .mixedOrders = true) (hB : walkTOk l.toArray t = true)
    (hJ : ∀ a w, J a w → Q .normal a w) (h : walkT P l.toArray J C t a w.drew) : (Code.region id l.toArray true).wp P Q a w := by
  simp only [walkTOk, Bool.and_eq_true, decide_eq_true_eq] at hB
  obtain ⟨⟨hsel, hlen⟩, hB⟩ := hB
  refine wp_region_any hm (wpAny_of_wpC (C := C) (Q := J) hJ _ _ _ _ ?_)
  rw [← hlen]
  exact wpC_walkT hsel t _ a _ (by rw [hlen]; exact hB) h
end
end Go.Proofs.YtplkmbfeeegaiaaDoor
