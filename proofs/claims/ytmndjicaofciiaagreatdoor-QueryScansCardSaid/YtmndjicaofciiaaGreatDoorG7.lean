/-
  The same, with reads between the calls; the class of worlds may be narrowed behind a call.
-/
import Derived.Test.YtmndjicaofciiaaGreatDoorG6
namespace Go.Proofs.YtmndjicaofciiaaGreatDoor
open Go Go.RowKit

section
variable {P : Program} {md : Region.Mode} {ops : Array Oper} {C : World → Prop}

theorem wpC_mono {C2 : World → Prop} {Q : Act → World → Prop} (hC : ∀ x, C2 x → C x) : ∀ (f : Nat) (listed : Array Bool) (a : Act) (w : World), wpC P md ops C2 Q f listed a w → wpC P md ops C Q f listed a w
  | 0, _, _, _, h => ⟨hC _ h.1, h.2⟩
  | f + 1, _, _, _, h => ⟨hC _ h.1, h.2.1, fun i hi => wpOp_mono (fun a' w' h' => wpC_mono hC f _ a' w' h') (h.2.2 i hi)⟩

/-- A walk: (true, i): operation i only reads; (false, i): it is the only one that may come. -/
def walkW (P : Program) (ops : Array Oper) (Q : Act → World → Prop) : List (Bool × Nat) → (World → Prop) → Act → World → Prop
  | [], C, a, w => C w ∧ Q a w
  | (true, i) :: rest, C, a, w => ∃ o v, ops[i]? = some o ∧ YC P ops C o v a ∧ walkW P ops Q rest C (a.put o.dst v) w
  | (false, i) :: rest, C, a, w => C w ∧ ∃ o, ops[i]? = some o ∧ if Region.wanted o (yielded ops a.tmps) then o.wp P a w (fun a' w' => ∃ C2 : World → Prop, (∀ x, C2 x → C x) ∧ walkW P ops Q rest C2 a' w') noQ
      else walkW P ops Q rest C (a.put o.dst undef) w

theorem walkW_read {Q : Act → World → Prop} {i : Nat} {rest : List (Bool × Nat)} {a : Act} {w : World} {o : Oper} (ho : ops[i]? = some o)
    (h : ∀ K : Act → Prop, (∀ a, walkW P ops Q rest C a w → K a) → if Region.wanted o (yielded ops a.tmps) then ∃ v, (∀ w, C w → o.quietAt P a (fun w'' => w'' = w) w v) ∧ K (a.put o.dst v) else K (a.put o.dst undef)) : walkW P ops Q ((true, i) :: rest) C a w := by
  have h1 := h _ (fun _ h => h)
  by_cases hw : Region.wanted o (yielded ops a.tmps) = true
  · rw [if_pos hw] at h1
    obtain ⟨v, h2, h3⟩ := h1
    exact ⟨o, v, ho, .inl ⟨hw, h2⟩, h3⟩
  · rw [if_neg hw] at h1
    exact ⟨o, undef, ho, .inr ⟨by simpa using hw, rfl⟩, h1⟩

/-- One operation, the class as it was. -/
theorem walkW_do {Q : Act → World → Prop} {i : Nat} {rest : List (Bool × Nat)} {a : Act} {w : World} {o : Oper} (ho : ops[i]? = some o) (hC : C w)
    (h : ∀ K : Act → World → Prop, (∀ a w, walkW P ops Q rest C a w → K a w) → if Region.wanted o (yielded ops a.tmps) then o.wp P a w K noQ else K (a.put o.dst undef) w) : walkW P ops Q ((false, i) :: rest) C a w := by
  refine ⟨hC, o, ho, ?_⟩
  have h1 := h (fun a' w' => walkW P ops Q rest C a' w') (fun _ _ h => h)
  split
  · rename_i hw
    rw [if_pos hw] at h1
    exact Oper.wp_mono (fun a' w' h' => ⟨C, fun _ h => h, h'⟩) h1
  · rename_i hw
    rw [if_neg hw] at h1
    exact h1
/-- One operation; the class is narrowed behind it. -/
theorem walkW_turn {Q : Act → World → Prop} {i : Nat} {rest : List (Bool × Nat)} {a : Act} {w : World} {o : Oper} (ho : ops[i]? = some o) (hC : C w) (hw : Region.wanted o (yielded ops a.tmps) = true)
    (h : ∀ K : Act → World → Prop, (∀ (C2 : World → Prop) a w, (∀ x, C2 x → C x) → walkW P ops Q rest C2 a w → K a w) → o.wp P a w K noQ) : walkW P ops Q ((false, i) :: rest) C a w := by
  refine ⟨hC, o, ho, ?_⟩
  rw [if_pos hw]
  exact h _ (fun C2 a w h1 h2 => ⟨C2, h1, h2⟩)

def walkB (md : Region.Mode) (ops : Array Oper) : List (Bool × Nat) → Array Bool → Bool
  | [], listed => (Region.ready md ops listed).isEmpty
  | (true, k) :: rest, listed => (Region.ready md ops listed).contains k && Region.free md ops listed k && walkB md ops rest (listed.setIfInBounds k true)
  | (false, k) :: rest, listed => decide (Region.ready md ops listed = [k]) && walkB md ops rest (listed.setIfInBounds k true)

theorem wpC_walk {Q : Act → World → Prop} (hsel : Region.noSelect ops = true) : ∀ (l : List (Bool × Nat)) (C : World → Prop) (listed : Array Bool) (a : Act) (w : World), walkB md ops l listed = true → walkW P ops Q l C a w → wpC P md ops C Q l.length listed a w
  | [], C, listed, a, w, hB, h => ⟨h.1, by simpa [walkB] using hB, h.2⟩
  | (true, k) :: rest, C, listed, a, w, hB, h => by
    simp only [walkB, Bool.and_eq_true] at hB
    obtain ⟨⟨hr, hf⟩, hB'⟩ := hB
    obtain ⟨o, v, ho, hy, h⟩ := h
    exact wpC_first ho (Region.noSelect_spec hsel) _ listed a w (Region.free_spec ho hf) (by simpa using hr) hy (wpC_walk hsel rest C _ _ w hB' h)
  | (false, k) :: rest, C, listed, a, w, hB, h => by
    simp only [walkB, Bool.and_eq_true, decide_eq_true_eq] at hB
    obtain ⟨hC, o, ho, h⟩ := h
    refine ⟨hC, fun h0 => (by rw [hB.1] at h0; cases h0), fun i hi => ?_⟩
    rw [hB.1, List.mem_singleton] at hi
    subst hi
    unfold wpOp
    simp only [ho]
    split
    · rename_i hw
      rw [if_pos hw] at h
      exact .inl (Oper.wp_mono (fun a' w' ⟨C2, h1, h2⟩ => wpC_mono h1 _ _ _ _ (wpC_walk hsel rest C2 _ a' w' hB.2 h2)) h)
    · rename_i hw
      rw [if_neg hw] at h
      exact wpC_walk hsel rest C _ _ w hB.2 h

def walkOk (ops : Array Oper) (l : List (Bool × Nat)) : Bool := Region.noSelect ops && decide (l.length = ops.size) && walkB .any ops l (Array.replicate ops.size false)

theorem wp_region_walk {id : Nat} {Q : Exit → Act → World → Prop} {a : Act} {w : World} {l : List Oper} (s : List (Bool × Nat)) (C : World → Prop) (hm : P.follows .mixedOrders = true) (hB : walkOk l.toArray s = true)
    (h : walkW P l.toArray (fun a w => Q .normal a w) s C a w.drew) : (Code.region id l.toArray true).wp P Q a w := by
  simp only [walkOk, Bool.and_eq_true, decide_eq_true_eq] at hB
  obtain ⟨⟨hsel, hlen⟩, hB⟩ := hB
  refine wp_region_any hm (wpAny_of_wpC (C := C) (Q := fun a w => Q .normal a w) (fun _ _ h => h) _ _ _ _ ?_)
  rw [← hlen]
  exact wpC_walk hsel s C _ a _ (by rw [hlen]; exact hB) h
end
theorem inKA.mono {A : Nat → Prop} {w w1 : World} (k : Keep A w w1) : ∀ x, inKA A w1 x → inKA A w x := fun _ ⟨p, hp⟩ => ⟨⟨p.val, k.trans p.k⟩, hp⟩
theorem inKA.of {A : Nat → Prop} {w w1 : World} (k : Keep A w w1) : inKA A w w1 := ⟨⟨w1, k⟩, rfl⟩
end Go.Proofs.YtmndjicaofciiaaGreatDoor
