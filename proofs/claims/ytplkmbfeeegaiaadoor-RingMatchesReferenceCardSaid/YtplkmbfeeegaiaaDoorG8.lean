/-
  The check of a walk, by masks of bits: a long region's check in the kernel.
-/
import Derived.Test.YtplkmbfeeegaiaaDoorG7
namespace Go.Proofs.YtplkmbfeeegaiaaDoor
open Go Go.RowKit

def mkO (md : Region.Mode) (o : Oper) : Nat := (o.after.toList.filter (Region.binds md)).foldr (fun e m => (1 <<< e.on) ||| m) 0
def frF (L : Nat) : List Nat → Nat → List Nat
  | [], _ => []
  | m :: ms, j => if !L.testBit j && (m &&& L == m) then j :: frF L ms (j + 1) else frF L ms (j + 1)
def freeF (md : Region.Mode) (ops : Array Oper) (L : Nat) (i : Nat) : Bool :=
  match ops[i]? with
  | none => false
  | some oi => (List.range ops.size).all fun j => j == i || L.testBit j || match ops[j]? with
      | some oj => oj.after.any (fun e => Region.binds md e && e.on == i) || oi.apart ops oj
      | none => true
def walkF (md : Region.Mode) (ops : Array Oper) (ms : List Nat) : List (Bool × Nat) → Nat → Bool
  | [], L => (frF L ms 0).isEmpty
  | (true, k) :: rest, L => (frF L ms 0).contains k && freeF md ops L k && walkF md ops ms rest (L ||| (1 <<< k))
  | (false, k) :: rest, L => decide (frF L ms 0 = [k]) && walkF md ops ms rest (L ||| (1 <<< k))

theorem mkO_bit (md : Region.Mode) (o : Oper) (i : Nat) : (mkO md o).testBit i = (o.after.toList.filter (Region.binds md)).any (fun e => e.on == i) := by
  unfold mkO
  generalize o.after.toList.filter (Region.binds md) = l
  induction l with
  | nil => simp
  | cons e l ih =>
    rw [List.foldr_cons, Nat.testBit_or, ih, List.any_cons, Nat.one_shiftLeft, Nat.testBit_two_pow]
    congr 1
theorem mkO_sub (md : Region.Mode) (o : Oper) (L : Nat) : (mkO md o &&& L == mkO md o) = o.after.all (fun e => !Region.binds md e || L.testBit e.on) := by
  rw [Bool.eq_iff_iff, beq_iff_eq, Array.all_eq_true_iff_forall_mem]
  constructor
  · intro h e he
    by_cases hb : Region.binds md e = true
    · have h1 : (mkO md o).testBit e.on = true := by
        rw [mkO_bit, List.any_eq_true]
        exact ⟨e, List.mem_filter.2 ⟨by simpa using he, hb⟩, by simp⟩
      rw [← h, Nat.testBit_and, Bool.and_eq_true] at h1
      rw [h1.2]; simp
    · simp [hb]
  · intro h
    apply Nat.eq_of_testBit_eq
    intro i
    rw [Nat.testBit_and]
    by_cases hi : (mkO md o).testBit i = true
    · rw [hi]
      rw [mkO_bit, List.any_eq_true] at hi
      obtain ⟨e, he, hei⟩ := hi
      obtain ⟨hm, hb⟩ := List.mem_filter.1 he
      have h1 := h e (by simpa using hm)
      rw [hb] at h1
      have : e.on = i := by simpa using hei
      subst this
      simpa using h1
    · simp [hi]

structure Bits (n : Nat) (listed : Array Bool) (L : Nat) : Prop where
  size : listed.size = n
  low : ∀ i, i < n → listed.getD i true = L.testBit i
  high : ∀ i, n ≤ i → L.testBit i = false
theorem Bits.none (n : Nat) : Bits n (Array.replicate n false) 0 := ⟨by simp, fun i hi => by simp [hi], fun i _ => by simp⟩
theorem Bits.low' {n : Nat} {listed : Array Bool} {L : Nat} (h : Bits n listed L) (i : Nat) : listed.getD i false = L.testBit i := by
  by_cases hi : i < n
  · rw [← h.low i hi]
    have := h.size
    simp [Array.getD_eq_getD_getElem?, Array.getElem?_eq_getElem (by omega : i < listed.size)]
  · rw [h.high i (by omega)]
    have := h.size
    simp [Array.getD_eq_getD_getElem?, Array.getElem?_eq_none (by omega : listed.size ≤ i)]
theorem Bits.set {n : Nat} {listed : Array Bool} {L : Nat} (h : Bits n listed L) {k : Nat} (hk : k < n) : Bits n (listed.setIfInBounds k true) (L ||| (1 <<< k)) := by
  refine ⟨by simpa using h.size, fun i hi => ?_, fun i hi => ?_⟩
  · rw [Nat.testBit_or, Nat.one_shiftLeft, Nat.testBit_two_pow, ← h.low i hi]
    have := h.size
    by_cases e : k = i
    · subst e
      simp [Array.getD_eq_getD_getElem?, Array.getElem?_setIfInBounds, show k < listed.size by omega]
    · simp [Array.getD_eq_getD_getElem?, Array.getElem?_setIfInBounds, e]
  · rw [Nat.testBit_or, Nat.one_shiftLeft, Nat.testBit_two_pow, h.high i hi]
    simp; omega

theorem frF_eq (md : Region.Mode) (L : Nat) : ∀ (os : List Oper) (j : Nat), frF L (os.map (mkO md)) j = (List.range' j os.length).filter (fun i => !L.testBit i && ((os[i - j]?).map (fun o => o.after.all (fun e => !Region.binds md e || L.testBit e.on))).getD false)
  | [], j => by simp [frF]
  | o :: os, j => by
    simp only [List.map_cons, frF, List.length_cons, List.range'_succ]
    rw [List.filter_cons]
    simp only [Nat.sub_self, List.getElem?_cons_zero, Option.map_some, Option.getD_some]
    have key : frF L (os.map (mkO md)) (j + 1) = (List.range' (j + 1) os.length).filter (fun i => !L.testBit i && (((o :: os)[i - j]?).map (fun o => o.after.all (fun e => !Region.binds md e || L.testBit e.on))).getD false) := by
      rw [frF_eq md L os (j + 1)]
      apply List.filter_congr
      intro i hi
      have := (List.mem_range'_1.1 hi).1
      rw [show i - j = (i - (j + 1)) + 1 by omega, List.getElem?_cons_succ]
    rw [← key, mkO_sub]
theorem ready_eq {md : Region.Mode} {ops : Array Oper} {listed : Array Bool} {L : Nat} (h : Bits ops.size listed L) : Region.ready md ops listed = frF L (ops.toList.map (mkO md)) 0 := by
  rw [frF_eq]
  unfold Region.ready
  rw [List.range_eq_range', Array.length_toList]
  apply List.filter_congr
  intro i hi
  have hi' := List.mem_range'_1.1 hi
  rw [h.low i (by omega)]
  simp only [Nat.sub_zero, Array.getElem?_toList, h.low']
theorem free_eq {md : Region.Mode} {ops : Array Oper} {listed : Array Bool} {L : Nat} (h : Bits ops.size listed L) (k : Nat) : Region.free md ops listed k = freeF md ops L k := by
  unfold Region.free freeF
  cases ops[k]? with
  | none => rfl
  | some oi =>
    simp only []
    rw [Bool.eq_iff_iff, List.all_eq_true, List.all_eq_true]
    constructor
    · intro h1 j hj
      have := h1 j hj
      rwa [h.low j (List.mem_range.1 hj)] at this
    · intro h1 j hj
      have := h1 j hj
      rwa [← h.low j (List.mem_range.1 hj)] at this
theorem walkF_ok {md : Region.Mode} {ops : Array Oper} : ∀ (l : List (Bool × Nat)) (listed : Array Bool) (L : Nat), Bits ops.size listed L → walkF md ops (ops.toList.map (mkO md)) l L = true → walkB md ops l listed = true
  | [], listed, L, hb, h => by
    simp only [walkF] at h
    simp only [walkB]
    rw [ready_eq hb]; exact h
  | (true, k) :: rest, listed, L, hb, h => by
    simp only [walkF, Bool.and_eq_true] at h
    simp only [walkB, Bool.and_eq_true]
    rw [ready_eq hb, free_eq hb]
    have hk : k < ops.size := by
      have h1 := h.1.1
      rw [← ready_eq hb] at h1
      have h2 : k ∈ Region.ready md ops listed := by simpa using h1
      exact List.mem_range.1 (List.mem_filter.1 h2).1
    exact ⟨h.1, walkF_ok rest _ _ (hb.set hk) h.2⟩
  | (false, k) :: rest, listed, L, hb, h => by
    simp only [walkF, Bool.and_eq_true, decide_eq_true_eq] at h
    simp only [walkB, Bool.and_eq_true, decide_eq_true_eq]
    rw [ready_eq hb]
    have hk : k < ops.size := by
      have h1 := h.1
      rw [← ready_eq hb] at h1
      have h2 : k ∈ Region.ready md ops listed := by rw [h1]; simp
      exact List.mem_range.1 (List.mem_filter.1 h2).1
    exact ⟨h.1, walkF_ok rest _ _ (hb.set hk) h.2⟩
def walkFk (ops : Array Oper) (l : List (Bool × Nat)) : Bool := Region.noSelect ops && decide (l.length = ops.size) && walkF .any ops (ops.toList.map (mkO .any)) l 0
theorem walkFk_ok {ops : Array Oper} {l : List (Bool × Nat)} (h : walkFk ops l = true) : walkOk ops l = true := by
  simp only [walkFk, walkOk, Bool.and_eq_true] at h ⊢
  exact ⟨h.1, walkF_ok l _ _ (Bits.none _) h.2⟩
end Go.Proofs.YtplkmbfeeegaiaaDoor
