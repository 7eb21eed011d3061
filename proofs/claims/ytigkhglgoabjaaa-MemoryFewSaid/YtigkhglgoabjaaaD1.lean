/-
  The iterators: (*order).all and slices.Backward.
-/
import Derived.Test.YtigkhglgoabjaaaC2
import Derived.Test.YtigkhglgoabjaaaG1
import Derived.Sort.LoopGhostIn
namespace Go.Proofs.Ytigkhglgoabjaaa
open Go.RowKit Go.Shelf
attribute [local go_sem] Oper.semAt_some

set_option maxHeartbeats 400000 in
theorem all_any (p : Nat) (w : World) :
    Calls Try.prog 33 #[ptr p] w fun e w' => e = .returned (.func (.func 41) #[] #[.pointer (some ⟨w.heap.size, 0, none⟩)]) ∧ w' = w.alloc (.cells #[ptr p] 79) := by
  go_enter Try.func33, Try.ntmps33
  go_wp2
  go_ret
  exact ⟨rfl, rfl⟩

set_option maxHeartbeats 400000 in
theorem backward_any (v : Value) (w : World) (a : Option Addr) (n c : Nat) (hv : v = .slice a n c) :
    Calls Try.prog 30 #[v] w fun e w' => e = .returned (.func (.func 39) #[] #[.pointer (some ⟨w.heap.size, 0, none⟩)]) ∧ w' = w.alloc (.cells #[v] 66) := by
  subst hv
  go_enter Try.func30, Try.ntmps30
  go_wp2
  go_ret
  exact ⟨rfl, rfl⟩

theorem cells_at {w : World} {b o : Nat} {v : Value} (h : w.cell? ⟨b, o, none⟩ = some v) : ∃ c t f, w.heap[b]? = some (.cells c t f) := by
  unfold World.cell? at h
  split at h
  · rename_i c t f e; exact ⟨c, t, f, e⟩
  · cases h

/-- Two addresses of two rows of cells of which no byte is a string's. -/
theorem run_sameAddr_ne {P : Program} {w : World} {a b o o' : Nat} {va vb : Value} (ha : w.cell? ⟨a, o, none⟩ = some va) (hb : w.cell? ⟨b, o', none⟩ = some vb) (fa : ∀ o, w.frozen? ⟨a, o, none⟩ = false) (fb : ∀ o, w.frozen? ⟨b, o, none⟩ = false) (hne : a ≠ b) :
    (sameAddr ⟨a, 0, none⟩ ⟨b, 0, none⟩).run P w = .ok false w := by
  obtain ⟨ca, ta, f1, ea⟩ := cells_at ha
  obtain ⟨cb, tb, f2, eb⟩ := cells_at hb
  have a0 := fa 0; have b0 := fb 0
  have an := fa ca.size; have bn := fb cb.size
  simp [sameAddr, hne, noView, viewAt, World.shape?, mayBeOne, stringish, ea, eb, a0, b0, an, bn]

theorem run_neq_ptr_ne {P : Program} {w : World} {tp te : TypeId} {j : TypeInfo} {a b o o' : Nat} {va vb : Value} (hp : P.underlying tp = some (.pointer te)) (hte : P.info? te = some j) (hsz : j.size ≠ 0)
    (ha : w.cell? ⟨a, o, none⟩ = some va) (hb : w.cell? ⟨b, o', none⟩ = some vb) (fa : ∀ o, w.frozen? ⟨a, o, none⟩ = false) (fb : ∀ o, w.frozen? ⟨b, o, none⟩ = false) (hne : a ≠ b) :
    (binOp .neq tp (ptr a) (ptr b)).run P w = .ok (.bool true) w := by
  have h : ∀ d : Nat, (Op.equalIn (d + 1) tp (ptr a) (ptr b)).run P w = .ok false w := fun d => by
    simp [Op.equalIn, run_underlying hp, sizeOf, typeInfo, hte, hsz, run_sameAddr_ne ha hb fa fb hne]
  simp only [binOp]
  simp [Op.equal, Op.maxDepth, h 9999]

theorem run_neq_ptr_eq {P : Program} {w : World} {tp te : TypeId} {j : TypeInfo} (a : Nat) (hp : P.underlying tp = some (.pointer te)) (hte : P.info? te = some j) :
    (binOp .neq tp (ptr a) (ptr a)).run P w = .ok (.bool false) w := by
  have h : ∀ d : Nat, (Op.equalIn (d + 1) tp (ptr a) (ptr a)).run P w = .ok true w := fun d => by
    simp [Op.equalIn, run_underlying hp, sizeOf, typeInfo, hte, sameAddr]
  simp only [binOp]
  simp [Op.equal, Op.maxDepth, h 9999]

theorem info59 : ∃ j, Try.prog.info? 59 = some j ∧ j.size ≠ 0 := by
  have h : (Try.prog.info? 59).map (fun i => i.size) = some 5 := by kernel_rfl
  cases e : Try.prog.info? 59 with
  | none => rw [e] at h; cases h
  | some j => rw [e] at h; simp at h; exact ⟨j, rfl, by omega⟩

/-- What the iterator over a pool's order reads. -/
def AllReads (bx bp : Nat) (bl : List Nat) (W : World) : Prop := W.cell? ⟨bx, 0, none⟩ = some (ptr bp) ∧ Links W (bp :: bl ++ [bp]) ∧ ∀ b, (b = bp ∨ b ∈ bl) → ∀ o, W.frozen? ⟨b, o, none⟩ = false

def ringAt (bp : Nat) (bl : List Nat) (i : Nat) : Nat := (bl[i]?).getD bp
theorem ringAt_lt {bp : Nat} {bl : List Nat} {i : Nat} (h : i < bl.length) : ringAt bp bl i ∈ bl := by
  rw [ringAt, List.getElem?_eq_getElem h]; exact List.getElem_mem h
theorem ringAt_end {bp : Nat} {bl : List Nat} : ringAt bp bl bl.length = bp := by simp [ringAt]

theorem AllReads.first {bx bp : Nat} {bl : List Nat} {W : World} (h : AllReads bx bp bl W) : W.cell? ⟨bp, 4, none⟩ = some (ptr (ringAt bp bl 0)) := by
  have := h.2.1
  cases bl with
  | nil => exact this.1.1
  | cons x r => exact this.1.1

theorem AllReads.next {bx bp : Nat} {bl : List Nat} {W : World} (h : AllReads bx bp bl W) {i : Nat} (hi : i < bl.length) : W.cell? ⟨ringAt bp bl i, 4, none⟩ = some (ptr (ringAt bp bl (i + 1))) := by
  refine (links_get _ (i + 1) _ _ h.2.1 ?_ ?_).1
  · rw [List.cons_append, List.getElem?_cons_succ, List.getElem?_append_left hi, ringAt, List.getElem?_eq_getElem hi]; rfl
  · rw [List.cons_append, List.getElem?_cons_succ]
    by_cases h1 : i + 1 < bl.length
    · rw [List.getElem?_append_left h1, ringAt, List.getElem?_eq_getElem h1]; rfl
    · have : i + 1 = bl.length := by omega
      rw [this, ringAt_end]; simp

set_option maxRecDepth 100000 in
set_option maxHeartbeats 1000000 in
theorem all1_iter (bx bp : Nat) (bl : List Nat) (hbp : bp ∉ bl) : IterL Try.prog 41 #[.pointer (some ⟨bx, 0, none⟩)] bl.length (fun i => #[ptr (ringAt bp bl i)]) (AllReads bx bp bl) := by
  intro l J Jx W hA hD hY h0
  have hA0 := hA 0 W h0
  have r0 := hA0.1
  have r1 := hA0.first
  have HA := Lib.hid hA; clear hA
  have HD := Lib.hid hD; clear hD
  have HY := Lib.hid hY; clear hY
  have HJ := Lib.hid h0; clear h0
  refine callsIn_of_wp Try.func41 rfl trivial ?_ rfl
  simp only [Try.ntmps41, List.size_toArray, List.length_cons, List.length_nil, Nat.reduceAdd, Nat.reduceSub, Array.replicate_succ, Array.replicate_zero, List.push_toArray, List.append_toArray, List.nil_append, List.cons_append]
  gi_wp2
  gi_loopg [3] (bl.length) (fun k p wr => k ≤ bl.length ∧ p = ptr (ringAt bp bl (bl.length - k)) ∧ J (bl.length - k) wr)
  case atStart => exact ⟨Nat.le_refl _, by rw [Nat.sub_self], by rw [Nat.sub_self]; exact HJ.out⟩
  case round =>
    obtain ⟨hk, rfl, hj⟩ := hrel
    have ha := HA.out _ _ hj
    have q0 := ha.1
    obtain ⟨j59, hj59, hsz59⟩ := info59
    cases gk with
    | zero =>
      rw [Nat.sub_zero, ringAt_end]
      rw [Nat.sub_zero] at hj
      have hc := run_neq_ptr_eq (P := Try.prog) (w := wr) (tp := 55) bp Try.underlying55 hj59
      have HJ2 := Lib.hid hj; clear hj ha hj59
      gi_wp2
      go_end0
      exact ⟨⟨_, rfl⟩, .inl HJ2.out⟩
    | succ k =>
      have hi : bl.length - (k + 1) < bl.length := by omega
      obtain ⟨fn, tmps, assign, body, hy, hR⟩ := HY.out _ _ hi hj
      have hm := ringAt_lt (bp := bp) hi
      have hne : ringAt bp bl (bl.length - (k + 1)) ≠ bp := fun e => hbp (e ▸ hm)
      have hs : bl.length - (k + 1) + 1 = bl.length - k := by omega
      have hc := run_neq_ptr_ne (P := Try.prog) (w := wr) (tp := 55) Try.underlying55 hj59 hsz59 (ha.next hi) ha.first (ha.2.2 _ (.inr hm)) (ha.2.2 _ (.inl rfl)) hne
      have HR := Lib.hid hR; clear hR hj ha hj59
      have HS := Lib.hid hs; clear hs
      have HI := Lib.hid hi; clear hi
      generalize hx : ringAt bp bl (bl.length - (k + 1)) = x at *
      have HX := Lib.hid hx; clear hx
      gi_wp2
      refine ⟨rfl, HR.out.mono ?_⟩
      rintro e W3 (⟨rfl, hj3⟩ | ⟨rfl, hx3⟩)
      · have hn3 := (HA.out _ _ hj3).next HI.out
        rw [HX.out, HS.out] at hn3
        rw [HS.out] at hj3
        have HJ3 := Lib.hid hj3; clear hj3
        gi_wp2
        go_roundg k
        case rel => exact ⟨by omega, rfl, HJ3.out⟩
        case measure => omega
      · have HX3 := Lib.hid hx3; clear hx3
        gi_wp2
        refine bodyPost_ret (results_none rfl _ _ _) rfl ?_
        exact ⟨⟨_, rfl⟩, .inr ⟨_, HI.out, HX3.out⟩⟩

/-- What the iterator over a slice, backwards, reads. -/
def BackReads (bx bt c : Nat) (xs : List Nat) (W : World) : Prop := W.cell? ⟨bx, 0, none⟩ = some (.slice (some ⟨bt, 0, none⟩) xs.length c) ∧ ∀ k x, xs[k]? = some x → W.cell? ⟨bt, k, none⟩ = some (ptr x)

set_option maxRecDepth 100000 in
set_option maxHeartbeats 1000000 in
theorem back1_iter (bx bt c : Nat) (xs : List Nat) (hlen : xs.length ≤ 1000000000) : IterL Try.prog 39 #[.pointer (some ⟨bx, 0, none⟩)] xs.length (fun i => #[.int .i64 ((xs.length - 1 - i : Nat) : Int), ptr (xs.getD (xs.length - 1 - i) 0)]) (BackReads bx bt c xs) := by
  intro l J Jx W hA hD hY h0
  have hA0 := hA 0 W h0
  have r0 := hA0.1
  have HA := Lib.hid hA; clear hA
  have HD := Lib.hid hD; clear hD
  have HY := Lib.hid hY; clear hY
  have HJ := Lib.hid h0; clear h0 hA0
  refine callsIn_of_wp Try.func39 rfl trivial ?_ rfl
  simp only [Try.ntmps39, List.size_toArray, List.length_cons, List.length_nil, Nat.reduceAdd, Nat.reduceSub, Array.replicate_succ, Array.replicate_zero, List.push_toArray, List.append_toArray, List.nil_append, List.cons_append]
  gi_wp2
  gi_loopg [3] (xs.length) (fun k p wr => k ≤ xs.length ∧ p = .int .i64 ((k : Int) - 1) ∧ J (xs.length - k) wr)
  case atStart => exact ⟨Nat.le_refl _, rfl, by rw [Nat.sub_self]; exact HJ.out⟩
  case round =>
    obtain ⟨hk, rfl, hj⟩ := hrel
    have ha := HA.out _ _ hj
    have q0 := ha.1
    cases gk with
    | zero =>
      rw [Nat.sub_zero] at hj
      have HJ2 := Lib.hid hj; clear hj ha
      gi_wp2
      go_end0
      exact ⟨⟨_, rfl⟩, .inl HJ2.out⟩
    | succ k =>
      have hi : xs.length - (k + 1) < xs.length := by omega
      obtain ⟨fn, tmps, assign, body, hy, hR⟩ := HY.out _ _ hi hj
      have hs : xs.length - (k + 1) + 1 = xs.length - k := by omega
      have hk1 : xs.length - 1 - (xs.length - (k + 1)) = k := by omega
      rw [hk1] at hy
      have hkl : k < xs.length := by omega
      have hx : xs[k]? = some (xs.getD k 0) := by simp [List.getD, List.getElem?_eq_getElem hkl]
      have hc := ha.2 k _ hx
      have e1 : (((k + 1 : Nat) : Int) - 1) = (k : Int) := by omega
      rw [e1]
      have HR := Lib.hid hR; clear hR hj ha
      have HS := Lib.hid hs; clear hs hk1
      have HI := Lib.hid hi; clear hi hx e1
      generalize xs.getD k 0 = x at *
      gi_wp2
      refine ⟨rfl, HR.out.mono ?_⟩
      rintro e W3 (⟨rfl, hj3⟩ | ⟨rfl, hx3⟩)
      · rw [HS.out] at hj3
        have HJ3 := Lib.hid hj3; clear hj3
        gi_wp2
        go_roundg k
        case rel => exact ⟨by omega, rfl, HJ3.out⟩
        case measure => omega
      · have HX3 := Lib.hid hx3; clear hx3
        gi_wp2
        refine bodyPost_ret (results_none rfl _ _ _) rfl ?_
        exact ⟨⟨_, rfl⟩, .inr ⟨_, HI.out, HX3.out⟩⟩

/-- .. over a slice without an element. -/
def NilReads (bx : Nat) (a : Option Addr) (c : Nat) (W : World) : Prop := W.cell? ⟨bx, 0, none⟩ = some (.slice a 0 c)

set_option maxRecDepth 100000 in
set_option maxHeartbeats 1000000 in
theorem back1_nil (bx c : Nat) (a : Option Addr) : IterL Try.prog 39 #[.pointer (some ⟨bx, 0, none⟩)] 0 (fun i => #[.int .i64 i, ptr 0]) (NilReads bx a c) := by
  intro l J Jx W hA hD hY h0
  have r0 : W.cell? ⟨bx, 0, none⟩ = some (.slice a 0 c) := hA 0 W h0
  have HA := Lib.hid hA; clear hA
  have HD := Lib.hid hD; clear hD
  have HY := Lib.hid hY; clear hY
  have HJ := Lib.hid h0; clear h0
  refine callsIn_of_wp Try.func39 rfl trivial ?_ rfl
  simp only [Try.ntmps39, List.size_toArray, List.length_cons, List.length_nil, Nat.reduceAdd, Nat.reduceSub, Array.replicate_succ, Array.replicate_zero, List.push_toArray, List.append_toArray, List.nil_append, List.cons_append]
  gi_wp2
  gi_loopg [3] (0) (fun k p wr => k = 0 ∧ p = .int .i64 (-1) ∧ J 0 wr)
  case atStart => exact ⟨rfl, rfl, HJ.out⟩
  case round =>
    obtain ⟨rfl, rfl, hj⟩ := hrel
    have HJ2 := Lib.hid hj; clear hj
    gi_wp2
    go_end0
    exact ⟨⟨_, rfl⟩, .inl HJ2.out⟩
end Go.Proofs.Ytigkhglgoabjaaa
