/-
  The reference: slices of counters; New, Total, Least, Get, before.
-/
import Derived.Test.YtogkkghliogpeaaF2
import Derived.Laws.OwnMore
import Derived.Laws.PanicsMore
namespace Go.Proofs.Ytogkkghliogpeaa
open Go.RowKit Go.Shelf

/-- The cells of counters. -/
def Cells3 (W : World) (b off : Nat) (l : List K3) : Prop := ∀ (j : Nat) (x : K3), l[j]? = some x → W.cell? ⟨b, off + j * 3, none⟩ = some (.string x.key) ∧ W.cell? ⟨b, off + j * 3 + 1, none⟩ = some (.int .i64 x.n) ∧ W.cell? ⟨b, off + j * 3 + 2, none⟩ = some (.int .i64 x.e)
/-- A slice of counters. -/
def Cs (W : World) (v : Value) (l : List K3) : Prop := (v = .slice none 0 0 ∧ l = []) ∨ ∃ b off c, v = .slice (some ⟨b, off, none⟩) l.length c ∧ l.length ≤ c ∧ Cells3 W b off l

theorem Cells3.keep {W W' : World} {b off : Nat} {l : List K3} {A : Nat → Prop} (h : Cells3 W b off l) (k : Keep A W W') (hA : ¬ A b) : Cells3 W' b off l := fun j x hj =>
  ⟨k.cell (h j x hj).1 hA, k.cell (h j x hj).2.1 hA, k.cell (h j x hj).2.2 hA⟩
theorem Cs.keep {W W' : World} {v : Value} {l : List K3} {A : Nat → Prop} (h : Cs W v l) (k : Keep A W W') (hA : ∀ b, v.ownBlock = some b → ¬ A b) : Cs W' v l := by
  rcases h with h | ⟨b, off, c, rfl, hc, h⟩
  · exact .inl h
  · exact .inr ⟨b, off, c, rfl, hc, h.keep k (hA b rfl)⟩
theorem Cs.ctrs {W : World} {v : Value} {l : List K3} (h : Cs W v l) : CtrsAt W v l := by
  rcases h with ⟨rfl, rfl⟩ | ⟨b, off, c, rfl, hc, h⟩
  · exact ⟨none, 0, rfl, fun j x hj => by simp at hj⟩
  · exact ⟨_, c, rfl, fun j x hj => ⟨b, off, rfl, h j x hj⟩⟩
theorem Cs.of_owns {W : World} {lo : Nat} {v : Value} {l : List K3} (h : W.ownsRow lo 37 3 v l.length (flat l)) : Cs W v l := by
  rcases h.2 with ⟨rfl, hx⟩ | ⟨g, cap, cur, rfl, _, _, hc, r⟩
  · exact .inl ⟨rfl, List.eq_nil_of_length_eq_zero hx⟩
  · refine .inr ⟨g, 0, cap, rfl, hc, fun j x hj => ⟨?_, ?_, ?_⟩⟩
    · have := h.cells (g := g) rfl _ _ (flat_get l j x hj).1
      rwa [Addr.add_lit] at this
    · have := h.cells (g := g) rfl _ _ (flat_get l j x hj).2.1
      rwa [Addr.add_lit, ← Nat.add_assoc] at this
    · have := h.cells (g := g) rfl _ _ (flat_get l j x hj).2.2
      rwa [Addr.add_lit, ← Nat.add_assoc] at this
/-- As the walk wants it. -/
theorem Cs.open_ {W : World} {v : Value} {l : List K3} (h : Cs W v l) : ∃ a c b off, v = .slice a l.length c ∧ l.length ≤ c ∧ (0 < l.length → a = some ⟨b, off, none⟩) ∧ Cells3 W b off l := by
  rcases h with ⟨rfl, rfl⟩ | ⟨b, off, c, rfl, hc, h⟩
  · exact ⟨none, 0, 0, 0, rfl, Nat.le_refl _, fun h => absurd h (Nat.lt_irrefl _), fun j x hj => by simp at hj⟩
  · exact ⟨_, c, b, off, rfl, hc, fun _ => rfl, h⟩
theorem Cs.block_lt {W : World} {v : Value} {l : List K3} (h : Cs W v l) (hl : l ≠ []) {b : Nat} (hb : v.ownBlock = some b) : b < W.heap.size := by
  rcases h with ⟨rfl, rfl⟩ | ⟨b', off, c, rfl, hc, h⟩
  · exact absurd rfl hl
  · obtain ⟨x, r, rfl⟩ := List.exists_cons_of_ne_nil hl
    cases hb
    exact World.block_lt_of_cell? _ _ (h 0 x rfl).1

theorem flat_cells {W : World} {b off : Nat} : ∀ {l : List K3}, Cells3 W b off l → ∀ j u, (flat l)[j]? = some u → W.cell? ⟨b, off + j, none⟩ = some u := by
  intro l h j u hj
  have hl : j < l.length * 3 := by rw [← flat_length]; exact (List.getElem?_eq_some_iff.1 hj).1
  have hq : j / 3 < l.length := by omega
  obtain ⟨c0, c1, c2⟩ := h (j / 3) l[j / 3] (List.getElem?_eq_getElem hq)
  obtain ⟨f0, f1, f2⟩ := flat_get l (j / 3) l[j / 3] (List.getElem?_eq_getElem hq)
  have hr : j % 3 = 0 ∨ j % 3 = 1 ∨ j % 3 = 2 := by omega
  rcases hr with hr | hr | hr
  · have e : j / 3 * 3 = j := by omega
    rw [e] at c0 f0
    rw [f0] at hj; cases hj; exact c0
  · have e : j / 3 * 3 + 1 = j := by omega
    rw [Nat.add_assoc, e] at c1
    rw [e] at f1
    rw [f1] at hj; cases hj; exact c1
  · have e : j / 3 * 3 + 2 = j := by omega
    rw [Nat.add_assoc, e] at c2
    rw [e] at f2
    rw [f2] at hj; cases hj; exact c2
theorem flat_one : ∀ (l : List K3) (u : Value), u ∈ flat l → u.oneCell' = true
  | [], u, h => by cases h
  | x :: r, u, h => by
    simp only [flat, List.mem_cons] at h
    rcases h with rfl | rfl | rfl | h
    · rfl
    · rfl
    · rfl
    · exact flat_one r u h

/-- More counters. -/
theorem app_ctrs (W : World) (ty lo : Nat) (v src : Value) (l ys : List K3) (hown : W.ownsRow lo 37 3 v l.length (flat l)) (hs : Cs W src ys) (hn : l.length + ys.length ≤ 100000) (hlo : lo ≤ W.heap.size) :
    ∃ v' w', (Builtin.append_ #[34, 34] ty #[v, src]).run Try.prog W = .ok v' w' ∧ w'.ownsRow lo 37 3 v' (l ++ ys).length (flat (l ++ ys)) ∧ Keep (fun k => v.ownBlock = some k) W w' ∧ (v'.ownBlock = v.ownBlock ∨ v'.ownBlock = some W.heap.size) := by
  obtain ⟨i0, hi, hz0, hz1, hz2⟩ := info_parts info37
  rcases hs with ⟨rfl, rfl⟩ | ⟨b, off, c, rfl, hc, h⟩
  · refine ⟨v, W, run_append_owned_none W lo 34 ty 37 i0 3 Try.underlying34 hi v l.length (flat l) hown, by simpa using hown, Keep.refl _ W, .inl rfl⟩
  · obtain ⟨v', w', h1, h2, h3, h4, h5⟩ := run_append_own_at (P := Try.prog) W lo 34 ty 37 i0 (ctrV ⟨#[]⟩ 0 0) 3 32 Try.underlying34 hi hz0 hz1 hz2 rfl (by decide) v l.length (flat l) hown ⟨b, off, none⟩ ys.length c (flat ys) (flat_length ys)
      (fun j u hj => by rw [Addr.add_lit]; exact flat_cells h j u hj) (flat_one ys) (by unfold maxLen; omega) (by omega) hlo
    exact ⟨v', w', h1, by rw [List.length_append, flat_append]; exact h2, Keep.of_grown h3, h5⟩

/-- The first ones. -/
theorem slice_hi {W : World} {v : Value} {l : List K3} (h : Cs W v l) (k : Nat) (hk : k ≤ l.length) :
    ∃ v', (Instr.sliceAt 34 v none (some (.int .i64 k)) none).run Try.prog W = .ok v' W ∧ Cs W v' (l.take k) ∧ (v'.ownBlock = v.ownBlock) := by
  have hlt : (l.take k).length = k := by rw [List.length_take]; omega
  rcases h with ⟨rfl, rfl⟩ | ⟨b, off, c, rfl, hc, h⟩
  · obtain rfl : k = 0 := by simpa using hk
    refine ⟨.slice none 0 0, ?_, .inl ⟨rfl, by simp⟩, rfl⟩
    simp [Instr.sliceAt, Instr.slice, run_underlying Try.underlying34, Instr.sliceBounds, go_sem]
  · have hkz : (k : Int) ≤ (c : Int) := by omega
    have hk0 : (0 : Int) ≤ (k : Int) := by omega
    refine ⟨.slice (some ⟨b, off, none⟩) k c, ?_, .inr ⟨b, off, c, by rw [hlt], by omega, fun j x hj => h j x ?_⟩, rfl⟩
    · by_cases h0 : c = 0
      · subst h0
        obtain rfl : k = 0 := by omega
        simp [Instr.sliceAt, Instr.slice, run_underlying Try.underlying34, Instr.sliceBounds, go_sem]
      · simp [Instr.sliceAt, Instr.slice, run_underlying Try.underlying34, Instr.sliceBounds, go_sem, hkz, hk0, h0]
    · rw [List.getElem?_take] at hj
      split at hj
      · exact hj
      · cases hj
/-- The others. -/
theorem slice_lo {W : World} {v : Value} {l : List K3} (h : Cs W v l) (k : Nat) (hk : k ≤ l.length) :
    ∃ v', (Instr.sliceAt 34 v (some (.int .i64 k)) none none).run Try.prog W = .ok v' W ∧ Cs W v' (l.drop k) ∧ (v'.ownBlock = v.ownBlock) := by
  have hlt : (l.drop k).length = l.length - k := List.length_drop
  rcases h with ⟨rfl, rfl⟩ | ⟨b, off, c, rfl, hc, h⟩
  · obtain rfl : k = 0 := by simpa using hk
    refine ⟨.slice none 0 0, ?_, .inl ⟨rfl, by simp⟩, rfl⟩
    simp [Instr.sliceAt, Instr.slice, run_underlying Try.underlying34, Instr.sliceBounds, go_sem]
  · have hkz : (k : Int) ≤ (l.length : Int) := by omega
    have hk0 : (0 : Int) ≤ (k : Int) := by omega
    by_cases h0 : c = k
    · refine ⟨.slice (some ⟨b, off, none⟩) (l.length - k) (c - k), ?_, .inr ⟨b, off, c - k, by rw [hlt], by omega, fun j x hj => ?_⟩, rfl⟩
      · simp [Instr.sliceAt, Instr.slice, run_underlying Try.underlying34, Instr.sliceBounds, go_sem, hkz, hk0, h0]
      · have := (List.getElem?_eq_some_iff.1 hj).1
        omega
    · refine ⟨.slice (some ⟨b, off + k * 3, none⟩) (l.length - k) (c - k), ?_, .inr ⟨b, off + k * 3, c - k, by rw [hlt], by omega, fun j x hj => ?_⟩, rfl⟩
      · simp [Instr.sliceAt, Instr.slice, run_underlying Try.underlying34, Instr.sliceBounds, go_sem, hkz, hk0, h0]
      · rw [List.getElem?_drop] at hj
        have := h (k + j) x hj
        rw [Nat.add_mul, ← Nat.add_assoc] at this
        exact this

/-- At a region's list. -/
theorem wpList_slice {P : Program} {ops : Array Oper} {rest : List Oper} {o : Oper} {a : Act} {w : World} {Q : Exit → Act → World → Prop} {v' : Value}
    (hg : o.guard = none) (t : TypeId) (s : Operand) (lo hi : Option Operand) (hop : o.op = Op.slice t s lo hi none)
    (hrun : (Instr.sliceAt t (a.eval s) (lo.map a.eval) (hi.map a.eval) none).run P w = .ok v' w) (hK : wpList P ops Q rest (a.put o.dst v') w) : wpList P ops Q (o :: rest) a w := by
  refine wpList_plain hg fun K hK' => ?_
  unfold Oper.wp
  simp [execOp, hop, hrun, Result.andThen]
  exact hK' _ _ hK

/-- A sketch of the reference. -/
structure Rf (W : World) (r : Nat) (v : Value) (cap : Nat) (l : List K3) : Prop where
  c0 : W.cell? ⟨r, 0, none⟩ = some (.int .i64 cap)
  c1 : W.cell? ⟨r, 1, none⟩ = some v
  fr : W.frozen? ⟨r, 1, none⟩ = false
  cs : Cs W v l
  ne : ∀ b, v.ownBlock = some b → b ≠ r ∧ b < W.heap.size
theorem Rf.keep {W W' : World} {r : Nat} {v : Value} {cap : Nat} {l : List K3} {A : Nat → Prop} (h : Rf W r v cap l) (k : Keep A W W') (h1 : ¬ A r) (h2 : ∀ b, v.ownBlock = some b → ¬ A b) : Rf W' r v cap l :=
  ⟨k.cell h.c0 h1, k.cell h.c1 h1, (k.frozen (World.block_lt_of_cell? _ _ h.c1) h1 1).trans h.fr, h.cs.keep k h2, fun b hb => ⟨(h.ne b hb).1, Nat.lt_of_lt_of_le (h.ne b hb).2 k.size⟩⟩
theorem Rf.kept {W W' : World} {r : Nat} {v : Value} {cap : Nat} {l : List K3} (h : Rf W r v cap l) (k : Keep (fun _ => False) W W') : Rf W' r v cap l := h.keep k (fun h => h) (fun _ _ h => h)

set_option maxRecDepth 100000 in
set_option maxHeartbeats 400000 in
theorem rnew_bad (k : Int) (hk : k < 1 ∨ 64 < k) (w : World) : Calls Try.prog 20 #[.int .i64 k] w fun e w' => e = .returned (.tuple #[.pointer none, .int .i64 140]) ∧ w = w' := by
  by_cases h1 : k < 1
  · clear hk
    go_enter Try.func20, Try.ntmps20
    go_wp2_with fail
    go_ret2
    exact ⟨rfl, rfl⟩
  · have h2 : 64 < k := by omega
    clear hk
    go_enter Try.func20, Try.ntmps20
    go_wp2_with fail
    go_ret2
    exact ⟨rfl, rfl⟩
def RNewPost (k : Nat) (w : World) (e : Ending) (w' : World) : Prop := ∃ r, e = .returned (.tuple #[ptr r, .int .i64 0]) ∧ Rf w' r (.slice none 0 0) k [] ∧ Keep (fun _ => False) w w' ∧ w.heap.size ≤ r
set_option maxRecDepth 100000 in
set_option maxHeartbeats 400000 in
theorem rnew_ok (k : Nat) (h1 : 1 ≤ k) (h2 : k ≤ 64) (w : World) : Calls Try.prog 20 #[.int .i64 k] w (RNewPost k w) := by
  have h3 : ¬ (k : Int) < 1 := by omega
  have h4 : ¬ 64 < (k : Int) := by omega
  go_enter Try.func20, Try.ntmps20
  go_wp2_with fail
  go_ret2
  have hh : (w.alloc (.cells #[.int .i64 k, .slice none 0 0] 70)).heap[w.heap.size]? = some (.cells #[.int .i64 k, .slice none 0 0] 70) := World.alloc_heap_new _ _
  refine ⟨w.heap.size, rfl, ⟨?_, ?_, ?_, .inl ⟨rfl, rfl⟩, fun b hb => by cases hb⟩, (Keep.refl _ w).alloc _, Nat.le_refl _⟩
  · unfold World.cell?; simp only [hh]; rfl
  · unfold World.cell?; simp only [hh]; rfl
  · unfold World.frozen?; simp only [hh]; rfl

theorem sumH_take_le {L : List C} (h : ∀ x ∈ L, 0 ≤ x.hi) (i : Nat) : 0 ≤ sumH (L.take i) ∧ sumH (L.take i) ≤ sumH L := by
  have h1 : 0 ≤ sumH (L.take i) := sumH_nonneg (fun x hx => h x (List.mem_of_mem_take hx))
  have h2 : 0 ≤ sumH (L.drop i) := sumH_nonneg (fun x hx => h x (List.mem_of_mem_drop hx))
  have h3 := sumH_append (L.take i) (L.drop i)
  rw [List.take_append_drop] at h3
  omega
theorem sumH_take_succ {L : List C} {i : Nat} {x : C} (h : L[i]? = some x) : sumH (L.take (i + 1)) = sumH (L.take i) + x.hi := by
  rw [List.take_add_one, h, sumH_append]
  simp [sumH]

set_option maxRecDepth 100000 in
set_option maxHeartbeats 1000000 in
theorem rtotal_sk {w : World} {r : Nat} {v : Value} {cap : Nat} {L : List C} (h : Rf w r v cap (L.map ctrOf)) (ok : OkL cap L) : Calls Try.prog 24 #[ptr r] w fun e w' => e = .returned (.int .i64 (sumH L)) ∧ w = w' := by
  obtain ⟨a, c, b, off, rfl, hc, ha, hcell⟩ := h.cs.open_
  have c1 := h.c1
  rw [List.length_map] at c1 ha hc
  have hl64 : L.length ≤ 64 := Nat.le_trans ok.len ok.cap64
  have hpos : ∀ x ∈ L, 0 ≤ x.hi := fun x hx => by have := ok.pos x hx; omega
  have hsum := (ok.hi0 ⟨#[]⟩)
  have hmax := ok.sum
  obtain ⟨n, hn⟩ : ∃ n, n = L.length := ⟨_, rfl⟩
  rw [← hn] at c1 ha hc hl64
  have HN := Lib.hid hn
  have HA := Lib.hid ha
  have HC := Lib.hid hcell
  have HP := Lib.hid hpos
  clear h hn ha hcell ok hpos hc
  go_enter Try.func24, Try.ntmps24
  go_wp2_with fail
  go_loopg [3, 4] n (fun gh vn vi wr => ∃ i : Nat, vn = .int .i64 (sumH (L.take i)) ∧ vi = .int .i64 i ∧ i ≤ n ∧ n ≤ gh + i ∧ wr = w)
  case atStart => exact ⟨0, by simp [sumH], rfl, Nat.zero_le _, by omega, rfl⟩
  case round =>
    obtain ⟨i, rfl, rfl, hi, hgh, rfl⟩ := hrel
    by_cases hlt : i < n
    · have hltz : (i : Int) < (n : Int) := by omega
      have hi0 : (0 : Int) ≤ (i : Int) := by omega
      obtain rfl := HA.out (by omega)
      obtain ⟨x, hx⟩ : ∃ x, L[i]? = some x := ⟨_, List.getElem?_eq_getElem (by rw [← HN.out]; exact hlt)⟩
      have q := (HC.out i (ctrOf x) (by rw [List.getElem?_map, hx]; rfl)).2.1
      have q' : wr.cell? ⟨b, off + i * 3 + 1, none⟩ = some (.int .i64 x.hi) := q
      have hb1 := sumH_take_le HP.out i
      have hb2 := sumH_take_le HP.out (i + 1)
      have hsu := sumH_take_succ hx
      have HSU := Lib.hid hsu
      rw [hsu] at hb2
      clear q hx hsu
      generalize sumH (L.take i) = T at *
      go_wp2_with fail
      go_roundg (n - (i + 1))
      case rel => exact ⟨i + 1, by rw [HSU.out], by go_num, by omega, by omega, rfl⟩
      case measure => omega
    · have hltz : ¬ (i : Int) < (n : Int) := by omega
      have HE : Hid (sumH (L.take i) = sumH L) := Lib.hid (by rw [List.take_of_length_le (by have := HN.out; omega)])
      rw [HE.out]
      go_wp2_with fail
      go_ret
      exact ⟨rfl, rfl⟩

set_option maxRecDepth 100000 in
set_option maxHeartbeats 1000000 in
theorem rleast_sk {w : World} {r : Nat} {v : Value} {cap : Nat} {L : List C} (h : Rf w r v cap (L.map ctrOf)) (ok : OkL cap L) : Calls Try.prog 40 #[ptr r] w fun e w' => e = .returned (.int .i64 (leastC cap L)) ∧ Keep (fun _ => False) w w' := by
  obtain ⟨a, c, b, off, rfl, hc, ha, hcell⟩ := h.cs.open_
  have c1 := h.c1
  have c0 := h.c0
  rw [List.length_map] at c1 ha hc
  have hl := ok.len
  have hl1 := ok.cap1
  have hl64 := ok.cap64
  have HLE : Hid (leastC cap L = if L.length < cap then 0 else match L.getLast? with | none => 0 | some x => x.hi) := Lib.hid rfl
  have HC := Lib.hid hcell
  clear h hcell ok hc
  obtain ⟨n, hn⟩ : ∃ n, n = L.length := ⟨_, rfl⟩
  rw [← hn] at c1 ha hl
  have HN := Lib.hid hn
  by_cases hlt : n < cap
  · have hltz : (n : Int) < (cap : Int) := by omega
    have e0 : leastC cap L = 0 := by rw [HLE.out, if_pos (by omega)]
    rw [e0]
    clear ha hn HLE e0
    go_enter Try.func40, Try.ntmps40
    go_wp2_with fail
    go_quiet (fail)
    go_wp2_with fail
    go_ret
    exact ⟨rfl, (Keep.refl _ w).drewN _⟩
  · have hltz : ¬ (n : Int) < (cap : Int) := by omega
    obtain rfl := ha (by omega)
    obtain ⟨m, rfl⟩ : ∃ m, n = m + 1 := ⟨n - 1, by omega⟩
    obtain ⟨x, hx⟩ : ∃ x, L[m]? = some x := ⟨_, List.getElem?_eq_getElem (by omega)⟩
    have q : w.cell? ⟨b, off + m * 3 + 1, none⟩ = some (.int .i64 x.hi) := (HC.out m (ctrOf x) (by rw [List.getElem?_map, hx]; rfl)).2.1
    have e0 : leastC cap L = x.hi := by
      rw [HLE.out, if_neg (by omega), List.getLast?_eq_getElem?, ← hn, Nat.add_sub_cancel, hx]
    rw [e0]
    have hm1 : IntKind.i64.wrap ((m : Int) + 1 - 1) = (m : Int) := by rw [IntKind.wrap_i64]; omega
    have hm2 : (m : Int) + 1 - 1 = (m : Int) := by omega
    have hmz : (m : Int) < (m : Int) + 1 := by omega
    have hm0 : (0 : Int) ≤ (m : Int) := by omega
    clear ha hn HLE e0 hx HC HN
    go_enter Try.func40, Try.ntmps40
    go_wp2_with fail
    go_quiet (fail)
    go_wp2_with fail
    go_quiet (fail)
    go_wp2_with fail
    go_ret
    exact ⟨rfl, ((Keep.refl _ w).drewN _).drewN _⟩

/-- Three cells are stored. -/
theorem set3 {W : World} {z : Nat} {u0 u1 u2 : Value} (h0 : W.cell? ⟨z, 0, none⟩ = some u0) (h1 : W.cell? ⟨z, 1, none⟩ = some u1) (h2 : W.cell? ⟨z, 2, none⟩ = some u2) (v0 v1 v2 : Value) :
    (((W.setCell ⟨z, 0, none⟩ v0).setCell ⟨z, 1, none⟩ v1).setCell ⟨z, 2, none⟩ v2).cell? ⟨z, 0, none⟩ = some v0 ∧ (((W.setCell ⟨z, 0, none⟩ v0).setCell ⟨z, 1, none⟩ v1).setCell ⟨z, 2, none⟩ v2).cell? ⟨z, 1, none⟩ = some v1 ∧ (((W.setCell ⟨z, 0, none⟩ v0).setCell ⟨z, 1, none⟩ v1).setCell ⟨z, 2, none⟩ v2).cell? ⟨z, 2, none⟩ = some v2 :=
  ⟨(cell_set_off (by decide)).trans ((cell_set_off (by decide)).trans (cell_set_same h0)), (cell_set_off (by decide)).trans (cell_set_same ((cell_set_off (by decide)).trans h1)), cell_set_same ((cell_set_off (by decide)).trans ((cell_set_off (by decide)).trans h2))⟩

/-- before, as a test. -/
def befB (x y : C) : Bool := decide (y.hi < x.hi) || (decide (x.hi = y.hi) && Op.bytesLess x.key.toList y.key.toList)
set_option maxRecDepth 100000 in
set_option maxHeartbeats 1000000 in
theorem before_any (x y : C) (ex ey : Int) (w : World) : Calls Try.prog 46 #[ctrV x.key x.hi ex, ctrV y.key y.hi ey] w fun e w' => e = .returned (.bool (befB x y)) ∧ Keep (fun _ => False) w w' := by
  have HK : Hid (Keep (fun _ => False) w ((w.alloc (.cells #[.string x.key, .int .i64 x.hi, .int .i64 ex] 37)).alloc (.cells #[.string y.key, .int .i64 y.hi, .int .i64 ey] 37))) := Lib.hid (((Keep.refl _ w).alloc _).alloc _)
  by_cases h1 : y.hi < x.hi
  · have HB : Hid (befB x y = true) := Lib.hid (by unfold befB; simp [h1])
    rw [HB.out]
    go_enter Try.func46, Try.ntmps46
    go_wp2_with fail
    go_ret
    exact ⟨rfl, HK.out⟩
  · by_cases h2 : x.hi = y.hi
    · have h3 : (x.hi == y.hi) = true := by simpa using h2
      cases h4 : Op.bytesLess x.key.toList y.key.toList with
      | true =>
        have HB : Hid (befB x y = true) := Lib.hid (by unfold befB; simp [h2, h4])
        rw [HB.out]
        clear h2
        go_enter Try.func46, Try.ntmps46
        go_wp2_with fail
        go_ret
        exact ⟨rfl, HK.out⟩
      | false =>
        have HB : Hid (befB x y = false) := Lib.hid (by unfold befB; simp [h2, h4])
        rw [HB.out]
        clear h2
        go_enter Try.func46, Try.ntmps46
        go_wp2_with fail
        go_ret
        exact ⟨rfl, HK.out⟩
    · have h3 : (x.hi == y.hi) = false := by simpa using h2
      have HB : Hid (befB x y = false) := Lib.hid (by unfold befB; simp [h1, h2])
      rw [HB.out]
      go_enter Try.func46, Try.ntmps46
      go_wp2_with fail
      go_ret
      exact ⟨rfl, HK.out⟩

theorem atC_take {L : List C} {key : ByteArray} {i : Nat} {x : C} (h : ∀ y ∈ L.take i, y.key ≠ key) (hx : L[i]? = some x) (hk : x.key = key) : atC L key = some x := by
  have e : L = L.take i ++ x :: L.drop (i + 1) := by
    have hl := (List.getElem?_eq_some_iff.1 hx)
    obtain ⟨h1, h2⟩ := hl
    rw [← h2, List.getElem_cons_drop, List.take_append_drop]
  unfold atC
  rw [e, List.find?_append, List.find?_eq_none.2 (fun y hy => by simpa using h y hy)]
  simp [hk]
theorem atC_all {L : List C} {key : ByteArray} (h : ∀ y ∈ L, y.key ≠ key) : atC L key = none := by
  unfold atC
  exact List.find?_eq_none.2 (fun y hy => by simpa using h y hy)

set_option maxRecDepth 100000 in
set_option maxHeartbeats 1000000 in
theorem rget_sk {w : World} {r : Nat} {v : Value} {cap : Nat} {L : List C} (h : Rf w r v cap (L.map ctrOf)) (ok : OkL cap L) (key : ByteArray) : Calls Try.prog 27 #[ptr r, .string key] w fun e w' => e = .returned (getV L key) ∧ Keep (fun _ => False) w w' := by
  have kal : Keep (fun _ => False) w (w.alloc (.cells #[.string ⟨#[]⟩, .int .i64 0, .int .i64 0] 37)) := (Keep.refl _ w).alloc _
  obtain ⟨d0, d1, d2, df⟩ := three_cell w (.string ⟨#[]⟩) (.int .i64 0) (.int .i64 0) 37
  have h' := h.kept kal
  obtain ⟨a, c, b, off, rfl, hc, ha, hcell⟩ := h'.cs.open_
  have c1 := h'.c1
  rw [List.length_map] at c1 ha hc
  have hl64 : L.length ≤ 64 := Nat.le_trans ok.len ok.cap64
  obtain ⟨n, hn⟩ : ∃ n, n = L.length := ⟨_, rfl⟩
  rw [← hn] at c1 ha hl64
  have HN := Lib.hid hn
  have HA := Lib.hid ha
  have HC := Lib.hid hcell
  have HK := Lib.hid kal
  have HD := Lib.hid (And.intro d0 (And.intro d1 (And.intro d2 df)))
  clear h h' hn ha hcell ok hc kal d0 d1 d2 df
  go_enter Try.func27, Try.ntmps27
  go_wp2_with fail
  generalize w.alloc (.cells #[.string ⟨#[]⟩, .int .i64 0, .int .i64 0] 37) = W at *
  have HSZ : Hid (w.heap.size ≤ w.heap.size) := Lib.hid (Nat.le_refl _)
  generalize hz : w.heap.size = z at *
  have HZ := Lib.hid hz
  clear hz HSZ
  go_loopg [6] n (fun gh vi wr => ∃ i : Nat, vi = .int .i64 i ∧ i ≤ n ∧ n ≤ gh + i ∧ wr = W ∧ Hid (∀ y ∈ L.take i, y.key ≠ key))
  case atStart => exact ⟨0, rfl, Nat.zero_le _, by omega, rfl, Lib.hid (by simp)⟩
  case round =>
    obtain ⟨i, rfl, hi, hgh, rfl, HNO⟩ := hrel
    by_cases hlt : i < n
    · have hltz : (i : Int) < (n : Int) := by omega
      have hi0 : (0 : Int) ≤ (i : Int) := by omega
      obtain rfl := HA.out (by omega)
      obtain ⟨x, hx⟩ : ∃ x, L[i]? = some x := ⟨_, List.getElem?_eq_getElem (by rw [← HN.out]; exact hlt)⟩
      obtain ⟨q0, q1, q2⟩ := HC.out i (ctrOf x) (by rw [List.getElem?_map, hx]; rfl)
      have q0' : wr.cell? ⟨b, off + i * 3, none⟩ = some (.string x.key) := q0
      have q1' : wr.cell? ⟨b, off + i * 3 + 1, none⟩ = some (.int .i64 x.hi) := q1
      have q2' : wr.cell? ⟨b, off + i * 3 + 2, none⟩ = some (.int .i64 (x.hi - x.lo)) := q2
      clear q0 q1 q2
      by_cases hk : x.key = key
      · have hkb : (x.key.toList == key.toList) = true := by rw [hk]; simp
        have HV : Hid (getV L key = .tuple #[ctrV x.key x.hi (x.hi - x.lo), .bool true]) := Lib.hid (by unfold getV; rw [atC_take HNO.out hx hk, hk])
        clear hx
        obtain ⟨d0, d1, d2, df⟩ := HD.out
        have e0 := df 0
        have e1 := df 1
        have e2 := df 2
        clear df
        go_wp2_with fail
        obtain ⟨g0, g1, g2⟩ := set3 d0 d1 d2 (.string key) (.int .i64 x.hi) (.int .i64 (x.hi - x.lo))
        refine bodyPost_ret (v := .tuple #[ctrV key x.hi (x.hi - x.lo), .bool true]) (by simp [results, Try.results27, go_sem, g0, g1, g2]) rfl ⟨by rw [HV.out, hk], ?_⟩
        exact ((HK.out.setCell _ (.inr (Nat.le_of_eq HZ.out))).setCell _ (.inr (Nat.le_of_eq HZ.out))).setCell _ (.inr (Nat.le_of_eq HZ.out))
      · have hkb : (x.key.toList == key.toList) = false := by
          cases e : (x.key.toList == key.toList) with
          | false => rfl
          | true => exact absurd (toList_inj (by simpa using e)) hk
        have HNX : Hid (∀ y ∈ L.take (i + 1), y.key ≠ key) := Lib.hid (fun y hy => by
          rw [List.take_add_one, hx, List.mem_append] at hy
          rcases hy with hy | hy
          · exact HNO.out y hy
          · simp at hy; rw [hy]; exact hk)
        clear hx
        go_wp2_with fail
        go_roundg (n - (i + 1))
        case rel => exact ⟨i + 1, by go_num, by omega, by omega, rfl, HNX⟩
        case measure => omega
    · have hltz : ¬ (i : Int) < (n : Int) := by omega
      have HV : Hid (getV L key = .tuple #[ctrV ⟨#[]⟩ 0 0, .bool false]) := Lib.hid (by
        have := HNO.out
        rw [List.take_of_length_le (by have := HN.out; omega)] at this
        unfold getV; rw [atC_all this])
      obtain ⟨d0, d1, d2, df⟩ := HD.out
      have e0 := df 0
      have e1 := df 1
      have e2 := df 2
      clear df
      go_wp2_with fail
      obtain ⟨g0, g1, g2⟩ := set3 d0 d1 d2 (.string ⟨#[]⟩) (.int .i64 0) (.int .i64 0)
      refine bodyPost_ret (v := .tuple #[ctrV ⟨#[]⟩ 0 0, .bool false]) (by simp [results, Try.results27, go_sem, g0, g1, g2]) rfl ⟨by rw [HV.out], ?_⟩
      exact ((HK.out.setCell _ (.inr (Nat.le_of_eq HZ.out))).setCell _ (.inr (Nat.le_of_eq HZ.out))).setCell _ (.inr (Nat.le_of_eq HZ.out))
end Go.Proofs.Ytogkkghliogpeaa
