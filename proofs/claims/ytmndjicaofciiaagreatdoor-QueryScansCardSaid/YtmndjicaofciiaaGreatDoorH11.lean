/-
  Rows in a slice of their own; their sort.
-/
import Derived.Test.YtmndjicaofciiaaGreatDoorH10
namespace Go.Proofs.YtmndjicaofciiaaGreatDoor
open Go.RowKit Go.Shelf
open Go.Sort (grow)

/-! ### nothing to sort -/
set_option maxRecDepth 100000 in
set_option maxHeartbeats 1000000 in
theorem insert_nil (f : Value) (w : World) : Calls Tryz.prog 59 #[.slice none 0 0, .int .i64 0, .int .i64 0, f] w fun e w' => e = .returned (.tuple #[]) ∧ w = w' := by
  go_enter Tryz.func59, Tryz.ntmps59
  go_wp2_with fail
  go_loopg [8] 0 (fun gh v wr => v = .int .i64 1 ∧ w = wr)
  case atStart => exact ⟨rfl, rfl⟩
  case round =>
    obtain ⟨rfl, rfl⟩ := hrel
    go_wp2_with fail
    go_end0
    exact ⟨rfl, rfl⟩
set_option maxRecDepth 100000 in
set_option maxHeartbeats 1000000 in
theorem pdq_nil (l : Int) (f : Value) (w : World) : Calls Tryz.prog 48 #[.slice none 0 0, .int .i64 0, .int .i64 0, .int .i64 l, f] w fun e w' => e = .returned (.tuple #[]) ∧ w = w' := by
  go_enter Tryz.func48, Tryz.ntmps48
  go_wp2_with fail
  go_loopg [1, 2] 0 (fun gh va vb wr => va = .int .i64 0 ∧ vb = .int .i64 0 ∧ w = wr)
  case atStart => exact ⟨rfl, rfl, rfl⟩
  case round =>
    obtain ⟨rfl, rfl, rfl⟩ := hrel
    go_wp2_with fail
    with_reducible refine (insert_nil f w).mono ?_
    rintro e w' ⟨rfl, rfl⟩
    go_wp2_with fail
    exact bodyPost_ret (v := .tuple #[]) (by simp [results, Tryz.results48, go_sem]) rfl ⟨rfl, rfl⟩
set_option maxRecDepth 100000 in
set_option maxHeartbeats 1000000 in
theorem sort_nil (f : Value) (w : World) : Calls Tryz.prog 30 #[.slice none 0 0, f] w fun e w' => e = .returned (.tuple #[]) ∧ w = w' := by
  have hl : Calls Tryz.prog 49 #[.int .u64 0] w fun e w' => e = .returned (.int .i64 (Lib.bitLen 0 : Nat)) ∧ w' = w := by
    have h := Go.Proofs.Any.bits_Len (Go.Proofs.SlLaysF0.n15.bits Tryz.bitsLen) 0 w (by omega) (by omega)
    exact h
  have HL := Lib.hid hl
  generalize Lib.bitLen 0 = bl at *
  clear hl
  go_enter Tryz.func30, Tryz.ntmps30
  go_wp2_with fail
  with_reducible refine HL.out.mono ?_
  rintro e w' ⟨rfl, rfl⟩
  go_wp2_with fail
  with_reducible refine (pdq_nil _ _ _).mono ?_
  rintro e w' ⟨rfl, rfl⟩
  go_wp2_with fail
  go_end0
  exact ⟨rfl, rfl⟩

/-! ### rows in a slice of their own -/
theorem rowC_len (x : R5) : (rowC x).length = 5 := rfl
def flatR (l : List R5) : List Value := l.flatMap rowC
theorem flatR_append (a b : List R5) : flatR (a ++ b) = flatR a ++ flatR b := by unfold flatR; rw [List.flatMap_append]
theorem flatR_one (x : R5) : flatR [x] = rowC x := by simp [flatR]
theorem flatR_get : ∀ (l : List R5) (q : Nat) (x : R5) (r : Nat), l[q]? = some x → r < 5 → (flatR l)[q * 5 + r]? = (rowC x)[r]?
  | [], _, _, _, h, _ => by simp at h
  | y :: l, 0, x, r, h, hr => by
    simp only [List.getElem?_cons_zero, Option.some.injEq] at h
    subst h
    unfold flatR
    rw [List.flatMap_cons, List.getElem?_append_left (by rw [rowC_len]; omega), Nat.zero_mul, Nat.zero_add]
  | y :: l, q + 1, x, r, h, hr => by
    simp only [List.getElem?_cons_succ] at h
    have ih := flatR_get l q x r h hr
    unfold flatR at ih ⊢
    rw [List.flatMap_cons, List.getElem?_append_right (by rw [rowC_len, Nat.add_mul]; omega), rowC_len, ← ih]
    congr 1
    rw [Nat.add_mul]; omega
theorem ownsRow_keep {W W' : World} {lo : Nat} {e : TypeId} {z : Nat} {v : Value} {n : Nat} {xs : List Value} {A : Nat → Prop} (h : W.ownsRow lo e z v n xs) (k : Keep A W W') (hA : ∀ b, v.ownBlock = some b → ¬ A b) : W'.ownsRow lo e z v n xs := by
  obtain ⟨h1, h2⟩ := h
  refine ⟨h1, ?_⟩
  rcases h2 with h2 | ⟨g, cap, cur, rfl, hb, hh, r⟩
  · exact .inl h2
  · exact .inr ⟨g, cap, cur, rfl, hb, k.heap hh (hA g rfl), r⟩
theorem cells_new (W : World) (xs : List Value) (t : TypeId) (j : Nat) (u : Value) (h : xs[j]? = some u) : (W.alloc (.cells xs.toArray t)).cell? ⟨W.heap.size, j, none⟩ = some u := by
  unfold World.cell?
  rw [World.alloc_heap_new]
  simp [h]
/-- One element more. -/
theorem app_one (st e : TypeId) (k by_ : Nat) (z : Value) (hst : Tryz.prog.underlying st = some (.slice e)) (hinfo : (Tryz.prog.info? e).map (fun i => (i.zero, i.size, i.bytes)) = some (some z, k, by_)) (hzs : z.cells.size = k) (hk : 0 < k) (hby : by_ ≤ 200)
    (W : World) (ty lo : Nat) (v : Value) (n : Nat) (xs new : List Value) (hown : W.ownsRow lo e k v n xs) (hlen : new.length = k) (h1 : ∀ u ∈ new, u.oneCell' = true) (hn : n ≤ 1000000) (hlo : lo ≤ W.heap.size) :
    ∃ v' w', (Builtin.append_ #[st, st] ty #[v, .slice (some ⟨W.heap.size, 0, none⟩) 1 1]).run Tryz.prog (W.alloc (.cells new.toArray e)) = .ok v' w' ∧ w'.ownsRow lo e k v' (n + 1) (xs ++ new) ∧
      Keep (fun k => v.ownBlock = some k) W w' ∧ (v'.ownBlock = v.ownBlock ∨ v'.ownBlock = some (W.heap.size + 1)) ∧ ∃ g c, v' = .slice (some ⟨g, 0, none⟩) (n + 1) c := by
  obtain ⟨i0, hi, hz0, hz1, hz2⟩ := info_parts hinfo
  obtain ⟨v', w', r1, r2, r3, r4, r5⟩ := run_append_own_at (P := Tryz.prog) (W.alloc (.cells new.toArray e)) lo st ty e i0 z k by_ hst hi hz0 hz1 hz2 hzs hk v n xs (hown.alloc _) ⟨W.heap.size, 0, none⟩ 1 1 new (by omega)
    (by
      intro j u hj
      rw [Addr.add_lit, Nat.zero_add]
      exact cells_new W new e j u hj)
    h1 (by unfold maxLen; omega) (by
      have : (n + 1) * by_ ≤ 1000001 * 200 := Nat.mul_le_mul (by omega) hby
      omega) (by rw [World.size_alloc]; omega)
  exact ⟨v', w', r1, r2, ((Keep.refl _ W).alloc _).trans (Keep.of_grown r3), by rw [World.size_alloc] at r5; exact r5, ownsRow_succ r2⟩
theorem wpList_app {P : Program} {ops : Array Oper} {rest : List Oper} {o : Oper} {a : Act} {w w' : World} {Q : Exit → Act → World → Prop} {v v2 v' : Value}
    (hg : o.guard = none) (s x : Operand) (t : TypeId) (hop : o.op = Op.call { callee := Callee.builtin Builtin.append, args := #[s, x], argTypes := #[t, t] })
    (hs : a.eval s = v) (hx : a.eval x = v2) (hrun : (Builtin.append_ #[t, t] o.type #[v, v2]).run P w = .ok v' w') (hK : wpList P ops Q rest (a.put o.dst v') w') : wpList P ops Q (o :: rest) a w := by
  refine wpList_plain hg fun K hK' => ?_
  unfold Oper.wp
  simp [execOp, hop, resolve, invoke, builtin, hs, hx, hrun, Result.andThen]
  exact hK' _ _ hK
theorem infoRow : (Tryz.prog.info? 37).map (fun i => (i.zero, i.size, i.bytes)) = some (some (.agg #[.int .i64 0, .int .i64 0, .int .i64 0, .int .i64 0, .int .i64 0]), 5, 40) := by kernel_rfl
/-- Rows in a slice of their own. -/
def OwnR (w : World) (l : List R5) (v : Value) (W : World) : Prop := Keep (fun _ => False) w W ∧ W.ownsRow w.heap.size 37 5 v l.length (flatR l)
theorem OwnR.nil {w W : World} (k : Keep (fun _ => False) w W) : OwnR w [] (.slice none 0 0) W := ⟨k, by simpa [flatR] using World.ownsRow_nil W w.heap.size 37 5⟩
theorem OwnR.keep {w W W' : World} {l : List R5} {v : Value} (h : OwnR w l v W) (k : Keep (fun _ => False) W W') : OwnR w l v W' := ⟨h.1.trans k, ownsRow_keep h.2 k (fun _ _ h => h)⟩
theorem OwnR.keep' {w W W' : World} {A : Nat → Prop} {l : List R5} {v : Value} (h : OwnR w l v W) (k : Keep A W W') (hA : ∀ i, A i → w.heap.size ≤ i) (hv : ∀ b, v.ownBlock = some b → ¬ A b) : OwnR w l v W' := ⟨h.1.trans' k (fun i hi => .inr (hA i hi)), ownsRow_keep h.2 k hv⟩
theorem OwnR.form {w W : World} {l : List R5} {v : Value} (h : OwnR w l v W) : v = .slice none 0 0 ∨ ∃ b n c, v = .slice (some ⟨b, 0, none⟩) n c := by
  rcases h.2.2 with ⟨rfl, _⟩ | ⟨g', cap, cur, rfl, _⟩
  · exact .inl rfl
  · exact .inr ⟨_, _, _, rfl⟩
theorem app_row {W : World} {lo : Nat} {l : List R5} {v : Value} (h : W.ownsRow lo 37 5 v l.length (flatR l)) (hlo : lo ≤ W.heap.size) (x : R5) (hl : l.length ≤ 100000) :
    ∃ v' w', (Builtin.append_ #[31, 31] 31 #[v, .slice (some ⟨W.heap.size, 0, none⟩) 1 1]).run Tryz.prog (W.alloc (.cells (rowC x).toArray 37)) = .ok v' w' ∧ w'.ownsRow lo 37 5 v' (l ++ [x]).length (flatR (l ++ [x])) ∧ Keep (fun j => v.ownBlock = some j) W w' := by
  obtain ⟨v', w', r1, r2, r3, r4, -⟩ := app_one 31 37 5 40 _ Tryz.underlying31 infoRow rfl (by decide) (by decide) W 31 lo v l.length (flatR l) (rowC x) h rfl (by simp [Value.oneCell']) (by omega) hlo
  refine ⟨v', w', r1, ?_, r3⟩
  rw [flatR_append, flatR_one, List.length_append]
  exact r2
theorem OwnR.snoc {w W : World} {l : List R5} {v : Value} (h : OwnR w l v W) (x : R5) (hl : l.length ≤ 100000) :
    ∃ v' w', (Builtin.append_ #[31, 31] 31 #[v, .slice (some ⟨W.heap.size, 0, none⟩) 1 1]).run Tryz.prog (W.alloc (.cells (rowC x).toArray 37)) = .ok v' w' ∧ OwnR w (l ++ [x]) v' w' ∧ Keep (fun j => v.ownBlock = some j) W w' ∧ (v'.ownBlock = v.ownBlock ∨ v'.ownBlock = some (W.heap.size + 1)) := by
  obtain ⟨v', w', r1, r2, r3, r4, -⟩ := app_one 31 37 5 40 _ Tryz.underlying31 infoRow rfl (by decide) (by decide) W 31 w.heap.size v l.length (flatR l) (rowC x) h.2 rfl (by simp [Value.oneCell']) (by omega) h.1.size
  refine ⟨v', w', r1, ⟨h.1.trans' r3 (fun j e => .inr (h.2.lt j e).1), ?_⟩, r3, r4⟩
  rw [flatR_append, flatR_one, List.length_append]
  exact r2
theorem owns_holdsR {W : World} {lo g n cap : Nat} {l : List R5} (h : W.ownsRow lo 37 5 (.slice (some ⟨g, 0, none⟩) n cap) l.length (flatR l)) : Go.Sort.HoldsK rowC 5 W g 0 l.toArray := by
  intro j hj
  rw [Go.Sort.size_flatK] at hj
  simp only [List.size_toArray] at hj
  have hq : j / 5 < l.length := by omega
  have hx : l[j / 5]? = some l[j / 5] := List.getElem?_eq_getElem hq
  have h1 := flatR_get l (j / 5) _ (j % 5) hx (by omega)
  rw [show j / 5 * 5 + j % 5 = j by omega] at h1
  have h2 : (rowC l[j / 5])[j % 5]? = some ((rowC l[j / 5])[j % 5]!) := by
    have : j % 5 < (rowC l[j / 5]).length := by show j % 5 < 5; omega
    rw [List.getElem?_eq_getElem this, getElem!_pos (rowC l[j / 5]) (j % 5) this]
  rw [h2] at h1
  have h3 := h.cells (g := g) rfl _ _ h1
  rw [Addr.add_lit] at h3
  refine ⟨?_, ?_⟩
  · rw [Go.Sort.get_flatK _ _ _ _ (by simpa using hj)]
    have e : (l.toArray)[j / 5]! = l[j / 5] := by rw [getElem!_pos l.toArray (j / 5) (by simpa using hq)]; simp
    rw [e]; exact h3
  · rcases h.2 with ⟨h4, _⟩ | ⟨g', cap', cur, h4, _, hh, _⟩
    · cases h4
    · cases h4
      unfold World.frozen?
      rw [hh]
      rfl
theorem holds_rws {W : World} {g : Nat} {d : Array R5} (h : Go.Sort.HoldsK rowC 5 W g 0 d) (i : Nat) (r : R5) (hi : d.toList[i]? = some r) (j : Nat) (x : Value) (hj : (rowC r)[j]? = some x) : W.cell? ⟨g, 0 + i * 5 + j, none⟩ = some x := by
  have hlt : i < d.size := by have := (List.getElem?_eq_some_iff.1 hi).1; simpa using this
  have hx : d[i]! = r := by
    rw [Array.getElem?_toList, Array.getElem?_eq_getElem hlt] at hi
    simp only [Option.some.injEq] at hi
    rw [getElem!_pos d i hlt]; exact hi
  have hj5 : j < 5 := (List.getElem?_eq_some_iff.1 hj).1
  have h1 := (h (i * 5 + j) (by rw [Go.Sort.size_flatK]; omega)).1
  rw [Go.Sort.get_flatK _ _ _ _ (by omega), show (i * 5 + j) / 5 = i by omega, show (i * 5 + j) % 5 = j by omega, hx] at h1
  have h2 : (rowC r)[j]! = x := by
    rw [List.getElem!_eq_getElem?_getD, hj]; rfl
  rw [show 0 + i * 5 + j = 0 + (i * 5 + j) by omega, h1]
  exact congrArg some h2
def SortR (l : List R5) (w : World) (v : Value) (e : Ending) (w' : World) : Prop := e = .returned (.tuple #[]) ∧ ∃ s : List R5, s.Perm l ∧ Rws w' v s ∧ Keep (fun j => v.ownBlock = some j) w w'
theorem sort_rows {w : World} {lo : Nat} {l : List R5} {v : Value} {c : Int} {zb : Nat} (h : w.ownsRow lo 37 5 v l.length (flatR l)) (hl : l.length ≤ 100000) (hc : w.cell? ⟨zb, 0, none⟩ = some (.int .i64 c)) (hne : ∀ b, v.ownBlock = some b → zb ≠ b) :
    Calls Tryz.prog 30 #[v, .func (.func 31) #[] #[ptr zb]] w (SortR l w v) := by
  rcases h.2 with ⟨rfl, h0⟩ | ⟨g, cap, cur, rfl, hg, hh, hcap, r⟩
  · have : l = [] := List.eq_nil_of_length_eq_zero (by omega)
    subst this
    refine (sort_nil _ w).mono ?_
    rintro e w' ⟨rfl, rfl⟩
    exact ⟨rfl, [], List.Perm.refl _, ⟨by simp, none, 0, 0, 0, rfl, Nat.le_refl _, fun h => by simp at h, fun i r hi => by simp at hi⟩, Keep.refl _ _⟩
  · have hH := owns_holdsR h
    have hblk : g < w.heap.size := (Array.getElem?_eq_some_iff.1 hh).1
    have hs := sortRows c zb g 0 cap l.toArray w hc (hne g rfl) hH hblk (by simp; omega)
    simp only [List.size_toArray] at hs
    refine hs.mono ?_
    rintro e w' ⟨rfl, d', n, os, hperm, hsort, rfl⟩
    have hp : d'.toList.Perm l := by
      have h1 := hperm.2.2
      have h2 := hperm.1
      simp only [List.size_toArray] at h2
      have e1 : d'.extract 0 l.length = d' := by rw [← h2]; exact Array.extract_size
      have e2 : (l.toArray.extract 0 l.length) = l.toArray := by simp
      rw [e1, e2] at h1
      simpa using h1
    have hsz : d'.toList.length = l.length := hp.length_eq
    refine ⟨rfl, d'.toList, hp, ⟨by omega, some ⟨g, 0, none⟩, cap, g, 0, by rw [hsz], by omega, fun _ => rfl, fun i r hi j x hj => ?_⟩, ?_⟩
    · have hHd := Go.Proofs.holdsK_sortWorldK_c rowC 5 w g 0 l.toArray d' n os hH hblk (by simpa using hsz)
      exact holds_rws hHd i r hi j x hj
    · refine (keep_sortR w g 0 n d' os).mono (fun j e => ?_)
      show some g = some j
      rw [e]
end Go.Proofs.YtmndjicaofciiaaGreatDoor
