/-
  Several texts in one, each under its own heading below (merged by a program of ours): the contracts of the functions that the law reaches, part 2 of 5.
-/
import Derived.Test.YtcnpncndecjahaaGreatDoorX1
import Derived.Deep.LoopGhost
import Derived.Maps.AppendAt
import Derived.OwnWalk
import Derived.RangeFuncBox
import Derived.Handy
import Derived.ArgAppend

/-
  Rows in a slice of their own; their sort.
-/
namespace Go.Proofs.YtcnpncndecjahaaGreatDoor
open Go.RowKit Go.Shelf
open Go.Sort (grow)

/-! ### nothing to sort -/
set_option maxRecDepth 100000 in
set_option maxHeartbeats 1000000 in
theorem insert_nil (f : Value) (w : World) : Calls Tryz.prog 106 #[.slice none 0 0, .int .i64 0, .int .i64 0, f] w fun e w' => e = .returned (.tuple #[]) ∧ w = w' := by
  go_enter Tryz.func106, Tryz.ntmps106
  go_wp2_with fail
  go_loopg [8] 0 (fun gh v wr => v = .int .i64 1 ∧ w = wr)
  case atStart => exact ⟨rfl, rfl⟩
  case round =>
    obtain ⟨rfl, rfl⟩ := hrel
    go_wp2_with fail
    go_end0
    exact ⟨rfl, rfl⟩
set_option maxRecDepth 100000 in
set_option maxHeartbeats 1000000 in
theorem pdq_nil (l : Int) (f : Value) (w : World) : Calls Tryz.prog 96 #[.slice none 0 0, .int .i64 0, .int .i64 0, .int .i64 l, f] w fun e w' => e = .returned (.tuple #[]) ∧ w = w' := by
  go_enter Tryz.func96, Tryz.ntmps96
  go_wp2_with fail
  go_loopg [1, 2] 0 (fun gh va vb wr => va = .int .i64 0 ∧ vb = .int .i64 0 ∧ w = wr)
  case atStart => exact ⟨rfl, rfl, rfl⟩
  case round =>
    obtain ⟨rfl, rfl, rfl⟩ := hrel
    go_wp2_with fail
    with_reducible refine (insert_nil f w).mono ?_
    rintro e w' ⟨rfl, rfl⟩
    go_wp2_with fail
    exact bodyPost_ret (v := .tuple #[]) (by simp [results, Tryz.results96, go_sem]) rfl ⟨rfl, rfl⟩
set_option maxRecDepth 100000 in
set_option maxHeartbeats 1000000 in
theorem sort_nil (f : Value) (w : World) : Calls Tryz.prog 86 #[.slice none 0 0, f] w fun e w' => e = .returned (.tuple #[]) ∧ w = w' := by
  have hl : Calls Tryz.prog 97 #[.int .u64 0] w fun e w' => e = .returned (.int .i64 (Lib.bitLen 0 : Nat)) ∧ w' = w := by
    have h := Go.Proofs.Any.bits_Len (Go.Proofs.SlLaysF0.n15.bits Tryz.bitsLen) 0 w (by omega) (by omega)
    exact h
  have HL := Lib.hid hl
  generalize Lib.bitLen 0 = bl at *
  clear hl
  go_enter Tryz.func86, Tryz.ntmps86
  go_wp2_with fail
  with_reducible refine HL.out.mono ?_
  rintro e w' ⟨rfl, rfl⟩
  go_wp2_with fail
  with_reducible refine (pdq_nil _ _ _).mono ?_
  rintro e w' ⟨rfl, rfl⟩
  go_wp2_with fail
  go_end0
  exact ⟨rfl, rfl⟩

/-! ### rows in a slice of their own -/
theorem rowC_len (x : R5) : (rowC x).length = 5 := rfl
def flatR (l : List R5) : List Value := l.flatMap rowC
theorem flatR_append (a b : List R5) : flatR (a ++ b) = flatR a ++ flatR b := by unfold flatR; rw [List.flatMap_append]
theorem flatR_one (x : R5) : flatR [x] = rowC x := by simp [flatR]
theorem flatR_get : ∀ (l : List R5) (q : Nat) (x : R5) (r : Nat), l[q]? = some x → r < 5 → (flatR l)[q * 5 + r]? = (rowC x)[r]?
  | [], _, _, _, h, _ => by simp at h
  | y :: l, 0, x, r, h, hr => by
    simp only [List.getElem?_cons_zero, Option.some.injEq] at h
    subst h
    unfold flatR
    rw [List.flatMap_cons, List.getElem?_append_left (by rw [rowC_len]; omega), Nat.zero_mul, Nat.zero_add]
  | y :: l, q + 1, x, r, h, hr => by
    simp only [List.getElem?_cons_succ] at h
    have ih := flatR_get l q x r h hr
    unfold flatR at ih ⊢
    rw [List.flatMap_cons, List.getElem?_append_right (by rw [rowC_len, Nat.add_mul]; omega), rowC_len, ← ih]
    congr 1
    rw [Nat.add_mul]; omega
theorem ownsRow_keep {W W' : World} {lo : Nat} {e : TypeId} {z : Nat} {v : Value} {n : Nat} {xs : List Value} {A : Nat → Prop} (h : W.ownsRow lo e z v n xs) (k : Keep A W W') (hA : ∀ b, v.ownBlock = some b → ¬ A b) : W'.ownsRow lo e z v n xs := by
  obtain ⟨h1, h2⟩ := h
  refine ⟨h1, ?_⟩
  rcases h2 with h2 | ⟨g, cap, cur, rfl, hb, hh, r⟩
  · exact .inl h2
  · exact .inr ⟨g, cap, cur, rfl, hb, k.heap hh (hA g rfl), r⟩
theorem cells_new (W : World) (xs : List Value) (t : TypeId) (j : Nat) (u : Value) (h : xs[j]? = some u) : (W.alloc (.cells xs.toArray t)).cell? ⟨W.heap.size, j, none⟩ = some u := by
  unfold World.cell?
  rw [World.alloc_heap_new]
  simp [h]
/-- One element more. -/
theorem app_one (st e : TypeId) (k by_ : Nat) (z : Value) (hst : Tryz.prog.underlying st = some (.slice e)) (hinfo : (Tryz.prog.info? e).map (fun i => (i.zero, i.size, i.bytes)) = some (some z, k, by_)) (hzs : z.cells.size = k) (hk : 0 < k) (hby : by_ ≤ 200)
    (W : World) (ty lo : Nat) (v : Value) (n : Nat) (xs new : List Value) (hown : W.ownsRow lo e k v n xs) (hlen : new.length = k) (h1 : ∀ u ∈ new, u.oneCell' = true) (hn : n ≤ 1000000) (hlo : lo ≤ W.heap.size) :
    ∃ v' w', (Builtin.append_ #[st, st] ty #[v, .slice (some ⟨W.heap.size, 0, none⟩) 1 1]).run Tryz.prog (W.alloc (.cells new.toArray e)) = .ok v' w' ∧ w'.ownsRow lo e k v' (n + 1) (xs ++ new) ∧
      Keep (fun k => v.ownBlock = some k) W w' ∧ (v'.ownBlock = v.ownBlock ∨ v'.ownBlock = some (W.heap.size + 1)) ∧ ∃ g c, v' = .slice (some ⟨g, 0, none⟩) (n + 1) c := by
  obtain ⟨i0, hi, hz0, hz1, hz2⟩ := info_parts hinfo
  obtain ⟨v', w', r1, r2, r3, r4, r5⟩ := run_append_own_at (P := Tryz.prog) (W.alloc (.cells new.toArray e)) lo st ty e i0 z k by_ hst hi hz0 hz1 hz2 hzs hk v n xs (hown.alloc _) ⟨W.heap.size, 0, none⟩ 1 1 new (by omega)
    (by
      intro j u hj
      rw [Addr.add_lit, Nat.zero_add]
      exact cells_new W new e j u hj)
    h1 (by unfold maxLen; omega) (by
      have : (n + 1) * by_ ≤ 1000001 * 200 := Nat.mul_le_mul (by omega) hby
      omega) (by rw [World.size_alloc]; omega)
  exact ⟨v', w', r1, r2, ((Keep.refl _ W).alloc _).trans (Keep.of_grown r3), by rw [World.size_alloc] at r5; exact r5, ownsRow_succ r2⟩
theorem wpList_app {P : Program} {ops : Array Oper} {rest : List Oper} {o : Oper} {a : Act} {w w' : World} {Q : Exit → Act → World → Prop} {v v2 v' : Value}
    (hg : o.guard = none) (s x : Operand) (t : TypeId) (hop : o.op = Op.call { callee := Callee.builtin Builtin.append, args := #[s, x], argTypes := #[t, t] })
    (hs : a.eval s = v) (hx : a.eval x = v2) (hrun : (Builtin.append_ #[t, t] o.type #[v, v2]).run P w = .ok v' w') (hK : wpList P ops Q rest (a.put o.dst v') w') : wpList P ops Q (o :: rest) a w := by
  refine wpList_plain hg fun K hK' => ?_
  unfold Oper.wp
  simp [execOp, hop, resolve, invoke, builtin, hs, hx, hrun, Result.andThen]
  exact hK' _ _ hK
theorem infoRow : (Tryz.prog.info? 67).map (fun i => (i.zero, i.size, i.bytes)) = some (some (.agg #[.int .i64 0, .int .i64 0, .int .i64 0, .int .i64 0, .int .i64 0]), 5, 40) := by kernel_rfl
/-- Rows in a slice of their own. -/
def OwnR (w : World) (l : List R5) (v : Value) (W : World) : Prop := Keep (fun _ => False) w W ∧ W.ownsRow w.heap.size 67 5 v l.length (flatR l)
theorem OwnR.nil {w W : World} (k : Keep (fun _ => False) w W) : OwnR w [] (.slice none 0 0) W := ⟨k, by simpa [flatR] using World.ownsRow_nil W w.heap.size 67 5⟩
theorem OwnR.keep {w W W' : World} {l : List R5} {v : Value} (h : OwnR w l v W) (k : Keep (fun _ => False) W W') : OwnR w l v W' := ⟨h.1.trans k, ownsRow_keep h.2 k (fun _ _ h => h)⟩
theorem OwnR.keep' {w W W' : World} {A : Nat → Prop} {l : List R5} {v : Value} (h : OwnR w l v W) (k : Keep A W W') (hA : ∀ i, A i → w.heap.size ≤ i) (hv : ∀ b, v.ownBlock = some b → ¬ A b) : OwnR w l v W' := ⟨h.1.trans' k (fun i hi => .inr (hA i hi)), ownsRow_keep h.2 k hv⟩
theorem OwnR.form {w W : World} {l : List R5} {v : Value} (h : OwnR w l v W) : v = .slice none 0 0 ∨ ∃ b n c, v = .slice (some ⟨b, 0, none⟩) n c := by
  rcases h.2.2 with ⟨rfl, _⟩ | ⟨g', cap, cur, rfl, _⟩
  · exact .inl rfl
  · exact .inr ⟨_, _, _, rfl⟩
theorem app_row {W : World} {lo : Nat} {l : List R5} {v : Value} (h : W.ownsRow lo 67 5 v l.length (flatR l)) (hlo : lo ≤ W.heap.size) (x : R5) (hl : l.length ≤ 100000) :
    ∃ v' w', (Builtin.append_ #[40, 40] 40 #[v, .slice (some ⟨W.heap.size, 0, none⟩) 1 1]).run Tryz.prog (W.alloc (.cells (rowC x).toArray 67)) = .ok v' w' ∧ w'.ownsRow lo 67 5 v' (l ++ [x]).length (flatR (l ++ [x])) ∧ Keep (fun j => v.ownBlock = some j) W w' := by
  obtain ⟨v', w', r1, r2, r3, r4, -⟩ := app_one 40 67 5 40 _ Tryz.underlying40 infoRow rfl (by decide) (by decide) W 40 lo v l.length (flatR l) (rowC x) h rfl (by simp [Value.oneCell']) (by omega) hlo
  refine ⟨v', w', r1, ?_, r3⟩
  rw [flatR_append, flatR_one, List.length_append]
  exact r2
theorem OwnR.snoc {w W : World} {l : List R5} {v : Value} (h : OwnR w l v W) (x : R5) (hl : l.length ≤ 100000) :
    ∃ v' w', (Builtin.append_ #[40, 40] 40 #[v, .slice (some ⟨W.heap.size, 0, none⟩) 1 1]).run Tryz.prog (W.alloc (.cells (rowC x).toArray 67)) = .ok v' w' ∧ OwnR w (l ++ [x]) v' w' ∧ Keep (fun j => v.ownBlock = some j) W w' ∧ (v'.ownBlock = v.ownBlock ∨ v'.ownBlock = some (W.heap.size + 1)) := by
  obtain ⟨v', w', r1, r2, r3, r4, -⟩ := app_one 40 67 5 40 _ Tryz.underlying40 infoRow rfl (by decide) (by decide) W 40 w.heap.size v l.length (flatR l) (rowC x) h.2 rfl (by simp [Value.oneCell']) (by omega) h.1.size
  refine ⟨v', w', r1, ⟨h.1.trans' r3 (fun j e => .inr (h.2.lt j e).1), ?_⟩, r3, r4⟩
  rw [flatR_append, flatR_one, List.length_append]
  exact r2
theorem owns_holdsR {W : World} {lo g n cap : Nat} {l : List R5} (h : W.ownsRow lo 67 5 (.slice (some ⟨g, 0, none⟩) n cap) l.length (flatR l)) : Go.Sort.HoldsK rowC 5 W g 0 l.toArray := by
  intro j hj
  rw [Go.Sort.size_flatK] at hj
  simp only [List.size_toArray] at hj
  have hq : j / 5 < l.length := by omega
  have hx : l[j / 5]? = some l[j / 5] := List.getElem?_eq_getElem hq
  have h1 := flatR_get l (j / 5) _ (j % 5) hx (by omega)
  rw [show j / 5 * 5 + j % 5 = j by omega] at h1
  have h2 : (rowC l[j / 5])[j % 5]? = some ((rowC l[j / 5])[j % 5]!) := by
    have : j % 5 < (rowC l[j / 5]).length := by show j % 5 < 5; omega
    rw [List.getElem?_eq_getElem this, getElem!_pos (rowC l[j / 5]) (j % 5) this]
  rw [h2] at h1
  have h3 := h.cells (g := g) rfl _ _ h1
  rw [Addr.add_lit] at h3
  refine ⟨?_, ?_⟩
  · rw [Go.Sort.get_flatK _ _ _ _ (by simpa using hj)]
    have e : (l.toArray)[j / 5]! = l[j / 5] := by rw [getElem!_pos l.toArray (j / 5) (by simpa using hq)]; simp
    rw [e]; exact h3
  · rcases h.2 with ⟨h4, _⟩ | ⟨g', cap', cur, h4, _, hh, _⟩
    · cases h4
    · cases h4
      unfold World.frozen?
      rw [hh]
      rfl
theorem holds_rws {W : World} {g : Nat} {d : Array R5} (h : Go.Sort.HoldsK rowC 5 W g 0 d) (i : Nat) (r : R5) (hi : d.toList[i]? = some r) (j : Nat) (x : Value) (hj : (rowC r)[j]? = some x) : W.cell? ⟨g, 0 + i * 5 + j, none⟩ = some x := by
  have hlt : i < d.size := by have := (List.getElem?_eq_some_iff.1 hi).1; simpa using this
  have hx : d[i]! = r := by
    rw [Array.getElem?_toList, Array.getElem?_eq_getElem hlt] at hi
    simp only [Option.some.injEq] at hi
    rw [getElem!_pos d i hlt]; exact hi
  have hj5 : j < 5 := (List.getElem?_eq_some_iff.1 hj).1
  have h1 := (h (i * 5 + j) (by rw [Go.Sort.size_flatK]; omega)).1
  rw [Go.Sort.get_flatK _ _ _ _ (by omega), show (i * 5 + j) / 5 = i by omega, show (i * 5 + j) % 5 = j by omega, hx] at h1
  have h2 : (rowC r)[j]! = x := by
    rw [List.getElem!_eq_getElem?_getD, hj]; rfl
  rw [show 0 + i * 5 + j = 0 + (i * 5 + j) by omega, h1]
  exact congrArg some h2
def SortR (l : List R5) (w : World) (v : Value) (e : Ending) (w' : World) : Prop := e = .returned (.tuple #[]) ∧ ∃ s : List R5, s.Perm l ∧ Rws w' v s ∧ Keep (fun j => v.ownBlock = some j) w w'
theorem sort_rows {w : World} {lo : Nat} {l : List R5} {v : Value} {c : Int} {zb : Nat} (h : w.ownsRow lo 67 5 v l.length (flatR l)) (hl : l.length ≤ 100000) (hc : w.cell? ⟨zb, 0, none⟩ = some (.int .i64 c)) (hne : ∀ b, v.ownBlock = some b → zb ≠ b) :
    Calls Tryz.prog 86 #[v, .func (.func 87) #[] #[ptr zb]] w (SortR l w v) := by
  rcases h.2 with ⟨rfl, h0⟩ | ⟨g, cap, cur, rfl, hg, hh, hcap, r⟩
  · have : l = [] := List.eq_nil_of_length_eq_zero (by omega)
    subst this
    refine (sort_nil _ w).mono ?_
    rintro e w' ⟨rfl, rfl⟩
    exact ⟨rfl, [], List.Perm.refl _, ⟨by simp, none, 0, 0, 0, rfl, Nat.le_refl _, fun h => by simp at h, fun i r hi => by simp at hi⟩, Keep.refl _ _⟩
  · have hH := owns_holdsR h
    have hblk : g < w.heap.size := (Array.getElem?_eq_some_iff.1 hh).1
    have hs := sortRows c zb g 0 cap l.toArray w hc (hne g rfl) hH hblk (by simp; omega)
    simp only [List.size_toArray] at hs
    refine hs.mono ?_
    rintro e w' ⟨rfl, d', n, os, hperm, hsort, rfl⟩
    have hp : d'.toList.Perm l := by
      have h1 := hperm.2.2
      have h2 := hperm.1
      simp only [List.size_toArray] at h2
      have e1 : d'.extract 0 l.length = d' := by rw [← h2]; exact Array.extract_size
      have e2 : (l.toArray.extract 0 l.length) = l.toArray := by simp
      rw [e1, e2] at h1
      simpa using h1
    have hsz : d'.toList.length = l.length := hp.length_eq
    refine ⟨rfl, d'.toList, hp, ⟨by omega, some ⟨g, 0, none⟩, cap, g, 0, by rw [hsz], by omega, fun _ => rfl, fun i r hi j x hj => ?_⟩, ?_⟩
    · have hHd := Go.Proofs.holdsK_sortWorldK_c rowC 5 w g 0 l.toArray d' n os hH hblk (by simpa using hsz)
      exact holds_rws hHd i r hi j x hj
    · refine (keep_sortR w g 0 n d' os).mono (fun j e => ?_)
      show some g = some j
      rw [e]
end Go.Proofs.YtcnpncndecjahaaGreatDoor

/-
  Conditions on rows; chosen, Rows, Range of package store.
-/
namespace Go.Proofs.YtcnpncndecjahaaGreatDoor
open Go.RowKit Go.Shelf
open Go.Sort (grow)

set_option maxRecDepth 100000 in
set_option maxHeartbeats 1000000 in
theorem rowsF_any (r : R5) (zt : Nat) (t : Int) (w : World) (h : w.cell? ⟨zt, 0, none⟩ = some (.int .i64 t)) : Calls Tryz.prog 68 #[rowV r, ptr zt] w fun e w' => e = .returned (.bool (ofT t r)) ∧ Keep (fun _ => False) w w' := by
  have HK := Lib.hid (keep_cells w (rowC r).toArray 67)
  have HB := Lib.hid (BoxL.new w (rowC r) 67)
  have HC := Lib.hid (HK.out.cell h (fun h => h))
  obtain ⟨b, hb⟩ : ∃ b, ofT t r = b := ⟨_, rfl⟩
  have HO := Lib.hid hb
  have hbe : (r.tb == t) = b := by rw [← hb]; rfl
  clear h hb
  obtain ⟨r0, r1, r2, r3, r4⟩ := r
  simp only [] at hbe
  go_enter Tryz.func68, Tryz.ntmps68
  go_upto_region 1 with (fail)
  have e1 : w.alloc (.cells #[.int .i64 r0, .int .i64 r1, .int .i64 r2, .int .i64 r3, .int .i64 r4] 67) = w.alloc (.cells (rowC ⟨r0, r1, r2, r3, r4⟩).toArray 67) := rfl
  rw [e1]
  clear e1
  generalize w.alloc (.cells (rowC ⟨r0, r1, r2, r3, r4⟩).toArray 67) = W at *
  generalize w.heap.size = z at *
  obtain ⟨c0, -, -, -, -⟩ := HB.out.row
  simp only [] at c0
  have c1 := HC.out
  go_wp2_with fail
  go_ret
  exact ⟨by rw [HO.out]; rfl, HK.out⟩
theorem inR_eq (t c lo hi : Int) (r : R5) : inR t c lo hi r = (decide (r.tb = t) && decide (lo ≤ r.val c) && decide (r.val c ≤ hi)) := rfl
set_option maxRecDepth 100000 in
set_option maxHeartbeats 1000000 in
theorem rangeF_any (r : R5) (zc zt zl zh : Nat) (c t lo hi : Int) (w : World) (h1 : w.cell? ⟨zc, 0, none⟩ = some (.int .i64 c)) (h2 : w.cell? ⟨zt, 0, none⟩ = some (.int .i64 t)) (h3 : w.cell? ⟨zl, 0, none⟩ = some (.int .i64 lo)) (h4 : w.cell? ⟨zh, 0, none⟩ = some (.int .i64 hi)) :
    Calls Tryz.prog 66 #[rowV r, ptr zc, ptr zt, ptr zl, ptr zh] w fun e w' => e = .returned (.bool (inR t c lo hi r)) ∧ Keep (fun _ => False) w w' := by
  have HK := Lib.hid (keep_cells w (rowC r).toArray 67)
  have HB := Lib.hid (BoxL.new w (rowC r) 67)
  have H1 := Lib.hid (HK.out.cell h1 (fun h => h))
  have H2 := Lib.hid (HK.out.cell h2 (fun h => h))
  have H3 := Lib.hid (HK.out.cell h3 (fun h => h))
  have H4 := Lib.hid (HK.out.cell h4 (fun h => h))
  have HV := Lib.hid (value_kept r c)
  have HO : Hid (inR t c lo hi r = ((r.tb == t) && decide (lo ≤ r.val c) && decide (r.val c ≤ hi))) := Lib.hid rfl
  clear h1 h2 h3 h4
  generalize r.val c = vl at *
  obtain ⟨r0, r1, r2, r3, r4⟩ := r
  have HO2 : Hid (inR t c lo hi ⟨r0, r1, r2, r3, r4⟩ = ((r0 == t) && decide (lo ≤ vl) && decide (vl ≤ hi))) := Lib.hid HO.out
  clear HO
  go_enter Tryz.func66, Tryz.ntmps66
  go_upto_region 1 with (fail)
  have e1 : w.alloc (.cells #[.int .i64 r0, .int .i64 r1, .int .i64 r2, .int .i64 r3, .int .i64 r4] 67) = w.alloc (.cells (rowC ⟨r0, r1, r2, r3, r4⟩).toArray 67) := rfl
  rw [e1]
  clear e1
  generalize w.alloc (.cells (rowC ⟨r0, r1, r2, r3, r4⟩).toArray 67) = W at *
  generalize w.heap.size = z at *
  obtain ⟨c0, c1, c2, c3, c4⟩ := HB.out.row
  simp only [] at c0 c1 c2 c3 c4
  have d1 := H1.out
  go_wp2_with fail
  clear c0 c1 c2 c3 c4 d1
  with_reducible refine (HV.out W).mono ?_
  rintro e W2 ⟨rfl, k, -⟩
  have HK2 := Lib.hid (HK.out.trans k)
  have c0 := (HB.out.kept k).row.1
  simp only [] at c0
  have d2 := k.cell H2.out (fun h => h)
  have d3 := k.cell H3.out (fun h => h)
  have d4 := k.cell H4.out (fun h => h)
  clear k
  by_cases g1 : r0 = t
  · have gb : (r0 == t) = true := by simpa using g1
    rw [gb] at HO2
    clear g1
    by_cases g2 : lo ≤ vl
    · have HO3 : Hid (inR t c lo hi ⟨r0, r1, r2, r3, r4⟩ = decide (vl ≤ hi)) := Lib.hid (by rw [HO2.out, decide_eq_true g2]; rfl)
      go_wp2_with fail
      go_ret
      exact ⟨by rw [HO3.out]; rfl, HK2.out⟩
    · have HO3 : Hid (inR t c lo hi ⟨r0, r1, r2, r3, r4⟩ = false) := Lib.hid (by rw [HO2.out, decide_eq_false g2]; rfl)
      go_wp2_with fail
      go_ret
      exact ⟨by rw [HO3.out]; rfl, HK2.out⟩
  · have gb : (r0 == t) = false := by simpa using g1
    rw [gb] at HO2
    clear g1
    go_wp2_with fail
    go_ret
    exact ⟨by rw [HO2.out]; rfl, HK2.out⟩

/-! ### chosen -/
def encI (r : R5) : Value × Value := (idV r.tb r.ky, rowV r)
theorem list_idRel {l : List R5} (hn : (l.map R5.rid).Nodup) {left : List (Value × Value)} (h1 : (left.map (·.1)).Nodup) (h2 : ∀ k v, (k, v) ∈ left ↔ idRel l k v) : left.Perm (l.map encI) := by
  have hl : (l.map encI).Nodup := by
    rw [List.nodup_iff_pairwise_ne, List.pairwise_map] at hn ⊢
    refine hn.imp ?_
    intro a b hne e
    unfold encI at e
    rw [Prod.mk.injEq] at e
    obtain ⟨e1, e2⟩ := idV_inj e.1
    exact hne (by unfold R5.rid; rw [e1, e2])
  have hl2 : left.Nodup := by
    rw [List.nodup_iff_pairwise_ne, List.pairwise_map] at h1
    rw [List.nodup_iff_pairwise_ne]
    exact h1.imp (fun h e => h (by rw [e]))
  rw [List.perm_ext_iff_of_nodup hl2 hl]
  rintro ⟨k, v⟩
  rw [h2, List.mem_map]
  unfold idRel encI
  constructor
  · rintro ⟨r, hr, rfl, rfl⟩
    exact ⟨r, hr, rfl⟩
  · rintro ⟨r, hr, e⟩
    cases e
    exact ⟨r, hr, rfl, rfl⟩
/-- What chosen answers. -/
def ChosenP (R0 : List R5) (w : World) (e : Ending) (w' : World) : Prop := ∃ R v, e = .returned v ∧ R.Perm R0 ∧ Rws w' v R ∧ Keep (fun _ => False) w w'

set_option maxRecDepth 100000 in
set_option maxHeartbeats 4000000 in
theorem chosenT_any (z mb : Nat) (l : List R5) (p c : Int) (zt : Nat) (t : Int) (w : World) (h : StA w z mb l p) (hl : l.length ≤ 100000) (hc : w.cell? ⟨zt, 0, none⟩ = some (.int .i64 t)) :
    Calls Tryz.prog 65 #[ptr z, .int .i64 c, .func (.func 68) #[] #[ptr zt]] w (ChosenP (l.filter (ofT t)) w) := by
  have k0 := keep_cells w #[.int .i64 c] 3
  have hs := h.kept k0
  obtain ⟨ob, left, hrun, hrg, hnd, hmem⟩ := hs.mp.range (t := 125) Tryz.underlying125
  rw [World.size_alloc] at hrg hrun
  have hrg' := hrg.perm (list_idRel hs.nd hnd hmem)
  have kal : Keep (fun _ => False) (w.alloc (.cells #[.int .i64 c] 3)) ((w.alloc (.cells #[.int .i64 c] 3)).alloc ob) := (Keep.refl _ _).alloc ob
  have HRG := Lib.hid hrg'
  have HMB : Hid (mb < ((w.alloc (.cells #[.int .i64 c] 3)).alloc ob).heap.size) := Lib.hid (hrg'.lt.2.1)
  have HK1 := Lib.hid (k0.trans kal)
  have HZ : Hid (w.heap.size ≤ w.heap.size + 1) := Lib.hid (by omega)
  have hbc := (BoxL.new w [.int .i64 c] 3).kept kal
  have HBC := Lib.hid hbc
  have c0 := hs.box.cell 0 _ rfl
  have HCL := Lib.hid (fun (r : R5) (W : World) (k : Keep (fun _ => False) w W) => rowsF_any r zt t W (k.cell hc (fun h => h)))
  clear h k0 hs hrg hrg' hnd hmem kal hbc
  go_enter Tryz.func65, Tryz.ntmps65
  go_wp2_with fail
  clear c0 hrun
  generalize (w.alloc (.cells #[.int .i64 c] 3)).alloc ob = W4 at *
  obtain ⟨zc0, hzc0⟩ : ∃ z, w.heap.size = z := ⟨_, rfl⟩
  have HZC0 := Lib.hid hzc0
  rw [hzc0] at HBC HRG ⊢
  try rw [hzc0] at hrun
  clear hzc0
  go_loopg [7] l.length (fun gh v7 wr => ∃ S T : List R5, T.length = gh ∧ Hid (l.Perm (S ++ T)) ∧ Ranging Tryz.prog 131 wr mb (zc0 + 1) (idRel l) (T.map encI) ∧ Keep (fun i => i = (zc0 + 1)) W4 wr ∧ wr.ownsRow W4.heap.size 67 5 v7 (S.filter (ofT t)).length (flatR (S.filter (ofT t))))
  case atStart => exact ⟨[], l, rfl, Lib.hid (List.Perm.refl _), HRG.out, Keep.refl _ _, by simpa [flatR] using World.ownsRow_nil W4 W4.heap.size 67 5⟩
  case round =>
    obtain ⟨S, T, hT, HP, hr, hkr, how⟩ := hrel
    have HOW := Lib.hid how
    have HKR := Lib.hid hkr
    have HZR4 : Hid ((zc0 + 1) < W4.heap.size) := Lib.hid HRG.out.lt.1
    have HPL : Hid ((S.filter (ofT t)).length ≤ 100000) := Lib.hid (by
      have h1 := HP.out.length_eq
      rw [List.length_append] at h1
      have h2 := List.length_filter_le (ofT t) S
      omega)
    have HKW := Lib.hid (HK1.out.trans' hkr (fun i hi => .inr (by have h5 : i = (zc0 + 1) := hi; have := HZ.out; have := HZC0.out; omega)))
    have HVN : Hid (∀ b, u7.ownBlock = some b → W4.heap.size ≤ b) := Lib.hid (fun b hb => (how.lt b hb).1)
    clear how hkr
    rcases hr.next 0 with ⟨h0, hrun⟩ | ⟨k, v, left', w', hp, hR, hrun, hrg', kk, hsz, hen⟩
    · have hl0 : T = [] := by simpa using h0
      subst hl0
      have HP2 : Hid ((S.filter (ofT t)).Perm (l.filter (ofT t))) := Lib.hid (by
        have h1 := HP.out
        rw [List.append_nil] at h1
        exact (h1.filter _).symm)
      have HCW := Lib.hid ((HBC.out.keep HKR.out (by show ¬ zc0 = zc0 + 1; omega)).cell 0 _ rfl)
      have HVN2 : Hid (∀ b, u7.ownBlock = some b → zc0 ≠ b) := Lib.hid (fun b hb => by
        have h1 := HVN.out b hb
        have h2 := HBC.out.lt
        omega)
      clear hr h0 hT
      go_wp2_with fail
      clear hrun
      with_reducible refine (sort_rows (c := c) (zb := zc0) HOW.out HPL.out HCW.out HVN2.out).mono ?_
      rintro e W6 ⟨rfl, s, hs1, hs2, k6⟩
      have HS1 := Lib.hid hs1
      have HS2 := Lib.hid hs2
      have HK6 := Lib.hid k6
      clear hs1 hs2 k6
      go_wp2_with fail
      go_ret
      exact ⟨s, _, rfl, HS1.out.trans HP2.out, HS2.out, HKW.out.trans' HK6.out (fun i hi => .inr (by
        have h1 := HVN.out i hi
        have h2 := HK1.out.size
        omega))⟩
    · obtain ⟨x, hxT, hxe⟩ := List.mem_map.1 (hp.mem_iff.2 (List.mem_cons_self))
      unfold encI at hxe
      obtain ⟨rfl, rfl⟩ := (Prod.mk.injEq _ _ _ _).mp hxe
      obtain ⟨X, Y, rfl⟩ := List.append_of_mem hxT
      have hp2 : ((X ++ Y).map encI).Perm left' := by
        have h1 : ((X ++ x :: Y).map encI).Perm (encI x :: (X ++ Y).map encI) := (List.perm_middle).map encI
        have h2 := h1.symm.trans hp
        exact List.Perm.cons_inv h2
      have HRG2 := Lib.hid (hrg'.perm hp2.symm)
      have HKR2 := Lib.hid (HKR.out.trans kk)
      have HKW2 := Lib.hid (HKW.out.trans' kk (fun i hi => .inr (by have h5 : i = (zc0 + 1) := hi; have := HZ.out; have := HZC0.out; omega)))
      have HOW2 := Lib.hid (ownsRow_keep HOW.out kk (fun b hb e => by have h1 := HVN.out b hb; have h5 : b = (zc0 + 1) := e; have := HZR4.out; omega))
      have HLEN : Hid ((X ++ Y).length + 1 = gk) := Lib.hid (by rw [← hT]; simp; omega)
      have HPP : Hid (l.Perm ((S ++ [x]) ++ (X ++ Y))) := Lib.hid (HP.out.trans (by
        rw [List.append_assoc]
        exact List.Perm.append_left S List.perm_middle))
      clear hr hp hp2 hrg' hxT hxe hR kk hT HOW HKR HKW HRG hsz
      obtain ⟨x0, x1, x2, x3, x4⟩ := x
      go_upto_region 7 with (fail)
      clear hrun hen
      have kb := keep_cells w' (rowC ⟨x0, x1, x2, x3, x4⟩).toArray 67
      have HB5 := Lib.hid (BoxL.new w' (rowC ⟨x0, x1, x2, x3, x4⟩) 67)
      have HRG5 := Lib.hid (HRG2.out.of_heap (kb.block _ HRG2.out.lt.2.1 (fun h => h)) (kb.block _ HRG2.out.lt.1 (fun h => h)))
      have HKR5 := Lib.hid (HKR2.out.trans (kb.mono (fun _ h => h.elim)))
      have HKW5 := Lib.hid (HKW2.out.trans kb)
      have HOW5 := Lib.hid (ownsRow_keep HOW2.out kb (fun _ _ h => h))
      have e1 : w'.alloc (.cells #[.int .i64 x0, .int .i64 x1, .int .i64 x2, .int .i64 x3, .int .i64 x4] 67) = w'.alloc (.cells (rowC ⟨x0, x1, x2, x3, x4⟩).toArray 67) := rfl
      rw [e1]
      clear e1 kb HRG2 HKR2 HKW2 HOW2
      generalize w'.alloc (.cells (rowC ⟨x0, x1, x2, x3, x4⟩).toArray 67) = W5 at *
      generalize w'.heap.size = zx at *
      have HCF := Lib.hid (HCL.out ⟨x0, x1, x2, x3, x4⟩ W5 HKW5.out)
      obtain ⟨c0, c1, c2, c3, c4⟩ := HB5.out.row
      simp only [] at c0 c1 c2 c3 c4
      go_wp2_with fail
      clear c0 c1 c2 c3 c4
      with_reducible refine HCF.out.mono ?_
      rintro e W6 ⟨rfl, k6⟩
      have HRG6 := Lib.hid (HRG5.out.of_heap (k6.block _ HRG5.out.lt.2.1 (fun h => h)) (k6.block _ HRG5.out.lt.1 (fun h => h)))
      have HKR6 := Lib.hid (HKR5.out.trans (k6.mono (fun _ h => h.elim)))
      have HKW6 := Lib.hid (HKW5.out.trans k6)
      have HOW6 := Lib.hid (ownsRow_keep HOW5.out k6 (fun _ _ h => h))
      have HB6 := Lib.hid (HB5.out.kept k6)
      clear k6 HRG5 HKR5 HKW5 HOW5 HB5 HCF
      cases hcx : (ofT t) (R5.mk x0 x1 x2 x3 x4) with
      | false =>
        have HFX : Hid ((S ++ [(R5.mk x0 x1 x2 x3 x4)]).filter (ofT t) = S.filter (ofT t)) := Lib.hid (by rw [List.filter_append, List.filter_cons, hcx]; simp)
        clear hcx
        go_wp2_with fail
        go_roundg (gk - 1)
        case rel => exact ⟨S ++ [(R5.mk x0 x1 x2 x3 x4)], X ++ Y, by have := HLEN.out; omega, HPP, HRG6.out, HKR6.out, by rw [HFX.out]; exact HOW6.out⟩
        case measure => have := HLEN.out; omega
      | true =>
        have HFX : Hid ((S ++ [(R5.mk x0 x1 x2 x3 x4)]).filter (ofT t) = S.filter (ofT t) ++ [(R5.mk x0 x1 x2 x3 x4)]) := Lib.hid (by rw [List.filter_append, List.filter_cons, hcx]; simp)
        clear hcx
        obtain ⟨v', w7, r1, r2, r3⟩ := app_row HOW6.out HKR6.out.size (R5.mk x0 x1 x2 x3 x4) HPL.out
        obtain ⟨c0, c1, c2, c3, c4⟩ := HB6.out.row
        simp only [] at c0 c1 c2 c3 c4
        have HRG7 := Lib.hid (HRG6.out.of_heap (r3.block _ HRG6.out.lt.2.1 (fun h => by have h1 := HVN.out _ h; have := HMB.out; omega)) (r3.block _ HRG6.out.lt.1 (fun h => by have h1 := HVN.out _ h; have := HZR4.out; omega)))
        have HKR7 := Lib.hid (HKR6.out.trans' r3 (fun i hi => .inr (HVN.out i hi)))
        have HOW7 := Lib.hid r2
        clear r2 r3
        go_wp2_with (at_builtin; refine wpList_app rfl (.tmp 25) (.tmp 27) 40 rfl rfl rfl r1 ?_)
        clear r1 c0 c1 c2 c3 c4
        go_roundg (gk - 1)
        case rel => exact ⟨S ++ [(R5.mk x0 x1 x2 x3 x4)], X ++ Y, by have := HLEN.out; omega, HPP, HRG7.out, HKR7.out, by rw [HFX.out]; exact HOW7.out⟩
        case measure => have := HLEN.out; omega

set_option maxRecDepth 100000 in
set_option maxHeartbeats 4000000 in
theorem chosenR_any (z mb : Nat) (l : List R5) (p c : Int) (zc zt zl zh : Nat) (cc t lo hi : Int) (w : World) (h : StA w z mb l p) (hl : l.length ≤ 100000) (h1 : w.cell? ⟨zc, 0, none⟩ = some (.int .i64 cc)) (h2 : w.cell? ⟨zt, 0, none⟩ = some (.int .i64 t)) (h3 : w.cell? ⟨zl, 0, none⟩ = some (.int .i64 lo)) (h4 : w.cell? ⟨zh, 0, none⟩ = some (.int .i64 hi)) :
    Calls Tryz.prog 65 #[ptr z, .int .i64 c, .func (.func 66) #[] #[ptr zc, ptr zt, ptr zl, ptr zh]] w (ChosenP (l.filter (inR t cc lo hi)) w) := by
  have k0 := keep_cells w #[.int .i64 c] 3
  have hs := h.kept k0
  obtain ⟨ob, left, hrun, hrg, hnd, hmem⟩ := hs.mp.range (t := 125) Tryz.underlying125
  rw [World.size_alloc] at hrg hrun
  have hrg' := hrg.perm (list_idRel hs.nd hnd hmem)
  have kal : Keep (fun _ => False) (w.alloc (.cells #[.int .i64 c] 3)) ((w.alloc (.cells #[.int .i64 c] 3)).alloc ob) := (Keep.refl _ _).alloc ob
  have HRG := Lib.hid hrg'
  have HMB : Hid (mb < ((w.alloc (.cells #[.int .i64 c] 3)).alloc ob).heap.size) := Lib.hid (hrg'.lt.2.1)
  have HK1 := Lib.hid (k0.trans kal)
  have HZ : Hid (w.heap.size ≤ w.heap.size + 1) := Lib.hid (by omega)
  have hbc := (BoxL.new w [.int .i64 c] 3).kept kal
  have HBC := Lib.hid hbc
  have c0 := hs.box.cell 0 _ rfl
  have HCL := Lib.hid (fun (r : R5) (W : World) (k : Keep (fun _ => False) w W) => rangeF_any r zc zt zl zh cc t lo hi W (k.cell h1 (fun h => h)) (k.cell h2 (fun h => h)) (k.cell h3 (fun h => h)) (k.cell h4 (fun h => h)))
  clear h k0 hs hrg hrg' hnd hmem kal hbc
  go_enter Tryz.func65, Tryz.ntmps65
  go_wp2_with fail
  clear c0 hrun
  generalize (w.alloc (.cells #[.int .i64 c] 3)).alloc ob = W4 at *
  obtain ⟨zc0, hzc0⟩ : ∃ z, w.heap.size = z := ⟨_, rfl⟩
  have HZC0 := Lib.hid hzc0
  rw [hzc0] at HBC HRG ⊢
  try rw [hzc0] at hrun
  clear hzc0
  go_loopg [7] l.length (fun gh v7 wr => ∃ S T : List R5, T.length = gh ∧ Hid (l.Perm (S ++ T)) ∧ Ranging Tryz.prog 131 wr mb (zc0 + 1) (idRel l) (T.map encI) ∧ Keep (fun i => i = (zc0 + 1)) W4 wr ∧ wr.ownsRow W4.heap.size 67 5 v7 (S.filter (inR t cc lo hi)).length (flatR (S.filter (inR t cc lo hi))))
  case atStart => exact ⟨[], l, rfl, Lib.hid (List.Perm.refl _), HRG.out, Keep.refl _ _, by simpa [flatR] using World.ownsRow_nil W4 W4.heap.size 67 5⟩
  case round =>
    obtain ⟨S, T, hT, HP, hr, hkr, how⟩ := hrel
    have HOW := Lib.hid how
    have HKR := Lib.hid hkr
    have HZR4 : Hid ((zc0 + 1) < W4.heap.size) := Lib.hid HRG.out.lt.1
    have HPL : Hid ((S.filter (inR t cc lo hi)).length ≤ 100000) := Lib.hid (by
      have h1 := HP.out.length_eq
      rw [List.length_append] at h1
      have h2 := List.length_filter_le (inR t cc lo hi) S
      omega)
    have HKW := Lib.hid (HK1.out.trans' hkr (fun i hi => .inr (by have h5 : i = (zc0 + 1) := hi; have := HZ.out; have := HZC0.out; omega)))
    have HVN : Hid (∀ b, u7.ownBlock = some b → W4.heap.size ≤ b) := Lib.hid (fun b hb => (how.lt b hb).1)
    clear how hkr
    rcases hr.next 0 with ⟨h0, hrun⟩ | ⟨k, v, left', w', hp, hR, hrun, hrg', kk, hsz, hen⟩
    · have hl0 : T = [] := by simpa using h0
      subst hl0
      have HP2 : Hid ((S.filter (inR t cc lo hi)).Perm (l.filter (inR t cc lo hi))) := Lib.hid (by
        have h1 := HP.out
        rw [List.append_nil] at h1
        exact (h1.filter _).symm)
      have HCW := Lib.hid ((HBC.out.keep HKR.out (by show ¬ zc0 = zc0 + 1; omega)).cell 0 _ rfl)
      have HVN2 : Hid (∀ b, u7.ownBlock = some b → zc0 ≠ b) := Lib.hid (fun b hb => by
        have h1 := HVN.out b hb
        have h2 := HBC.out.lt
        omega)
      clear hr h0 hT
      go_wp2_with fail
      clear hrun
      with_reducible refine (sort_rows (c := c) (zb := zc0) HOW.out HPL.out HCW.out HVN2.out).mono ?_
      rintro e W6 ⟨rfl, s, hs1, hs2, k6⟩
      have HS1 := Lib.hid hs1
      have HS2 := Lib.hid hs2
      have HK6 := Lib.hid k6
      clear hs1 hs2 k6
      go_wp2_with fail
      go_ret
      exact ⟨s, _, rfl, HS1.out.trans HP2.out, HS2.out, HKW.out.trans' HK6.out (fun i hi => .inr (by
        have h1 := HVN.out i hi
        have h2 := HK1.out.size
        omega))⟩
    · obtain ⟨x, hxT, hxe⟩ := List.mem_map.1 (hp.mem_iff.2 (List.mem_cons_self))
      unfold encI at hxe
      obtain ⟨rfl, rfl⟩ := (Prod.mk.injEq _ _ _ _).mp hxe
      obtain ⟨X, Y, rfl⟩ := List.append_of_mem hxT
      have hp2 : ((X ++ Y).map encI).Perm left' := by
        have h1 : ((X ++ x :: Y).map encI).Perm (encI x :: (X ++ Y).map encI) := (List.perm_middle).map encI
        have h2 := h1.symm.trans hp
        exact List.Perm.cons_inv h2
      have HRG2 := Lib.hid (hrg'.perm hp2.symm)
      have HKR2 := Lib.hid (HKR.out.trans kk)
      have HKW2 := Lib.hid (HKW.out.trans' kk (fun i hi => .inr (by have h5 : i = (zc0 + 1) := hi; have := HZ.out; have := HZC0.out; omega)))
      have HOW2 := Lib.hid (ownsRow_keep HOW.out kk (fun b hb e => by have h1 := HVN.out b hb; have h5 : b = (zc0 + 1) := e; have := HZR4.out; omega))
      have HLEN : Hid ((X ++ Y).length + 1 = gk) := Lib.hid (by rw [← hT]; simp; omega)
      have HPP : Hid (l.Perm ((S ++ [x]) ++ (X ++ Y))) := Lib.hid (HP.out.trans (by
        rw [List.append_assoc]
        exact List.Perm.append_left S List.perm_middle))
      clear hr hp hp2 hrg' hxT hxe hR kk hT HOW HKR HKW HRG hsz
      obtain ⟨x0, x1, x2, x3, x4⟩ := x
      go_upto_region 7 with (fail)
      clear hrun hen
      have kb := keep_cells w' (rowC ⟨x0, x1, x2, x3, x4⟩).toArray 67
      have HB5 := Lib.hid (BoxL.new w' (rowC ⟨x0, x1, x2, x3, x4⟩) 67)
      have HRG5 := Lib.hid (HRG2.out.of_heap (kb.block _ HRG2.out.lt.2.1 (fun h => h)) (kb.block _ HRG2.out.lt.1 (fun h => h)))
      have HKR5 := Lib.hid (HKR2.out.trans (kb.mono (fun _ h => h.elim)))
      have HKW5 := Lib.hid (HKW2.out.trans kb)
      have HOW5 := Lib.hid (ownsRow_keep HOW2.out kb (fun _ _ h => h))
      have e1 : w'.alloc (.cells #[.int .i64 x0, .int .i64 x1, .int .i64 x2, .int .i64 x3, .int .i64 x4] 67) = w'.alloc (.cells (rowC ⟨x0, x1, x2, x3, x4⟩).toArray 67) := rfl
      rw [e1]
      clear e1 kb HRG2 HKR2 HKW2 HOW2
      generalize w'.alloc (.cells (rowC ⟨x0, x1, x2, x3, x4⟩).toArray 67) = W5 at *
      generalize w'.heap.size = zx at *
      have HCF := Lib.hid (HCL.out ⟨x0, x1, x2, x3, x4⟩ W5 HKW5.out)
      obtain ⟨c0, c1, c2, c3, c4⟩ := HB5.out.row
      simp only [] at c0 c1 c2 c3 c4
      go_wp2_with fail
      clear c0 c1 c2 c3 c4
      with_reducible refine HCF.out.mono ?_
      rintro e W6 ⟨rfl, k6⟩
      have HRG6 := Lib.hid (HRG5.out.of_heap (k6.block _ HRG5.out.lt.2.1 (fun h => h)) (k6.block _ HRG5.out.lt.1 (fun h => h)))
      have HKR6 := Lib.hid (HKR5.out.trans (k6.mono (fun _ h => h.elim)))
      have HKW6 := Lib.hid (HKW5.out.trans k6)
      have HOW6 := Lib.hid (ownsRow_keep HOW5.out k6 (fun _ _ h => h))
      have HB6 := Lib.hid (HB5.out.kept k6)
      clear k6 HRG5 HKR5 HKW5 HOW5 HB5 HCF
      cases hcx : (inR t cc lo hi) (R5.mk x0 x1 x2 x3 x4) with
      | false =>
        have HFX : Hid ((S ++ [(R5.mk x0 x1 x2 x3 x4)]).filter (inR t cc lo hi) = S.filter (inR t cc lo hi)) := Lib.hid (by rw [List.filter_append, List.filter_cons, hcx]; simp)
        clear hcx
        go_wp2_with fail
        go_roundg (gk - 1)
        case rel => exact ⟨S ++ [(R5.mk x0 x1 x2 x3 x4)], X ++ Y, by have := HLEN.out; omega, HPP, HRG6.out, HKR6.out, by rw [HFX.out]; exact HOW6.out⟩
        case measure => have := HLEN.out; omega
      | true =>
        have HFX : Hid ((S ++ [(R5.mk x0 x1 x2 x3 x4)]).filter (inR t cc lo hi) = S.filter (inR t cc lo hi) ++ [(R5.mk x0 x1 x2 x3 x4)]) := Lib.hid (by rw [List.filter_append, List.filter_cons, hcx]; simp)
        clear hcx
        obtain ⟨v', w7, r1, r2, r3⟩ := app_row HOW6.out HKR6.out.size (R5.mk x0 x1 x2 x3 x4) HPL.out
        obtain ⟨c0, c1, c2, c3, c4⟩ := HB6.out.row
        simp only [] at c0 c1 c2 c3 c4
        have HRG7 := Lib.hid (HRG6.out.of_heap (r3.block _ HRG6.out.lt.2.1 (fun h => by have h1 := HVN.out _ h; have := HMB.out; omega)) (r3.block _ HRG6.out.lt.1 (fun h => by have h1 := HVN.out _ h; have := HZR4.out; omega)))
        have HKR7 := Lib.hid (HKR6.out.trans' r3 (fun i hi => .inr (HVN.out i hi)))
        have HOW7 := Lib.hid r2
        clear r2 r3
        go_wp2_with (at_builtin; refine wpList_app rfl (.tmp 25) (.tmp 27) 40 rfl rfl rfl r1 ?_)
        clear r1 c0 c1 c2 c3 c4
        go_roundg (gk - 1)
        case rel => exact ⟨S ++ [(R5.mk x0 x1 x2 x3 x4)], X ++ Y, by have := HLEN.out; omega, HPP, HRG7.out, HKR7.out, by rw [HFX.out]; exact HOW7.out⟩
        case measure => have := HLEN.out; omega

set_option maxRecDepth 100000 in
set_option maxHeartbeats 1000000 in
theorem rows_any (z mb : Nat) (l : List R5) (p t : Int) (w : World) (h : StA w z mb l p) (hl : l.length ≤ 100000) : Calls Tryz.prog 33 #[ptr z, .int .i64 t] w (ChosenP (l.filter (ofT t)) w) := by
  have K := Lib.hid (keep_cells w #[.int .i64 t] 3)
  have HC := Lib.hid (chosenT_any z mb l p 0 w.heap.size t _ (h.kept K.out) hl (one_cell w (.int .i64 t) 3))
  unfold ChosenP at HC ⊢
  go_enter Tryz.func33, Tryz.ntmps33
  go_wp2_with fail
  with_reducible refine HC.out.mono ?_
  rintro e W1 ⟨R, v, rfl, h1, h2, h3⟩
  have H := Lib.hid (And.intro h1 (And.intro h2 h3))
  clear h1 h2 h3
  go_wp2_with fail
  go_ret
  exact ⟨R, v, rfl, H.out.1, H.out.2.1, K.out.trans H.out.2.2⟩
set_option maxRecDepth 100000 in
set_option maxHeartbeats 1000000 in
theorem range_any (z mb : Nat) (l : List R5) (p t c lo hi : Int) (w : World) (h : StA w z mb l p) (hl : l.length ≤ 100000) (hc : 0 ≤ c ∧ c < 4) : Calls Tryz.prog 32 #[ptr z, .int .i64 t, .int .i64 c, .int .i64 lo, .int .i64 hi] w (ChosenP (l.filter (inR t c lo hi)) w) := by
  have k1 := keep_cells w #[.int .i64 t] 3
  have k2 := keep_cells (w.alloc (.cells #[.int .i64 t] 3)) #[.int .i64 c] 3
  have k3 := keep_cells ((w.alloc (.cells #[.int .i64 t] 3)).alloc (.cells #[.int .i64 c] 3)) #[.int .i64 lo] 3
  have k4 := keep_cells (((w.alloc (.cells #[.int .i64 t] 3)).alloc (.cells #[.int .i64 c] 3)).alloc (.cells #[.int .i64 lo] 3)) #[.int .i64 hi] 3
  have b1 := one_cell w (.int .i64 t) 3
  have b2 := one_cell (w.alloc (.cells #[.int .i64 t] 3)) (.int .i64 c) 3
  have b3 := one_cell ((w.alloc (.cells #[.int .i64 t] 3)).alloc (.cells #[.int .i64 c] 3)) (.int .i64 lo) 3
  have b4 := one_cell (((w.alloc (.cells #[.int .i64 t] 3)).alloc (.cells #[.int .i64 c] 3)).alloc (.cells #[.int .i64 lo] 3)) (.int .i64 hi) 3
  have e1 := (k4.cell (k3.cell (k2.cell b1 (fun h => h)) (fun h => h)) (fun h => h))
  have e2 := (k4.cell (k3.cell b2 (fun h => h)) (fun h => h))
  have e3 := (k4.cell b3 (fun h => h))
  simp only [World.size_alloc] at e1 e2 e3 b4
  have K := Lib.hid (((k1.trans k2).trans k3).trans k4)
  have HC := Lib.hid (chosenR_any z mb l p c (w.heap.size + 1) w.heap.size (w.heap.size + 1 + 1) (w.heap.size + 1 + 1 + 1) c t lo hi _ (h.kept K.out) hl e2 e1 e3 b4)
  have E2 := Lib.hid e2
  unfold ChosenP at HC ⊢
  clear k1 k2 k3 k4 b1 b2 b3 b4 e1 e2 e3 h
  obtain ⟨hc1, hc2⟩ := hc
  go_enter Tryz.func32, Tryz.ntmps32
  go_upto_region 1 with (fail)
  generalize (((w.alloc (.cells #[.int .i64 t] 3)).alloc (.cells #[.int .i64 c] 3)).alloc (.cells #[.int .i64 lo] 3)).alloc (.cells #[.int .i64 hi] 3) = W0 at *
  generalize w.heap.size + 1 + 1 + 1 = z4 at *
  generalize w.heap.size + 1 + 1 = z3 at *
  generalize w.heap.size + 1 = z2 at *
  generalize w.heap.size = z1 at *
  have r0 := E2.out
  go_wp2_with fail
  clear r0
  with_reducible refine HC.out.mono ?_
  rintro e W1 ⟨R, v, rfl, h1, h2, h3⟩
  have H := Lib.hid (And.intro h1 (And.intro h2 h3))
  clear h1 h2 h3
  go_wp2_with fail
  go_ret
  exact ⟨R, v, rfl, H.out.1, H.out.2.1, K.out.trans H.out.2.2⟩
end Go.Proofs.YtcnpncndecjahaaGreatDoor

/-
  The reference's state: New, place, Get.
-/
namespace Go.Proofs.YtcnpncndecjahaaGreatDoor
open Go.RowKit Go.Shelf

theorem befR_mono {l : List R5} (hs : AscR l) {i j : Nat} {a b : R5} (hi : l[i]? = some a) (hj : l[j]? = some b) (hij : i ≤ j) {t k : Int} (h : befR t k b = true) : befR t k a = true := by
  rcases Nat.lt_or_eq_of_le hij with hij | rfl
  · have h5 := List.pairwise_iff_getElem.1 hs i j (List.getElem?_eq_some_iff.1 hi).1 (List.getElem?_eq_some_iff.1 hj).1 hij
    rw [(List.getElem?_eq_some_iff.1 hi).2, (List.getElem?_eq_some_iff.1 hj).2] at h5
    rw [befR_iff] at h h5 ⊢
    omega
  · rw [hi] at hj
    cases hj
    exact h
/-- Rows in a slice, nil only without rows. -/
def Rwc (W : World) (v : Value) (l : List R5) : Prop := (v = .slice none 0 0 ∧ l = []) ∨ ∃ b off c, v = .slice (some ⟨b, off, none⟩) l.length c ∧ l.length ≤ c ∧ ∀ i r, l[i]? = some r → ∀ j x, (rowC r)[j]? = some x → W.cell? ⟨b, off + i * 5 + j, none⟩ = some x
theorem Rwc.keep {W W' : World} {A : Nat → Prop} {v : Value} {l : List R5} (h : Rwc W v l) (k : Keep A W W') (hA : ∀ b, v.ownBlock = some b → ¬ A b) : Rwc W' v l := by
  rcases h with h | ⟨b, off, c, rfl, hc, h⟩
  · exact .inl h
  · exact .inr ⟨b, off, c, rfl, hc, fun i r hi j x hj => k.cell (h i r hi j x hj) (hA b rfl)⟩
theorem Rwc.rws {W : World} {v : Value} {l : List R5} (h : Rwc W v l) (hn : l.length ≤ 1000000000) : Rws W v l := by
  rcases h with ⟨rfl, rfl⟩ | ⟨b, off, c, rfl, hc, h⟩
  · exact ⟨hn, none, 0, 0, 0, rfl, Nat.le_refl _, fun h => by simp at h, fun i r hi => by simp at hi⟩
  · exact ⟨hn, some ⟨b, off, none⟩, c, b, off, rfl, hc, fun _ => rfl, h⟩
/-- The reference's state at z. -/
structure RSt (W : World) (z : Nat) (v : Value) (l : List R5) (p : Int) : Prop where
  box : BoxL W z [v, .int .i64 p]
  rwc : Rwc W v l
  asc : AscR l
  off : ∀ b, v.ownBlock = some b → b ≠ z
  len : l.length ≤ 1000000
theorem RSt.rows {W : World} {z : Nat} {v : Value} {l : List R5} {p : Int} (h : RSt W z v l p) : Rws W v l := h.rwc.rws (by have := h.len; omega)
theorem RSt.keep {A : Nat → Prop} {W W' : World} {z : Nat} {v : Value} {l : List R5} {p : Int} (h : RSt W z v l p) (k : Keep A W W') (h1 : ¬ A z) (h2 : ∀ b, v.ownBlock = some b → ¬ A b) : RSt W' z v l p :=
  ⟨h.box.keep k h1, h.rwc.keep k h2, h.asc, h.off, h.len⟩
theorem RSt.kept {W W' : World} {z : Nat} {v : Value} {l : List R5} {p : Int} (h : RSt W z v l p) (k : Keep (fun _ => False) W W') : RSt W' z v l p := h.keep k (fun h => h) (fun _ _ h => h)
theorem Rws.form' {W : World} {v : Value} {l : List R5} (h : Rws W v l) : ∃ a c, v = .slice a l.length c ∧ l.length ≤ c := by
  obtain ⟨hn, a', c', b, off, hv, hc, ha, h1⟩ := h
  exact ⟨a', c', hv, hc⟩
theorem Rws.at_row {W : World} {a : Option Addr} {n c : Nat} {l : List R5} (h : Rws W (.slice a n c) l) {i : Nat} {r : R5} (hi : l[i]? = some r) :
    ∃ b off, a = some ⟨b, off, none⟩ ∧ ∀ j x, (rowC r)[j]? = some x → W.cell? ⟨b, off + i * 5 + j, none⟩ = some x := by
  obtain ⟨hn, a', c', b, off, hv, hc, ha, h1⟩ := h
  injection hv with e1 e2 e3
  subst e1 e2 e3
  exact ⟨b, off, ha (by have := (List.getElem?_eq_some_iff.1 hi).1; omega), fun j x hj => h1 i r hi j x hj⟩
def New04P (w : World) (e : Ending) (w' : World) : Prop := ∃ z, e = .returned (ptr z) ∧ RSt w' z (.slice none 0 0) [] 0 ∧ Keep (fun _ => False) w w' ∧ w.heap.size ≤ z
set_option maxRecDepth 100000 in
set_option maxHeartbeats 1000000 in
theorem new04_any (w : World) : Calls Tryz.prog 22 #[] w (New04P w) := by
  have HB := Lib.hid (BoxL.new w [.slice none 0 0, .int .i64 0] 71)
  have HK := Lib.hid (keep_cells w #[.slice none 0 0, .int .i64 0] 71)
  go_enter Tryz.func22, Tryz.ntmps22
  go_wp2_with fail
  go_ret
  exact ⟨_, rfl, ⟨HB.out, .inl ⟨rfl, rfl⟩, by simp [AscR], (fun b hb => by cases hb), by simp⟩, HK.out, Nat.le_refl _⟩
def PlaceP (l : List R5) (t k : Int) (w : World) (e : Ending) (w' : World) : Prop := ∃ p : Nat, e = .returned (.int .i64 p) ∧ PlaceIs l t k p ∧ w = w'
set_option maxRecDepth 100000 in
set_option maxHeartbeats 4000000 in
theorem place_any (z : Nat) (v : Value) (l : List R5) (p t k : Int) (w : World) (h : RSt w z v l p) : Calls Tryz.prog 49 #[ptr z, .int .i64 t, .int .i64 k] w (PlaceP l t k w) := by
  have hn := h.rows.n
  have HR := Lib.hid h.rows
  have HS := Lib.hid h.asc
  have HB := Lib.hid h.box
  obtain ⟨a, c, rfl, hc⟩ := h.rows.form'
  obtain ⟨n, hn'⟩ : ∃ n, l.length = n := ⟨_, rfl⟩
  have HL := Lib.hid hn'
  rw [hn'] at hn hc HR HB
  clear hn' h
  unfold PlaceP
  go_enter Tryz.func49, Tryz.ntmps49
  have z0 := HB.out.cell 0 _ rfl
  go_wp2_with fail
  go_loopg [7, 8] n (fun gh v7 v8 wr => ∃ (i j : Nat), v7 = .int .i64 i ∧ v8 = .int .i64 j ∧ i ≤ j ∧ j ≤ n ∧ j - i ≤ gh ∧ Hid (∀ q r, l[q]? = some r → q < i → befR t k r = true) ∧ Hid (∀ q r, l[q]? = some r → j ≤ q → befR t k r = false) ∧ w = wr)
  case atStart => exact ⟨0, n, rfl, rfl, by omega, by omega, by omega, Lib.hid (fun q r hq h => by omega), Lib.hid (fun q r hq h => by have := (List.getElem?_eq_some_iff.1 hq).1; have := HL.out; omega), rfl⟩
  case round =>
    obtain ⟨i, j, rfl, rfl, hi, hj, hg, H1, H2, rfl⟩ := hrel
    by_cases hij : i < j
    · obtain ⟨q, hq⟩ : ∃ q : Nat, (i + j) / 2 = q := ⟨_, rfl⟩
      have hq1 : i ≤ q := by omega
      have hq2 : q < j := by omega
      obtain ⟨r, hr⟩ : ∃ x, l[q]? = some x := ⟨_, List.getElem?_eq_getElem (by have := HL.out; omega)⟩
      have HRR : Rws w (.slice a l.length c) l := by rw [HL.out]; exact HR.out
      obtain ⟨b, off, hab, hcell⟩ := HRR.at_row hr
      subst hab
      have HQ := Lib.hid hr
      obtain ⟨r0, r1, r2, r3, r4⟩ := r
      have c0 := hcell 0 _ rfl
      have c1 := hcell 1 _ rfl
      rw [Nat.add_zero] at c0
      simp only [] at c0 c1
      clear hcell hr HRR
      have hijz : (i : Int) < (j : Int) := by omega
      have e1 : ((i : Int) + (j : Int)) / 2 = (q : Int) := by omega
      have HB2 : Hid (befR t k ⟨r0, r1, r2, r3, r4⟩ = (decide (r0 < t) || (r0 == t && decide (r1 < k)))) := Lib.hid rfl
      have HYES : Hid (befR t k ⟨r0, r1, r2, r3, r4⟩ = true → ∀ x r, l[x]? = some r → x < q + 1 → befR t k r = true) := Lib.hid (fun hb x r hx hlt => befR_mono HS.out hx HQ.out (by omega) hb)
      have HNO : Hid (befR t k ⟨r0, r1, r2, r3, r4⟩ = false → ∀ x r, l[x]? = some r → q ≤ x → befR t k r = false) := Lib.hid (fun hb x r hx hlt => by
        cases e : befR t k r with
        | false => rfl
        | true => rw [befR_mono HS.out HQ.out hx hlt e] at hb; cases hb)
      by_cases h1 : r0 < t
      · have HY := Lib.hid (HYES.out (by rw [HB2.out, decide_eq_true h1]; rfl))
        go_wp2_with fail
        go_roundg (j - (q + 1))
        case rel => exact ⟨q + 1, j, by go_num, rfl, by omega, by omega, by omega, HY, H2, rfl⟩
        case measure => omega
      · by_cases h2 : r0 = t
        · subst h2
          by_cases h3 : r1 < k
          · have HY := Lib.hid (HYES.out (by rw [HB2.out, decide_eq_true h3]; simp))
            go_wp2_with fail
            go_roundg (j - (q + 1))
            case rel => exact ⟨q + 1, j, by go_num, rfl, by omega, by omega, by omega, HY, H2, rfl⟩
            case measure => omega
          · have HN := Lib.hid (HNO.out (by rw [HB2.out, decide_eq_false h3, decide_eq_false h1]; simp))
            go_wp2_with fail
            go_roundg (q - i)
            case rel => exact ⟨i, q, rfl, rfl, by omega, by omega, by omega, H1, HN, rfl⟩
            case measure => omega
        · have hb2 : (r0 == t) = false := by simpa using h2
          have HN := Lib.hid (HNO.out (by rw [HB2.out, hb2, decide_eq_false h1]; rfl))
          clear h2
          go_wp2_with fail
          go_roundg (q - i)
          case rel => exact ⟨i, q, rfl, rfl, by omega, by omega, by omega, H1, HN, rfl⟩
          case measure => omega
    · obtain rfl : i = j := by omega
      go_wp2_with fail
      go_ret
      exact ⟨i, rfl, ⟨by have := HL.out; omega, H1.out, H2.out⟩, rfl⟩
set_option maxRecDepth 100000 in
set_option maxHeartbeats 4000000 in
theorem get04_any (z : Nat) (v : Value) (l : List R5) (p t k : Int) (w : World) (h : RSt w z v l p) : Calls Tryz.prog 23 #[ptr z, .int .i64 t, .int .i64 k] w fun e w' => e = .returned (lookV (getR l t k)) ∧ Keep (fun _ => False) w w' := by
  have K0 := keep_cells w (rowC ⟨0, 0, 0, 0, 0⟩).toArray 67
  have HB0 := Lib.hid (BoxL.new w (rowC ⟨0, 0, 0, 0, 0⟩) 67)
  have h0 := h.kept K0
  have HPL := Lib.hid (place_any z v l p t k _ h0)
  have HK0 := Lib.hid K0
  have hn := h0.rows.n
  have HR := Lib.hid h0.rows
  have HS := Lib.hid h0.asc
  have HB := Lib.hid h0.box
  obtain ⟨a, c, rfl, hc⟩ := h0.rows.form'
  obtain ⟨n, hn'⟩ : ∃ n, l.length = n := ⟨_, rfl⟩
  have HL := Lib.hid hn'
  rw [hn'] at hn hc HR HB
  unfold PlaceP at HPL
  clear hn' h h0 K0
  go_enter Tryz.func23, Tryz.ntmps23
  go_upto_region 1 with (fail)
  have e1 : w.alloc (.cells #[.int .i64 0, .int .i64 0, .int .i64 0, .int .i64 0, .int .i64 0] 67) = w.alloc (.cells (rowC ⟨0, 0, 0, 0, 0⟩).toArray 67) := rfl
  rw [e1]
  clear e1
  generalize w.alloc (.cells (rowC ⟨0, 0, 0, 0, 0⟩).toArray 67) = W0 at *
  generalize hzr : w.heap.size = zr at *
  have HZR := Lib.hid hzr
  clear hzr
  go_wp2_with fail
  with_reducible refine HPL.out.mono ?_
  rintro e W1 ⟨q, rfl, hq, rfl⟩
  have HG := Lib.hid (hq.get HS.out)
  have hqn : q ≤ n := by have := hq.1; have := HL.out; omega
  clear hq
  have z0 := HB.out.cell 0 _ rfl
  by_cases hlt : q < n
  · obtain ⟨r, hr⟩ : ∃ x, l[q]? = some x := ⟨_, List.getElem?_eq_getElem (by have := HL.out; omega)⟩
    have HRR : Rws W0 (.slice a l.length c) l := by rw [HL.out]; exact HR.out
    obtain ⟨b, off, hab, hcell⟩ := HRR.at_row hr
    subst hab
    have HG : Hid (getR l t k = if r.tb = t ∧ r.ky = k then some r else none) := Lib.hid (by rw [HG.out, hr])
    obtain ⟨r0, r1, r2, r3, r4⟩ := r
    have c0 := hcell 0 _ rfl
    have c1 := hcell 1 _ rfl
    have c2 := hcell 2 _ rfl
    have c3 := hcell 3 _ rfl
    have c4 := hcell 4 _ rfl
    rw [Nat.add_zero] at c0
    simp only [] at c0 c1 c2 c3 c4
    clear hcell hr HRR
    have hqz : (q : Int) < (n : Int) := by omega
    have hq0 : (0 : Int) ≤ (q : Int) := by omega
    obtain ⟨q0, q1, q2, q3, q4⟩ := HB0.out.row (r := ⟨0, 0, 0, 0, 0⟩)
    have fr := HB0.out.soft
    by_cases h1 : r0 = t
    · by_cases h2 : r1 = k
      · have HG : Hid (getR l t k = some ⟨r0, r1, r2, r3, r4⟩) := Lib.hid (by rw [HG.out, if_pos ⟨h1, h2⟩])
        have b1 : (r0 == t) = true := by simpa using h1
        have b2 : (r1 == k) = true := by simpa using h2
        clear h1 h2
        go_wp2_with fail
        obtain ⟨W8, hW, hb, hk8⟩ := HB0.out.put5 ⟨r0, r1, r2, r3, r4⟩
        simp only [] at hW
        rw [hW]
        obtain ⟨d0, d1, d2, d3, d4⟩ := hb.row
        simp only [] at d0 d1 d2 d3 d4
        refine bodyPost_ret (v := .tuple #[rowV ⟨r0, r1, r2, r3, r4⟩, .bool true]) (by simp [results, Tryz.results23, go_sem, d0, d1, d2, d3, d4]) rfl ?_
        exact ⟨by rw [HG.out]; rfl, keep0 HK0.out (by have := HZR.out; omega) hk8⟩
      · have HG : Hid (getR l t k = none) := Lib.hid (by rw [HG.out, if_neg (fun h => h2 h.2)])
        have b1 : (r0 == t) = true := by simpa using h1
        have b2 : (r1 == k) = false := by simpa using h2
        clear h1 h2
        go_wp2_with fail
        obtain ⟨W8, hW, hb, hk8⟩ := HB0.out.put5 ⟨0, 0, 0, 0, 0⟩
        simp only [] at hW
        rw [hW]
        obtain ⟨d0, d1, d2, d3, d4⟩ := hb.row
        simp only [] at d0 d1 d2 d3 d4
        refine bodyPost_ret (v := .tuple #[rowV ⟨0, 0, 0, 0, 0⟩, .bool false]) (by simp [results, Tryz.results23, go_sem, d0, d1, d2, d3, d4]) rfl ?_
        exact ⟨by rw [HG.out]; rfl, keep0 HK0.out (by have := HZR.out; omega) hk8⟩
    · have HG : Hid (getR l t k = none) := Lib.hid (by rw [HG.out, if_neg (fun h => h1 h.1)])
      have b1 : (r0 == t) = false := by simpa using h1
      clear h1
      go_wp2_with fail
      obtain ⟨W8, hW, hb, hk8⟩ := HB0.out.put5 ⟨0, 0, 0, 0, 0⟩
      simp only [] at hW
      rw [hW]
      obtain ⟨d0, d1, d2, d3, d4⟩ := hb.row
      simp only [] at d0 d1 d2 d3 d4
      refine bodyPost_ret (v := .tuple #[rowV ⟨0, 0, 0, 0, 0⟩, .bool false]) (by simp [results, Tryz.results23, go_sem, d0, d1, d2, d3, d4]) rfl ?_
      exact ⟨by rw [HG.out]; rfl, keep0 HK0.out (by have := HZR.out; omega) hk8⟩
  · have HG : Hid (getR l t k = none) := Lib.hid (by rw [HG.out, List.getElem?_eq_none (by have := HL.out; omega)])
    have hqz : ¬ (q : Int) < (n : Int) := by omega
    obtain ⟨q0, q1, q2, q3, q4⟩ := HB0.out.row (r := ⟨0, 0, 0, 0, 0⟩)
    have fr := HB0.out.soft
    go_wp2_with fail
    obtain ⟨W8, hW, hb, hk8⟩ := HB0.out.put5 ⟨0, 0, 0, 0, 0⟩
    simp only [] at hW
    rw [hW]
    obtain ⟨d0, d1, d2, d3, d4⟩ := hb.row
    simp only [] at d0 d1 d2 d3 d4
    refine bodyPost_ret (v := .tuple #[rowV ⟨0, 0, 0, 0, 0⟩, .bool false]) (by simp [results, Tryz.results23, go_sem, d0, d1, d2, d3, d4]) rfl ?_
    exact ⟨by rw [HG.out]; rfl, keep0 HK0.out (by have := HZR.out; omega) hk8⟩
end Go.Proofs.YtcnpncndecjahaaGreatDoor

/-
  Rows in slices: cut, joined.
-/
namespace Go.Proofs.YtcnpncndecjahaaGreatDoor
open Go.RowKit Go.Shelf

theorem flatR_len (l : List R5) : (flatR l).length = l.length * 5 := by
  unfold flatR
  induction l with
  | nil => rfl
  | cons x l ih => rw [List.flatMap_cons, List.length_append, ih, rowC_len, List.length_cons]; omega
theorem Rwc.flat {W : World} {b off : Nat} {l : List R5} (h : ∀ i r, l[i]? = some r → ∀ j x, (rowC r)[j]? = some x → W.cell? ⟨b, off + i * 5 + j, none⟩ = some x) : ∀ j u, (flatR l)[j]? = some u → W.cell? ⟨b, off + j, none⟩ = some u := by
  intro j u hj
  have hl : j < l.length * 5 := by
    have h1 := (List.getElem?_eq_some_iff.1 hj).1
    rw [flatR_len] at h1
    omega
  have hq : j / 5 < l.length := by omega
  have hx : l[j / 5]? = some l[j / 5] := List.getElem?_eq_getElem hq
  have h1 := flatR_get l (j / 5) _ (j % 5) hx (by omega)
  rw [show j / 5 * 5 + j % 5 = j by omega, hj] at h1
  have h2 := h (j / 5) _ hx (j % 5) u h1.symm
  rwa [show off + j / 5 * 5 + j % 5 = off + j by omega] at h2
theorem flatR_cell (l : List R5) : ∀ u ∈ flatR l, u.oneCell' = true := by
  intro u hu
  unfold flatR at hu
  obtain ⟨r, _, hr⟩ := List.mem_flatMap.1 hu
  simp only [List.mem_cons, List.not_mem_nil, or_false] at hr
  rcases hr with rfl | rfl | rfl | rfl | rfl <;> rfl
/-- More rows behind rows of one's own. -/
theorem app_rows (W : World) (ty lo : Nat) (v src : Value) (l ys : List R5) (hown : W.ownsRow lo 67 5 v l.length (flatR l)) (hs : Rwc W src ys) (hn : l.length + ys.length ≤ 2000000) (hlo : lo ≤ W.heap.size) :
    ∃ v' w', (Builtin.append_ #[40, 40] ty #[v, src]).run Tryz.prog W = .ok v' w' ∧ w'.ownsRow lo 67 5 v' (l ++ ys).length (flatR (l ++ ys)) ∧ Keep (fun k => v.ownBlock = some k) W w' := by
  obtain ⟨i0, hi, hz0, hz1, hz2⟩ := info_parts infoRow
  rcases hs with ⟨rfl, rfl⟩ | ⟨b, off, c, rfl, hc, h⟩
  · refine ⟨v, W, run_append_owned_none W lo 40 ty 67 i0 5 Tryz.underlying40 hi v l.length (flatR l) hown, by simpa using hown, Keep.refl _ W⟩
  · obtain ⟨v', w', h1, h2, h3, h4, h5⟩ := run_append_own_at (P := Tryz.prog) W lo 40 ty 67 i0 _ 5 40 Tryz.underlying40 hi hz0 hz1 hz2 rfl (by decide) v l.length (flatR l) hown ⟨b, off, none⟩ ys.length c (flatR ys) (flatR_len ys)
      (fun j u hj => by rw [Addr.add_lit]; exact Rwc.flat h j u hj) (flatR_cell ys) (by unfold maxLen; omega) (by omega) hlo
    exact ⟨v', w', h1, by rw [List.length_append, flatR_append]; exact h2, Keep.of_grown h3⟩
theorem rwc_own {W : World} {lo : Nat} {v : Value} {l : List R5} (h : W.ownsRow lo 67 5 v l.length (flatR l)) : Rwc W v l ∧ ∀ b, v.ownBlock = some b → lo ≤ b := by
  refine ⟨?_, fun b hb => (h.lt b hb).1⟩
  rcases h.2 with ⟨rfl, h0⟩ | ⟨g, cap, cur, rfl, hg, hh, hcap, r⟩
  · exact .inl ⟨by rfl, List.eq_nil_of_length_eq_zero h0⟩
  · refine .inr ⟨g, 0, cap, rfl, hcap, fun i r hi j x hj => ?_⟩
    have hj5 : j < 5 := (List.getElem?_eq_some_iff.1 hj).1
    have h1 := flatR_get l i r j hi hj5
    rw [hj] at h1
    have h2 := h.cells (g := g) rfl _ _ h1
    rw [Addr.add_lit] at h2
    rwa [show 0 + i * 5 + j = 0 + (i * 5 + j) by omega]
/-- The first ones. -/
theorem rwc_hi {W : World} {v : Value} {l : List R5} (h : Rwc W v l) (k : Nat) (hk : k ≤ l.length) :
    ∃ v', (Instr.sliceAt 40 v none (some (.int .i64 k)) none).run Tryz.prog W = .ok v' W ∧ Rwc W v' (l.take k) ∧ v'.ownBlock = v.ownBlock := by
  have hlt : (l.take k).length = k := by rw [List.length_take]; omega
  rcases h with ⟨rfl, rfl⟩ | ⟨b, off, c, rfl, hc, h⟩
  · obtain rfl : k = 0 := by simpa using hk
    refine ⟨.slice none 0 0, ?_, .inl ⟨rfl, by simp⟩, rfl⟩
    simp [Instr.sliceAt, Instr.slice, run_underlying Tryz.underlying40, Instr.sliceBounds, go_sem]
  · have hkz : (k : Int) ≤ (c : Int) := by omega
    have hk0 : (0 : Int) ≤ (k : Int) := by omega
    refine ⟨.slice (some ⟨b, off, none⟩) k c, ?_, .inr ⟨b, off, c, by rw [hlt], by omega, fun j x hj => h j x ?_⟩, rfl⟩
    · by_cases h0 : c = 0
      · subst h0
        obtain rfl : k = 0 := by omega
        simp [Instr.sliceAt, Instr.slice, run_underlying Tryz.underlying40, Instr.sliceBounds, go_sem]
      · simp [Instr.sliceAt, Instr.slice, run_underlying Tryz.underlying40, Instr.sliceBounds, go_sem, hkz, hk0]
    · rw [List.getElem?_take] at hj
      split at hj
      · exact hj
      · cases hj
/-- The others. -/
theorem rwc_lo {W : World} {v : Value} {l : List R5} (h : Rwc W v l) (k : Nat) (hk : k ≤ l.length) :
    ∃ v', (Instr.sliceAt 40 v (some (.int .i64 k)) none none).run Tryz.prog W = .ok v' W ∧ Rwc W v' (l.drop k) ∧ v'.ownBlock = v.ownBlock := by
  have hlt : (l.drop k).length = l.length - k := List.length_drop
  rcases h with ⟨rfl, rfl⟩ | ⟨b, off, c, rfl, hc, h⟩
  · obtain rfl : k = 0 := by simpa using hk
    refine ⟨.slice none 0 0, ?_, .inl ⟨rfl, by simp⟩, rfl⟩
    simp [Instr.sliceAt, Instr.slice, run_underlying Tryz.underlying40, Instr.sliceBounds, go_sem]
  · have hkz : (k : Int) ≤ (l.length : Int) := by omega
    have hk0 : (0 : Int) ≤ (k : Int) := by omega
    by_cases h0 : c = k
    · refine ⟨.slice (some ⟨b, off, none⟩) (l.length - k) (c - k), ?_, .inr ⟨b, off, c - k, by rw [hlt], by omega, fun j x hj => ?_⟩, rfl⟩
      · simp [Instr.sliceAt, Instr.slice, run_underlying Tryz.underlying40, Instr.sliceBounds, go_sem, hkz, hk0, h0]
      · have := (List.getElem?_eq_some_iff.1 hj).1
        omega
    · refine ⟨.slice (some ⟨b, off + k * 5, none⟩) (l.length - k) (c - k), ?_, .inr ⟨b, off + k * 5, c - k, by rw [hlt], by omega, fun i r hi j x hj => ?_⟩, rfl⟩
      · simp [Instr.sliceAt, Instr.slice, run_underlying Tryz.underlying40, Instr.sliceBounds, go_sem, hkz, hk0, h0]
      · rw [List.getElem?_drop] at hi
        have := h (k + i) r hi j x hj
        rwa [show off + (k + i) * 5 + j = off + k * 5 + i * 5 + j by omega] at this
theorem own_form {W : World} {lo : Nat} {e : TypeId} {z n : Nat} {v : Value} {xs : List Value} (h : W.ownsRow lo e z v n xs) : ∃ a c, v = .slice a n c := by
  rcases h.2 with ⟨rfl, h2⟩ | ⟨g, c, cur, rfl, _⟩
  · exact ⟨none, 0, by rw [h2]⟩
  · exact ⟨_, _, rfl⟩
/-- At a region's list. -/
theorem wpList_slice {P : Program} {ops : Array Oper} {rest : List Oper} {o : Oper} {a : Act} {w : World} {Q : Exit → Act → World → Prop} {v' : Value}
    (hg : o.guard = none) (t : TypeId) (s : Operand) (lo hi : Option Operand) (hop : o.op = Op.slice t s lo hi none)
    (hrun : (Instr.sliceAt t (a.eval s) (lo.map a.eval) (hi.map a.eval) none).run P w = .ok v' w) (hK : wpList P ops Q rest (a.put o.dst v') w) : wpList P ops Q (o :: rest) a w := by
  refine wpList_plain hg fun K hK' => ?_
  unfold Oper.wp
  simp [execOp, hop, hrun, Result.andThen]
  exact hK' _ _ hK
end Go.Proofs.YtcnpncndecjahaaGreatDoor

/-
  Functions that are folded over rows and numbers; folds; measures.
-/
namespace Go.Proofs.YtcnpncndecjahaaGreatDoor
open Go.RowKit Go.Shelf

abbrev rzC (p : Int × Bool) : List Value := [.slice none 0 0, .int .i64 p.1, .bool p.2]
theorem BoxL.put3 {W : World} {z : Nat} {u0 u1 u2 : Value} (h : BoxL W z [u0, u1, u2]) (x y v : Value) : ∃ W2, ((W.setCell ⟨z, 0, none⟩ x).setCell ⟨z, 1, none⟩ y).setCell ⟨z, 2, none⟩ v = W2 ∧ BoxL W2 z [x, y, v] ∧ Keep (fun j => j = z) W W2 :=
  ⟨_, rfl, ((h.set 0 (by simp) _).set 1 (by simp) _).set 2 (by simp) _, (((Keep.refl (fun j => j = z) W).setCell (p := ⟨z, 0, none⟩) _ (.inl rfl)).setCell (p := ⟨z, 1, none⟩) _ (.inl rfl)).setCell (p := ⟨z, 2, none⟩) _ (.inl rfl)⟩
theorem BoxL.three {W : World} {z : Nat} {x y v : Value} (h : BoxL W z [x, y, v]) : W.cell? ⟨z, 0, none⟩ = some x ∧ W.cell? ⟨z, 1, none⟩ = some y ∧ W.cell? ⟨z, 2, none⟩ = some v := ⟨h.cell 0 _ rfl, h.cell 1 _ rfl, h.cell 2 _ rfl⟩
abbrev rzV0 (p : Int × Bool) : Value := .agg #[.slice none 0 0, .int .i64 p.1, .bool p.2]

set_option maxRecDepth 100000 in
set_option maxHeartbeats 1000000 in
theorem cntF_any (n : Int) (f : Bool) (r : R5) (w : World) : Calls Tryz.prog 56 #[rzV0 (n, f), rowV r] w fun e w' => e = .returned (rzV0 (cntS (n, f) r)) ∧ Keep (fun _ => False) w w' := by
  have HO : Hid (cntS (n, f) r = (wrap64 (n + 1), f)) := Lib.hid rfl
  rw [HO.out]
  clear HO
  go_enter Tryz.func56, Tryz.ntmps56
  go_wp2_with fail
  go_returns
  exact ⟨rfl, (((Keep.refl _ _).alloc _).alloc _).alloc _⟩
set_option maxRecDepth 100000 in
set_option maxHeartbeats 1000000 in
theorem sumF_any (n : Int) (f : Bool) (x : Int) (w : World) : Calls Tryz.prog 59 #[rzV0 (n, f), .int .i64 x] w fun e w' => e = .returned (rzV0 (sumS (n, f) x)) ∧ Keep (fun _ => False) w w' := by
  have HO : Hid (sumS (n, f) x = (wrap64 (n + x), f)) := Lib.hid rfl
  rw [HO.out]
  clear HO
  go_enter Tryz.func59, Tryz.ntmps59
  go_wp2_with fail
  go_returns
  exact ⟨rfl, ((Keep.refl _ _).alloc _).alloc _⟩
set_option maxHeartbeats 400000 in
theorem ltF_any (a b : Int) (w : World) : Calls Tryz.prog 61 #[.int .i64 a, .int .i64 b] w fun e w' => e = .returned (.bool (ltB a b)) ∧ w = w' := by
  go_enter Tryz.func61, Tryz.ntmps61
  go_wp2
  go_ret
  exact ⟨rfl, rfl⟩
set_option maxHeartbeats 400000 in
theorem gtF_any (a b : Int) (w : World) : Calls Tryz.prog 62 #[.int .i64 a, .int .i64 b] w fun e w' => e = .returned (.bool (gtB a b)) ∧ w = w' := by
  go_enter Tryz.func62, Tryz.ntmps62
  go_wp2
  go_ret
  exact ⟨rfl, rfl⟩
theorem enters_of {f : FuncId} {fn : Func} {c : Code} (hf : Tryz.prog.funcs[f]? = some fn) (hn : (fn.name == "runtime.NumGoroutine") = false) (hb : fn.body = some c) (args : Array Value) (w : World) : (callFunc f args).run Tryz.prog w = .ok (.enter f args) w := by
  have h1 : fn.name ≠ "runtime.NumGoroutine" := by simpa using hn
  simp [callFunc, hf, h1, hb]
/-- A function of the program's own. -/
def Enters (fn : Nat) : Prop := ∀ args w, (callFunc fn args).run Tryz.prog w = .ok (.enter fn args) w
theorem enters_ext : Enters 85 := fun args w => enters_of Tryz.func85 (by kernel_rfl) rfl args w
theorem enters_gt : Enters 62 := fun args w => enters_of Tryz.func62 (by kernel_rfl) rfl args w
theorem enters_sum : Enters 59 := fun args w => enters_of Tryz.func59 (by kernel_rfl) rfl args w
theorem enters_cnt : Enters 56 := fun args w => enters_of Tryz.func56 (by kernel_rfl) rfl args w
theorem enters_lt : Enters 61 := fun args w => enters_of Tryz.func61 (by kernel_rfl) rfl args w
/-- A function of two numbers, that answers without a trace. -/
def Cmp2 (fn : Nat) (b : Int → Int → Bool) : Prop := ∀ x y W, Calls Tryz.prog fn #[.int .i64 x, .int .i64 y] W fun e w' => e = .returned (.bool (b x y)) ∧ W = w'
set_option maxRecDepth 100000 in
set_option maxHeartbeats 1000000 in
theorem extF_any (fn : Nat) (b : Int → Int → Bool) (z : Nat) (n : Int) (f : Bool) (x : Int) (w : World) (he : Enters fn) (hb : Cmp2 fn b) (hz : w.cell? ⟨z, 0, none⟩ = some (.func (.func fn) #[] #[])) :
    Calls Tryz.prog 85 #[rzV0 (n, f), .int .i64 x, ptr z] w fun e w' => e = .returned (rzV0 (extS b (n, f) x)) ∧ Keep (fun _ => False) w w' := by
  unfold Cmp2 at hb
  have HB := Lib.hid hb
  clear hb
  cases f with
  | false =>
    have HO : Hid (extS b (n, false) x = (x, true)) := Lib.hid rfl
    rw [HO.out]
    clear HO HB
    go_enter Tryz.func85, Tryz.ntmps85
    go_wp2_with fail
    go_returns
    exact ⟨rfl, ((Keep.refl _ _).alloc _).alloc _⟩
  | true =>
    have hz2 : ((w.alloc (.cells #[.slice none 0 0, .int .i64 n, .bool true] 42)).alloc (.cells #[.slice none 0 0, .int .i64 0, .bool false] 42)).cell? ⟨z, 0, none⟩ = some (.func (.func fn) #[] #[]) := (((Keep.refl (fun _ => False) w).alloc _).alloc _).cell hz (fun h => h)
    clear hz
    unfold Enters at he
    have HB2 := HB.out x n
    cases hc : b x n with
    | true =>
      rw [hc] at HB2
      have HB3 := Lib.hid HB2
      have HO : Hid (extS b (n, true) x = (x, true)) := Lib.hid (by unfold extS; simp [hc])
      rw [HO.out]
      clear HO hc HB2
      go_enter Tryz.func85, Tryz.ntmps85
      go_wp2_with fail
      clear hz2 he
      with_reducible refine (HB3.out _).mono ?_
      rintro e W ⟨rfl, rfl⟩
      go_wp2_with fail
      go_returns
      exact ⟨rfl, ((Keep.refl _ _).alloc _).alloc _⟩
    | false =>
      rw [hc] at HB2
      have HB3 := Lib.hid HB2
      have HO : Hid (extS b (n, true) x = (n, true)) := Lib.hid (by unfold extS; simp [hc])
      rw [HO.out]
      clear HO hc HB2
      go_enter Tryz.func85, Tryz.ntmps85
      go_wp2_with fail
      clear hz2 he
      with_reducible refine (HB3.out _).mono ?_
      rintro e W ⟨rfl, rfl⟩
      go_wp2_with fail
      go_returns
      exact ⟨rfl, ((Keep.refl _ _).alloc _).alloc _⟩

def ExtP (fn : Nat) (w : World) (e : Ending) (w' : World) : Prop := ∃ z, e = .returned (.func (.func 85) #[] #[ptr z]) ∧ w'.cell? ⟨z, 0, none⟩ = some (.func (.func fn) #[] #[]) ∧ Keep (fun _ => False) w w'
set_option maxHeartbeats 400000 in
theorem ext_any (fn : Nat) (w : World) : Calls Tryz.prog 60 #[.func (.func fn) #[] #[]] w (ExtP fn w) := by
  go_enter Tryz.func60, Tryz.ntmps60
  go_wp2_with fail
  go_returns
  exact ⟨w.heap.size, rfl, (BoxL.new w [.func (.func fn) #[] #[]] _).cell 0 _ rfl, (Keep.refl _ _).alloc _⟩

/-! ### folds -/
set_option maxRecDepth 100000 in
set_option maxHeartbeats 1000000 in
theorem foldI_any (fn : Nat) (caps : Array Value) (st : Int × Bool → Int → Int × Bool) (v : Value) (l : List Int) (w : World) (h : Its w v l) (he : Enters fn)
    (hf : ∀ p x W, Keep (fun _ => False) w W → Calls Tryz.prog fn (#[rzV0 p, .int .i64 x] ++ caps) W (fun e w' => e = .returned (rzV0 (st p x)) ∧ Keep (fun _ => False) W w')) :
    Calls Tryz.prog 57 #[v, rzV0 (0, false), .func (.func fn) #[] caps] w fun e w' => e = .returned (rzV0 (l.foldl st (0, false))) ∧ Keep (fun _ => False) w w' := by
  have HI := Lib.hid h
  have HF := Lib.hid hf
  obtain ⟨a, c, b, off, rfl, hc, ha, hcell⟩ := h.at_
  have HN := Lib.hid h.n
  obtain ⟨n, hn⟩ : ∃ n, l.length = n := ⟨_, rfl⟩
  have HL := Lib.hid hn
  rw [hn] at hc ha HN ⊢
  have HA := Lib.hid ha
  have HC := Lib.hid hcell
  clear h hf ha hcell hn
  unfold Enters at he
  go_enter Tryz.func57, Tryz.ntmps57
  go_wp2_with fail
  have HK0 := Lib.hid (((Keep.refl (fun _ => False) w).alloc (.cells #[.slice none 0 0, .int .i64 0, .bool false] 42)).alloc (.cells #[.slice none 0 0, .int .i64 0, .bool false] 42))
  have HB1 := Lib.hid ((BoxL.new w [.slice none 0 0, .int .i64 0, .bool false] 42).kept (keep_cells _ #[.slice none 0 0, .int .i64 0, .bool false] 42))
  have HB2 := BoxL.new (w.alloc (.cells #[.slice none 0 0, .int .i64 0, .bool false] 42)) [.slice none 0 0, .int .i64 0, .bool false] 42
  rw [World.size_alloc] at HB2
  have HB2 := Lib.hid HB2
  generalize (w.alloc (.cells #[.slice none 0 0, .int .i64 0, .bool false] 42)).alloc (.cells #[.slice none 0 0, .int .i64 0, .bool false] 42) = W1 at *
  obtain ⟨z0, hz0⟩ : ∃ z, w.heap.size = z := ⟨_, rfl⟩
  have HZ := Lib.hid hz0
  rw [hz0] at HB1 HB2 ⊢
  clear hz0
  go_loopg [11] n (fun gh v11 wr => ∃ (i : Nat) (p : Int × Bool), gh + i = n ∧ v11 = .int .i64 i ∧ Hid (p = (l.take i).foldl st (0, false)) ∧ BoxL wr z0 (rzC p) ∧ Keep (fun j => j = z0) W1 wr)
  case atStart => exact ⟨0, (0, false), by omega, rfl, Lib.hid rfl, HB1.out, Keep.refl _ _⟩
  case round =>
    obtain ⟨i, ⟨pn, pb⟩, hg, rfl, HP, hbx, hk⟩ := hrel
    have HBX := Lib.hid hbx
    have HK := Lib.hid hk
    have HKW := Lib.hid (HK0.out.trans' hk (fun j hj => .inr (by have := HZ.out; have h1 : j = z0 := hj; omega)))
    obtain ⟨c0, c1, c2⟩ := hbx.three
    clear hbx hk
    by_cases hin : i < n
    · have hinz : (i : Int) < (n : Int) := by omega
      have hi0 : (0 : Int) ≤ (i : Int) := by omega
      obtain rfl := HA.out (by omega)
      obtain ⟨x, hx⟩ : ∃ x, l[i]? = some x := ⟨_, List.getElem?_eq_getElem (by have := HL.out; omega)⟩
      have hc1 := HKW.out.cell (HC.out i x hx) (fun h => h)
      have HX : Hid ((l.take (i + 1)).foldl st (0, false) = st (pn, pb) x) := Lib.hid (by rw [List.take_add_one, hx, List.foldl_append, ← HP.out]; rfl)
      clear hx
      go_wp2_with fail
      clear hc1 c0 c1 c2 he
      with_reducible refine (HF.out (pn, pb) x wr HKW.out).mono ?_
      rintro e W2 ⟨rfl, k2⟩
      have HB3 := HBX.out.kept k2
      obtain ⟨W3, hW3, hb3, k3⟩ := HB3.put3 (.slice none 0 0) (.int .i64 (st (pn, pb) x).1) (.bool (st (pn, pb) x).2)
      have HB4 := Lib.hid hb3
      have HK3 := Lib.hid ((HK.out.trans (k2.mono (fun _ h => h.elim))).trans k3)
      have fr := HB3.soft
      obtain ⟨d0, d1, d2⟩ := HB3.three
      clear k2 k3 hb3 HB3
      have hnb := HN.out
      go_wp2_with fail
      go_roundg (gk - 1)
      case rel => exact ⟨i + 1, st (pn, pb) x, by omega, by go_num, Lib.hid HX.out.symm, HB4.out, HK3.out⟩
      case measure => omega
    · have hinz : ¬ (i : Int) < (n : Int) := by omega
      have hl : (pn, pb) = l.foldl st (0, false) := by
        rw [HP.out, List.take_of_length_le (by have := HL.out; omega)]
      have HR := Lib.hid hl
      have hb2 := HB2.out.keep HK.out (by show ¬ z0 + 1 = z0; omega)
      have fr := hb2.soft
      obtain ⟨e0, e1, e2⟩ := hb2.three
      obtain ⟨W3, hW3, hb3, k3⟩ := hb2.put3 (.slice none 0 0) (.int .i64 pn) (.bool pb)
      obtain ⟨d0, d1, d2⟩ := hb3.three
      have HK3 := Lib.hid (HKW.out.trans' k3 (fun j hj => .inr (by have := HZ.out; have h1 : j = z0 + 1 := hj; omega)))
      clear hb2 hb3 k3 hl
      go_wp2_with fail
      clear c0 c1 c2 fr e0 e1 e2
      try simp only [Exit.inBlock, Exit.then]
      refine bodyPost_ret (v := rzV0 (pn, pb)) (by simp [results, Tryz.results57, go_sem, d0, d1, d2]) rfl ?_
      exact ⟨by rw [← HR.out], HK3.out⟩
set_option maxRecDepth 100000 in
set_option maxHeartbeats 1000000 in
theorem foldR_any (fn : Nat) (caps : Array Value) (st : Int × Bool → R5 → Int × Bool) (v : Value) (l : List R5) (w : World) (h : Rws w v l) (hn9 : l.length ≤ 1000000) (he : Enters fn)
    (hf : ∀ p x W, Keep (fun _ => False) w W → Calls Tryz.prog fn (#[rzV0 p, rowV x] ++ caps) W (fun e w' => e = .returned (rzV0 (st p x)) ∧ Keep (fun _ => False) W w')) :
    Calls Tryz.prog 55 #[v, rzV0 (0, false), .func (.func fn) #[] caps] w fun e w' => e = .returned (rzV0 (l.foldl st (0, false))) ∧ Keep (fun _ => False) w w' := by
  have HI := Lib.hid h
  have HF := Lib.hid hf
  obtain ⟨a, c, rfl, hc⟩ := h.form'
  obtain ⟨n, hn⟩ : ∃ n, l.length = n := ⟨_, rfl⟩
  have HL := Lib.hid hn
  rw [hn] at hc hn9 HI ⊢
  have HN := Lib.hid hn9
  clear h hf hn hn9
  unfold Enters at he
  go_enter Tryz.func55, Tryz.ntmps55
  go_wp2_with fail
  have HK0 := Lib.hid (((Keep.refl (fun _ => False) w).alloc (.cells #[.slice none 0 0, .int .i64 0, .bool false] 42)).alloc (.cells #[.slice none 0 0, .int .i64 0, .bool false] 42))
  have HB1 := Lib.hid ((BoxL.new w [.slice none 0 0, .int .i64 0, .bool false] 42).kept (keep_cells _ #[.slice none 0 0, .int .i64 0, .bool false] 42))
  have HB2 := BoxL.new (w.alloc (.cells #[.slice none 0 0, .int .i64 0, .bool false] 42)) [.slice none 0 0, .int .i64 0, .bool false] 42
  rw [World.size_alloc] at HB2
  have HB2 := Lib.hid HB2
  generalize (w.alloc (.cells #[.slice none 0 0, .int .i64 0, .bool false] 42)).alloc (.cells #[.slice none 0 0, .int .i64 0, .bool false] 42) = W1 at *
  obtain ⟨z0, hz0⟩ : ∃ z, w.heap.size = z := ⟨_, rfl⟩
  have HZ := Lib.hid hz0
  rw [hz0] at HB1 HB2 ⊢
  clear hz0
  go_loopg [11] n (fun gh v11 wr => ∃ (i : Nat) (p : Int × Bool), gh + i = n ∧ v11 = .int .i64 i ∧ Hid (p = (l.take i).foldl st (0, false)) ∧ BoxL wr z0 (rzC p) ∧ Keep (fun j => j = z0) W1 wr)
  case atStart => exact ⟨0, (0, false), by omega, rfl, Lib.hid rfl, HB1.out, Keep.refl _ _⟩
  case round =>
    obtain ⟨i, ⟨pn, pb⟩, hg, rfl, HP, hbx, hk⟩ := hrel
    have HBX := Lib.hid hbx
    have HK := Lib.hid hk
    have HKW := Lib.hid (HK0.out.trans' hk (fun j hj => .inr (by have := HZ.out; have h1 : j = z0 := hj; omega)))
    obtain ⟨c0, c1, c2⟩ := hbx.three
    clear hbx hk
    by_cases hin : i < n
    · have hinz : (i : Int) < (n : Int) := by omega
      have hi0 : (0 : Int) ≤ (i : Int) := by omega
      obtain ⟨x, hx⟩ : ∃ x, l[i]? = some x := ⟨_, List.getElem?_eq_getElem (by have := HL.out; omega)⟩
      have HX : Hid ((l.take (i + 1)).foldl st (0, false) = st (pn, pb) x) := Lib.hid (by rw [List.take_add_one, hx, List.foldl_append, ← HP.out]; rfl)
      obtain ⟨b, off, rfl, hcell⟩ := HI.out.at_row hx
      obtain ⟨x0, x1, x2, x3, x4⟩ := x
      have q0 := HKW.out.cell (hcell 0 _ rfl) (fun h => h)
      have q1 := HKW.out.cell (hcell 1 _ rfl) (fun h => h)
      have q2 := HKW.out.cell (hcell 2 _ rfl) (fun h => h)
      have q3 := HKW.out.cell (hcell 3 _ rfl) (fun h => h)
      have q4 := HKW.out.cell (hcell 4 _ rfl) (fun h => h)
      rw [Nat.add_zero] at q0
      clear hx hcell
      go_upto_region 4 with (fail)
      clear q0 q1 q2 q3 q4 c0 c1 c2
      have kb := keep_cells wr (rowC ⟨x0, x1, x2, x3, x4⟩).toArray 67
      have HX5 := Lib.hid (BoxL.new wr (rowC ⟨x0, x1, x2, x3, x4⟩) 67)
      have HBX5 := Lib.hid (HBX.out.kept kb)
      have HK5 := Lib.hid (HK.out.trans (kb.mono (fun _ h => h.elim)))
      have HKW5 := Lib.hid (HKW.out.trans kb)
      have e1 : wr.alloc (.cells #[.int .i64 x0, .int .i64 x1, .int .i64 x2, .int .i64 x3, .int .i64 x4] 67) = wr.alloc (.cells (rowC ⟨x0, x1, x2, x3, x4⟩).toArray 67) := rfl
      rw [e1]
      clear e1 kb
      generalize wr.alloc (.cells (rowC ⟨x0, x1, x2, x3, x4⟩).toArray 67) = W5 at *
      generalize wr.heap.size = zx at *
      obtain ⟨c0, c1, c2⟩ := HBX5.out.three
      obtain ⟨q0, q1, q2, q3, q4⟩ := HX5.out.row
      simp only [] at q0 q1 q2 q3 q4
      go_wp2_with fail
      clear q0 q1 q2 q3 q4 c0 c1 c2 he
      with_reducible refine (HF.out (pn, pb) ⟨x0, x1, x2, x3, x4⟩ W5 HKW5.out).mono ?_
      rintro e W2 ⟨rfl, k2⟩
      have HB3 := HBX5.out.kept k2
      obtain ⟨W3, hW3, hb3, k3⟩ := HB3.put3 (.slice none 0 0) (.int .i64 (st (pn, pb) ⟨x0, x1, x2, x3, x4⟩).1) (.bool (st (pn, pb) ⟨x0, x1, x2, x3, x4⟩).2)
      have HB4 := Lib.hid hb3
      have HK3 := Lib.hid ((HK5.out.trans (k2.mono (fun _ h => h.elim))).trans k3)
      have fr := HB3.soft
      obtain ⟨d0, d1, d2⟩ := HB3.three
      clear k2 k3 hb3 HB3
      have hnb := HN.out
      go_wp2_with fail
      go_roundg (gk - 1)
      case rel => exact ⟨i + 1, st (pn, pb) ⟨x0, x1, x2, x3, x4⟩, by omega, by go_num, Lib.hid HX.out.symm, HB4.out, HK3.out⟩
      case measure => omega
    · have hinz : ¬ (i : Int) < (n : Int) := by omega
      have hl : (pn, pb) = l.foldl st (0, false) := by
        rw [HP.out, List.take_of_length_le (by have := HL.out; omega)]
      have HR := Lib.hid hl
      have hb2 := HB2.out.keep HK.out (by show ¬ z0 + 1 = z0; omega)
      have fr := hb2.soft
      obtain ⟨e0, e1, e2⟩ := hb2.three
      obtain ⟨W3, hW3, hb3, k3⟩ := hb2.put3 (.slice none 0 0) (.int .i64 pn) (.bool pb)
      obtain ⟨d0, d1, d2⟩ := hb3.three
      have HK3 := Lib.hid (HKW.out.trans' k3 (fun j hj => .inr (by have := HZ.out; have h1 : j = z0 + 1 := hj; omega)))
      clear hb2 hb3 k3 hl
      go_wp2_with fail
      clear c0 c1 c2 fr e0 e1 e2
      try simp only [Exit.inBlock, Exit.then]
      refine bodyPost_ret (v := rzV0 (pn, pb)) (by simp [results, Tryz.results55, go_sem, d0, d1, d2]) rfl ?_
      exact ⟨by rw [← HR.out], HK3.out⟩

/-! ### measures -/
theorem infoI : (Tryz.prog.info? 3).map (fun i => (i.zero, i.size, i.bytes)) = some (some (.int .i64 0), 1, 8) := by kernel_rfl
theorem own_its {W : World} {lo : Nat} {v : Value} {l : List Int} (h : W.ownsRow lo 3 1 v l.length (l.map vI)) (hl : l.length ≤ 1000000) (hb : ∀ x ∈ l, I64 x) : Its W v l := by
  obtain ⟨a, c, rfl⟩ := own_form h
  refine ⟨by omega, hb, ?_⟩
  rcases h.2 with ⟨e, e2⟩ | ⟨g, cap, cur, e, -, -, h5, h6, -⟩
  · have e0 : l = [] := by simpa using e2
    subst e0
    cases e
    exact ⟨none, 0, 0, 0, rfl, by simp, by simp, fun j x hj => by simp at hj⟩
  · cases e
    refine ⟨_, _, g, 0, rfl, by omega, fun _ => rfl, fun j x hj => ?_⟩
    have h1 := h.cells (g := g) rfl j (.int .i64 x) (by rw [List.getElem?_map, hj]; rfl)
    rw [Addr.add_lit] at h1
    exact h1
theorem app_int {W : World} {lo : Nat} {l : List Int} {v : Value} (h : W.ownsRow lo 3 1 v l.length (l.map vI)) (hlo : lo ≤ W.heap.size) (x : Int) (hl : l.length ≤ 1000000) :
    ∃ v' w', (Builtin.append_ #[24, 24] 24 #[v, .slice (some ⟨W.heap.size, 0, none⟩) 1 1]).run Tryz.prog (W.alloc (.cells #[.int .i64 x] 3)) = .ok v' w' ∧ w'.ownsRow lo 3 1 v' (l ++ [x]).length ((l ++ [x]).map vI) ∧ Keep (fun j => v.ownBlock = some j) W w' := by
  obtain ⟨v', w', r1, r2, r3, r4, -⟩ := app_one 24 3 1 8 _ Tryz.underlying24 infoI rfl (by decide) (by decide) W 24 lo v l.length (l.map vI) [.int .i64 x] h rfl (by simp [Value.oneCell']) (by omega) hlo
  refine ⟨v', w', r1, ?_, r3⟩
  rw [List.map_append, List.length_append]
  exact r2
def MeasP (l : List Int) (w : World) (e : Ending) (w' : World) : Prop := ∃ v, e = .returned v ∧ Its w' v l ∧ Keep (fun _ => False) w w'
set_option maxRecDepth 100000 in
set_option maxHeartbeats 1000000 in
theorem meas_any (q : Qy) (v : Value) (l : List R5) (w : World) (h : Rws w v l) (hn9 : l.length ≤ 1000000) (hf : ∀ r ∈ l, r.fine) : Calls Tryz.prog 58 #[qV q, v] w (MeasP (measR q l) w) := by
  have HI := Lib.hid h
  have HF := Lib.hid hf
  obtain ⟨a, c, rfl, hc⟩ := h.form'
  obtain ⟨n, hn⟩ : ∃ n, l.length = n := ⟨_, rfl⟩
  have HL := Lib.hid hn
  rw [hn] at hc hn9 HI ⊢
  have HN := Lib.hid hn9
  have HQ := Lib.hid (QBox.new w q 37)
  have HKQ := Lib.hid (keep_cells w #[.int .i64 q.kd, .int .i64 q.tb, .int .i64 q.cl, .int .i64 q.lo, .int .i64 q.hi, .int .i64 q.bb, .int .i64 q.ot] 37)
  obtain ⟨i0, hi, hz0, hz1, hz2⟩ := info_parts infoI
  have hmk := fun (W : World) => run_makeSlice_owned (P := Tryz.prog) W W.heap.size 24 3 i0 (.int .i64 0) 1 Tryz.underlying24 hi hz0 hz1 .i64 .i64 n (by omega) (by rw [hz2]; omega) (by unfold maxLen; omega) (Nat.le_refl _)
  have HMK := Lib.hid hmk
  clear h hf hn hn9 hi hz0 hz1 hz2 hmk
  obtain ⟨q0, q1, q2, q3, q4, q5, q6⟩ := q
  simp only [] at HQ HKQ
  go_enter Tryz.func58, Tryz.ntmps58
  go_upto_region 1 with (fail)
  generalize w.alloc (.cells #[.int .i64 q0, .int .i64 q1, .int .i64 q2, .int .i64 q3, .int .i64 q4, .int .i64 q5, .int .i64 q6] 37) = W1 at *
  obtain ⟨W2, hrun, hown, hg⟩ := HMK.out W1
  have HOWN := Lib.hid hown
  have HK2 := Lib.hid ((Keep.of_grown hg).mono (B := fun _ => False) (fun _ h => by cases h))
  generalize w.heap.size = zq at *
  clear hown hg
  go_wp2_with fail
  clear hrun
  obtain ⟨LO, hLO⟩ : ∃ z, W1.heap.size = z := ⟨_, rfl⟩
  have HLO : Hid (zq < LO) := Lib.hid (by rw [← hLO]; exact HQ.out.lt)
  rw [hLO] at HOWN ⊢
  have HL1 := Lib.hid hLO
  clear hLO
  obtain ⟨m, hm⟩ : ∃ m : List Int, measR ⟨q0, q1, q2, q3, q4, q5, q6⟩ l = m := ⟨_, rfl⟩
  rw [hm]
  have HM := Lib.hid hm
  have HML : Hid (m.length = n) := Lib.hid (by rw [← hm, measR, List.length_map, HL.out])
  have HMF : Hid (∀ x ∈ m, I64 x) := Lib.hid (fun x hx => by
    rw [← hm, measR, List.mem_map] at hx
    obtain ⟨r, hr, rfl⟩ := hx
    exact val_fine (HF.out r hr) _)
  clear hm
  go_loopg [5, 13] n (fun gh v5 v13 wr => ∃ i : Nat, gh + i = n ∧ v13 = .int .i64 i ∧ wr.ownsRow LO 3 1 v5 (m.take i).length ((m.take i).map vI) ∧ Keep (fun _ => False) W1 wr)
  case atStart => exact ⟨0, by omega, rfl, by simpa using HOWN.out, HK2.out⟩
  case round =>
    obtain ⟨i, hg, rfl, hown, hk⟩ := hrel
    have HOW := Lib.hid hown
    have HK := Lib.hid hk
    have HKW := Lib.hid (HKQ.out.trans hk)
    have HQW := Lib.hid (HQ.out.kept hk)
    have HVN : Hid (∀ b, u5.ownBlock = some b → LO ≤ b) := Lib.hid (fun b hb => (hown.lt b hb).1)
    have hnb := HN.out
    clear hown hk
    by_cases hin : i < n
    · have hinz : (i : Int) < (n : Int) := by omega
      have hi0 : (0 : Int) ≤ (i : Int) := by omega
      obtain ⟨x, hx⟩ : ∃ x, l[i]? = some x := ⟨_, List.getElem?_eq_getElem (by have := HL.out; omega)⟩
      have HX : Hid (m.take (i + 1) = m.take i ++ [x.val q5]) := Lib.hid (by
        rw [List.take_add_one, ← HM.out, measR, List.getElem?_map, hx]; rfl)
      have HTL : Hid ((m.take i).length ≤ 1000000) := Lib.hid (by rw [List.length_take]; omega)
      obtain ⟨b, off, rfl, hcell⟩ := HI.out.at_row hx
      obtain ⟨x0, x1, x2, x3, x4⟩ := x
      have d0 := HKW.out.cell (hcell 0 _ rfl) (fun h => h)
      have d1 := HKW.out.cell (hcell 1 _ rfl) (fun h => h)
      have d2 := HKW.out.cell (hcell 2 _ rfl) (fun h => h)
      have d3 := HKW.out.cell (hcell 3 _ rfl) (fun h => h)
      have d4 := HKW.out.cell (hcell 4 _ rfl) (fun h => h)
      rw [Nat.add_zero] at d0
      clear hx hcell
      go_upto_region 5 with (fail)
      clear d0 d1 d2 d3 d4
      have kb := keep_cells wr (rowC ⟨x0, x1, x2, x3, x4⟩).toArray 67
      have HX5 := Lib.hid (BoxL.new wr (rowC ⟨x0, x1, x2, x3, x4⟩) 67)
      have HQ5 := Lib.hid (HQW.out.kept kb)
      have HK5 := Lib.hid (HK.out.trans kb)
      have HOW5 := Lib.hid (ownsRow_keep HOW.out kb (fun _ _ h => h))
      have e1 : wr.alloc (.cells #[.int .i64 x0, .int .i64 x1, .int .i64 x2, .int .i64 x3, .int .i64 x4] 67) = wr.alloc (.cells (rowC ⟨x0, x1, x2, x3, x4⟩).toArray 67) := rfl
      rw [e1]
      clear e1 kb HOW
      generalize wr.alloc (.cells (rowC ⟨x0, x1, x2, x3, x4⟩).toArray 67) = W5 at *
      generalize wr.heap.size = zx at *
      obtain ⟨-, -, -, -, -, c5, -⟩ := HQ5.out.cells
      simp only [] at c5
      obtain ⟨d0, d1, d2, d3, d4⟩ := HX5.out.row
      simp only [] at d0 d1 d2 d3 d4
      go_wp2_with fail
      clear d0 d1 d2 d3 d4 c5
      with_reducible refine (value_kept ⟨x0, x1, x2, x3, x4⟩ q5 W5).mono ?_
      rintro e W6 ⟨rfl, k6, -⟩
      have HK6 := Lib.hid (HK5.out.trans k6)
      obtain ⟨y, hy⟩ : ∃ y, R5.val ⟨x0, x1, x2, x3, x4⟩ q5 = y := ⟨_, rfl⟩
      rw [hy] at HX ⊢
      have hlo6 : LO ≤ W6.heap.size := by have := HK6.out.size; have := HL1.out; omega
      obtain ⟨v', w7, r1, r2, r3⟩ := app_int (ownsRow_keep HOW5.out k6 (fun _ _ h => h)) hlo6 y HTL.out
      have HOW7 := Lib.hid r2
      have HK7 := Lib.hid (HK6.out.trans' r3 (fun j hj => .inr (by have := HVN.out j hj; have := HL1.out; omega)))
      clear r2 r3 k6 hy hlo6 HOW5
      go_wp2_with (at_builtin; refine wpList_app rfl (.tmp 17) (.tmp 22) 24 rfl rfl rfl r1 ?_)
      clear r1
      go_roundg (gk - 1)
      case rel => exact ⟨i + 1, by omega, by go_num, by rw [HX.out]; exact HOW7.out, HK7.out⟩
      case measure => omega
    · have hinz : ¬ (i : Int) < (n : Int) := by omega
      have HT : Hid (m.take i = m) := Lib.hid (List.take_of_length_le (by have := HML.out; omega))
      go_wp2_with fail
      go_ret
      exact ⟨_, rfl, by rw [HM.out]; exact own_its (by have h1 := HOW.out; rw [HT.out] at h1; exact h1) (by have := HML.out; have := HN.out; omega) HMF.out, HKW.out⟩
end Go.Proofs.YtcnpncndecjahaaGreatDoor

/-
  Apply of the reference's state.
-/
namespace Go.Proofs.YtcnpncndecjahaaGreatDoor
open Go.RowKit Go.Shelf

theorem fit1_some {l : List R5} {c : Chg} (h : fit1 l c = true) : (getR l c.tb c.ky).isSome = c.had := by
  unfold fit1 at h
  cases e : getR l c.tb c.ky with
  | none => rw [e] at h; simpa using h
  | some r => rw [e] at h; simp at h; simp [h.1]
/-- Changes of which each ascends: an earlier one leaves what a later one meets. -/
theorem asc_later : ∀ (cs : List Chg) (t k : Int), ascC t k cs = true → ∀ c ∈ cs, t < c.tb ∨ (c.tb = t ∧ k < c.ky)
  | [], _, _, _, c, hc => by cases hc
  | d :: cs, t, k, h, c, hc => by
    have h0 := h
    unfold ascC at h0
    simp only [Bool.and_eq_true, Bool.not_eq_true', decide_eq_false_iff_not] at h0
    obtain ⟨h1, h2, h3, h4⟩ := h0
    have hd : t < d.tb ∨ (d.tb = t ∧ k < d.ky) := by
      by_cases e : d.tb = t
      · right
        refine ⟨e, ?_⟩
        rw [e] at h3
        simp at h3
        omega
      · left; omega
    rcases List.mem_cons.1 hc with rfl | hc
    · exact hd
    · have := asc_later cs d.tb d.ky h4 c hc
      omega
theorem asc_apart {cs : List Chg} : ∀ {t k : Int}, ascC t k cs = true → ∀ (i j : Nat) (a b : Chg), cs[i]? = some a → cs[j]? = some b → i < j → (b.tb, b.ky) ≠ (a.tb, a.ky) := by
  induction cs with
  | nil => intro t k h i j a b hi; simp at hi
  | cons d cs ih =>
    intro t k h i j a b hi hj hij
    have h4 : ascC d.tb d.ky cs = true := by
      unfold ascC at h
      simp only [Bool.and_eq_true] at h
      exact h.2.2.2
    cases j with
    | zero => omega
    | succ j =>
      cases i with
      | zero =>
        simp only [List.getElem?_cons_zero, Option.some.injEq] at hi
        subst hi
        have := asc_later cs d.tb d.ky h4 b (List.mem_of_getElem? (by simpa using hj))
        intro e
        rw [Prod.mk.injEq] at e
        omega
      | succ i => exact ih h4 i j a b (by simpa using hi) (by simpa using hj) (by omega)
theorem steps_get {cs : List Chg} {t k : Int} (h : ascC t k cs = true) (l : List R5) (j : Nat) (c : Chg) (hj : cs[j]? = some c) : ∀ i, i ≤ j → getR ((cs.take i).foldl stepR l) c.tb c.ky = getR l c.tb c.ky := by
  intro i
  induction i with
  | zero => intro _; rfl
  | succ i ih =>
    intro hij
    obtain ⟨a, ha⟩ : ∃ a, cs[i]? = some a := ⟨_, List.getElem?_eq_getElem (by have := (List.getElem?_eq_some_iff.1 hj).1; omega)⟩
    rw [List.take_add_one, ha, List.foldl_append]
    show getR (stepR ((cs.take i).foldl stepR l) a) c.tb c.ky = _
    rw [getR_step (asc_apart h i j a c ha hj (by omega))]
    exact ih (by omega)
theorem steps_len (cs : List Chg) : ∀ l : List R5, (cs.foldl stepR l).length ≤ l.length + cs.length := by
  induction cs with
  | nil => intro l; simp
  | cons c cs ih =>
    intro l
    have h1 := ih (stepR l c)
    have h2 : (stepR l c).length ≤ l.length + 1 := by
      unfold stepR
      rw [List.length_append]
      have := List.length_filter_le (fun r : R5 => !(decide (r.rid = (c.tb, c.ky)))) l
      split <;> simp <;> omega
    rw [List.foldl_cons, List.length_cons]
    omega
theorem keep_drewN' {A : Nat → Prop} {a w : World} (h : Keep A a w) (k : Nat) : Keep A a (w.drewN k) := ⟨h.os, h.tape, h.output, h.size, h.block⟩
/-- What Apply of the reference leaves. -/
def Ap04P (z : Nat) (v : Value) (l : List R5) (p q : Int) (cs : List Chg) (w : World) (e : Ending) (w' : World) : Prop :=
  ∃ v' l' p', e = .returned (.int .i64 (if fitsB l p q cs then 0 else 40)) ∧ RSt w' z v' l' p' ∧ l'.Perm (if fitsB l p q cs then cs.foldl stepR l else l) ∧ p' = (if fitsB l p q cs then q else p) ∧ Keep (fun i => i = z) w w' ∧ ((v' = v ∧ l' = l) ∨ ∀ b, v'.ownBlock = some b → w.heap.size ≤ b ∧ b < w'.heap.size)
theorem Ap04P.no {z : Nat} {v : Value} {l : List R5} {p q : Int} {cs : List Chg} {w w' : World} (hf : fitsB l p q cs = false) (h : RSt w' z v l p) (k : Keep (fun _ => False) w w') : Ap04P z v l p q cs w (.returned (.int .i64 40)) w' :=
  ⟨v, l, p, by rw [hf]; rfl, h, by rw [hf]; exact List.Perm.refl _, by rw [hf]; rfl, k.mono (fun _ h => h.elim), .inl ⟨rfl, rfl⟩⟩
theorem Ap04P.yes {z : Nat} {v v' : Value} {l l' : List R5} {p q : Int} {cs : List Chg} {w w' : World} (hf : fitsB l p q cs = true) (h : RSt w' z v' l' q) (hp : l'.Perm (cs.foldl stepR l)) (k : Keep (fun i => i = z) w w') (hv : (v' = v ∧ l' = l) ∨ ∀ b, v'.ownBlock = some b → w.heap.size ≤ b ∧ b < w'.heap.size) : Ap04P z v l p q cs w (.returned (.int .i64 0)) w' :=
  ⟨v', l', q, by rw [hf]; rfl, h, by rw [hf]; exact hp, by rw [hf]; rfl, k, hv⟩
set_option maxRecDepth 100000 in
set_option maxHeartbeats 8000000 in
theorem apply04_any (z : Nat) (v vv : Value) (l : List R5) (p q : Int) (cs : List Chg) (w : World) (h : RSt w z v l p) (hc : Chs w vv cs) (hp : 0 ≤ p ∧ p ≤ 10000) (hl : l.length ≤ 100000) (hd : ∀ b, vv.ownBlock = some b → b ≠ z) :
    Calls Tryz.prog 24 #[ptr z, recV q vv] w (Ap04P z v l p q cs w) := by
  have K0 := keep_cells w #[.int .i64 q, vv] 73
  have HB0 := Lib.hid (BoxL.new w [.int .i64 q, vv] 73)
  have HS0 := Lib.hid (h.kept K0)
  have HC0 := Lib.hid (hc.kept K0)
  have HK0 := Lib.hid K0
  have HDD := Lib.hid hd
  have HZN : Hid (w.heap.size ≠ z ∧ ∀ b, v.ownBlock = some b → b ≠ z) := Lib.hid ⟨by have := h.box.lt; omega, h.off⟩
  have HVR := Lib.hid (validRec03_any q vv cs _ HC0.out)
  have HOR : Hid (okRec q cs = true → cs.length ≤ 8 ∧ ascC (-1) 0 cs = true) := Lib.hid (fun h => by
    unfold okRec at h
    rw [wiB_wiR, wiB_wiR] at h
    simp only [Bool.and_eq_true] at h
    refine ⟨?_, h.2.2⟩
    have := h.2.1
    unfold wiR at this
    simp at this
    omega)
  have HO : Hid (fitsB l p q cs = (okRec q cs && (q == p + 1 && (cs.all (fit1 l) && decide (sizeC l.length cs ≤ 2000))))) := Lib.hid rfl
  have hwr : IntKind.i64.wrap (p + 1) = p + 1 := wrapI (by unfold I64; omega)
  generalize okRec q cs = ok at *
  clear h hc K0 hd
  go_enter Tryz.func24, Tryz.ntmps24
  go_upto_region 1 with (fail)
  generalize w.alloc (.cells #[.int .i64 q, vv] 73) = W0 at *
  generalize w.heap.size = zr at *
  have r0 := HB0.out.cell 0 _ rfl
  have r1 := HB0.out.cell 1 _ rfl
  go_wp2_with fail
  clear r0 r1
  with_reducible refine HVR.out.mono ?_
  rintro e W1 ⟨rfl, k⟩
  have HK1 := Lib.hid (HK0.out.trans k)
  have HB1 := Lib.hid (HB0.out.kept k)
  have HS1 := Lib.hid (HS0.out.kept k)
  have HC1 := Lib.hid (HC0.out.kept k)
  clear k HB0 HS0 HC0 HK0 HVR
  obtain ⟨bq, hbq⟩ : ∃ b, (q != p + 1) = b := ⟨_, rfl⟩
  have HBQ : Hid ((q == p + 1) = !bq) := Lib.hid (by rw [← hbq, bne, Bool.not_not])
  rw [HBQ.out] at HO
  cases ok with
  | false =>
    have HF : Hid (fitsB l p q cs = false) := Lib.hid (by rw [HO.out]; rfl)
    go_wp2_with fail
    go_quiet (fail)
    go_wp2_with fail
    go_ret
    exact Ap04P.no HF.out (HS1.out.kept (keep_drewN' (Keep.refl _ W1) nq)) (keep_drewN' HK1.out nq)
  | true =>
    have z0 := HS1.out.box.cell 1 _ rfl
    have r0 := HB1.out.cell 0 _ rfl
    cases bq with
    | true =>
      have HF : Hid (fitsB l p q cs = false) := Lib.hid (by rw [HO.out]; rfl)
      go_wp2_with fail
      go_quiet (fail)
      go_wp2_with fail
      go_ret
      exact Ap04P.no HF.out (HS1.out.kept (keep_drewN' (Keep.refl _ W1) nq)) (keep_drewN' HK1.out nq)
    | false =>
      have HO2 : Hid (fitsB l p q cs = (cs.all (fit1 l) && decide (sizeC l.length cs ≤ 2000))) := Lib.hid HO.out
      clear HO
      have HORR := Lib.hid (HOR.out (by trivial))
      clear HOR
      go_wp2_with fail
      go_quiet (fail)
      clear z0 r0 hbq hwr
      have HK2 := Lib.hid (keep_drewN' HK1.out nq)
      have HB2 := Lib.hid (HB1.out.kept (keep_drewN' (Keep.refl _ W1) nq))
      have HS2 := Lib.hid (HS1.out.kept (keep_drewN' (Keep.refl _ W1) nq))
      have HC2 := Lib.hid (HC1.out.kept (keep_drewN' (Keep.refl _ W1) nq))
      generalize W1.drewN nq = W2 at *
      clear HK1 HB1 HS1 HC1
      obtain ⟨n, hn⟩ : ∃ n, cs.length = n := ⟨_, rfl⟩
      have HN := Lib.hid hn
      have hnb : n ≤ 8 := by rw [← hn]; exact HORR.out.1
      obtain ⟨a, cp, bb, off, hv, hcp, ha, -⟩ := HC2.out.at_
      obtain ⟨ra, rc, hrv, hrc⟩ := HS2.out.rows.form'
      have z0 := HS2.out.box.cell 0 _ rfl
      rw [hrv] at z0
      have r1 := HB2.out.cell 1 _ rfl
      rw [hn] at hv hcp ha
      rw [hv] at r1
      clear hn ha
      go_wp2_with fail
      clear z0
      go_loopg [6, 7] n (fun gh v6 v7 wr => ∃ (k : Nat) (s : Int), gh + k = n ∧ v7 = .int .i64 k ∧ v6 = .int .i64 s ∧ Hid (s = sizeC l.length (cs.take k)) ∧ Hid ((cs.take k).all (fit1 l) = true) ∧ Keep (fun _ => False) W2 wr)
      case atStart => exact ⟨0, _, by omega, rfl, rfl, Lib.hid rfl, Lib.hid rfl, Keep.refl _ _⟩
      case round =>
        obtain ⟨k, s, hk, rfl, rfl, HSZ, HFI, hkw⟩ := hrel
        have HKW := Lib.hid hkw
        clear hkw
        have hs1 : -1000000000 ≤ s ∧ s ≤ 1001000000 := by
          have h1 := sizeC_le (cs.take k) l.length
          rw [← HSZ.out] at h1
          have h2 : (cs.take k).length ≤ n := by rw [List.length_take]; have := HN.out; omega
          omega
        have r1 := (HB2.out.kept HKW.out).cell 1 _ rfl
        rw [hv] at r1
        by_cases hlt : k < n
        · obtain ⟨ch, hch⟩ : ∃ x, cs[k]? = some x := ⟨_, List.getElem?_eq_getElem (by have := HN.out; omega)⟩
          have HCC := HC2.out.kept HKW.out
          rw [hv] at HCC
          obtain ⟨b, off, hab, hcell⟩ := HCC.at_slice hch
          subst hab
          have HTK : Hid (cs.take (k + 1) = cs.take k ++ [ch]) := Lib.hid (by rw [List.take_add_one, hch]; rfl)
          have HMEM := Lib.hid (List.mem_of_getElem? hch)
          have HB5 := Lib.hid (BoxL.new wr (chC ch) 65)
          have HK5 := Lib.hid (HKW.out.alloc (.cells (chC ch).toArray 65))
          have HGT := Lib.hid (get04_any z v l p ch.tb ch.ky _ (HS2.out.kept HK5.out))
          have HFT : Hid (fit1 l ch = match getR l ch.tb ch.ky with | none => !ch.had | some r => ch.had && sameV r ch.old) := Lib.hid rfl
          clear hch
          obtain ⟨tb, ky, had, o0, o1, o2, has, n0, n1, n2⟩ := ch
          have d0 := hcell 0 _ rfl
          have d1 := hcell 1 _ rfl
          have d2 := hcell 2 _ rfl
          have d3 := hcell 3 _ rfl
          have d4 := hcell 4 _ rfl
          have d5 := hcell 5 _ rfl
          have d6 := hcell 6 _ rfl
          have d7 := hcell 7 _ rfl
          have d8 := hcell 8 _ rfl
          have d9 := hcell 9 _ rfl
          rw [Nat.add_zero] at d0
          simp only [] at d0 d1 d2 d3 d4 d5 d6 d7 d8 d9
          clear hcell
          have hkz : (k : Int) < (n : Int) := by omega
          have hk0 : (0 : Int) ≤ (k : Int) := by omega
          have HHV := Lib.hid hv
          have HHR := Lib.hid hrv
          clear hv hrv HCC
          go_upto_region 9 with (fail)
          clear d0 d1 d2 d3 d4 d5 d6 d7 d8 d9 r1
          have e1 : wr.alloc (.cells #[.int .i64 tb, .int .i64 ky, .bool had, .int .i64 o0, .int .i64 o1, .int .i64 o2, .bool has, .int .i64 n0, .int .i64 n1, .int .i64 n2] 65) = wr.alloc (.cells (chC ⟨tb, ky, had, o0, o1, o2, has, n0, n1, n2⟩).toArray 65) := rfl
          rw [e1]
          clear e1
          generalize wr.alloc (.cells (chC ⟨tb, ky, had, o0, o1, o2, has, n0, n1, n2⟩).toArray 65) = W5 at *
          generalize wr.heap.size = zc at *
          obtain ⟨rw, th, hrt⟩ : ∃ (r : R5) (th : Bool), lookV (getR l tb ky) = .tuple #[rowV r, .bool th] ∧ fit1 l ⟨tb, ky, had, o0, o1, o2, has, n0, n1, n2⟩ = (if th then had && sameV r ⟨tb, ky, o0, o1, o2⟩ else !had) := by
            have h1 := HFT.out
            simp only [] at h1
            cases e : getR l tb ky with
            | none => rw [e] at h1; exact ⟨⟨0, 0, 0, 0, 0⟩, false, rfl, h1⟩
            | some r => rw [e] at h1; exact ⟨r, true, rfl, h1⟩
          have HRT := Lib.hid hrt.2
          have l1 := HGT.out
          simp only [] at l1
          rw [hrt.1] at l1
          clear hrt HFT HGT
          have HGT := Lib.hid l1
          clear l1
          obtain ⟨ra, rb, rc', rd, re⟩ := rw
          obtain ⟨c0, c1, -, -, -, -, -, -, -, -⟩ := HB5.out.chg
          simp only [] at c0 c1
          go_wp2_with fail
          clear c0 c1
          with_reducible refine HGT.out.mono ?_
          rintro e W6 ⟨rfl, k6⟩
          have kb := keep_cells W6 (rowC ⟨ra, rb, rc', rd, re⟩).toArray 67
          have HR7 := Lib.hid (BoxL.new W6 (rowC ⟨ra, rb, rc', rd, re⟩) 67)
          have HB7 := Lib.hid ((HB5.out.kept k6).kept kb)
          have HKW8 := Lib.hid ((HK5.out.trans k6).trans kb)
          clear k6 kb HB5 HK5 HGT
          go_upto_region 10 with (fail)
          have e1 : W6.alloc (.cells #[.int .i64 ra, .int .i64 rb, .int .i64 rc', .int .i64 rd, .int .i64 re] 67) = W6.alloc (.cells (rowC ⟨ra, rb, rc', rd, re⟩).toArray 67) := rfl
          rw [e1]
          clear e1
          generalize W6.alloc (.cells (rowC ⟨ra, rb, rc', rd, re⟩).toArray 67) = W7 at *
          generalize W6.heap.size = zx at *
          obtain ⟨v0, v1, v2, v3, v4⟩ := HR7.out.row
          simp only [] at v0 v1 v2 v3 v4
          obtain ⟨c0, c1, c2, c3, c4, c5, c6, c7, c8, c9⟩ := HB7.out.chg
          simp only [] at c0 c1 c2 c3 c4 c5 c6 c7 c8 c9
          have hm := guardV
          have hneq := fun w => neq_v3 rc' rd re o0 o1 o2 w
          have HSV : Hid (sameV ⟨ra, rb, rc', rd, re⟩ ⟨tb, ky, o0, o1, o2⟩ = (rc' == o0 && (rd == o1 && re == o2))) := Lib.hid rfl
          obtain ⟨qq, hqq⟩ : ∃ qq, (rc' == o0 && (rd == o1 && re == o2)) = qq := ⟨_, rfl⟩
          rw [hqq] at HSV
          simp only [hqq] at hneq
          clear hqq
          rw [HSV.out] at HRT
          clear HSV
          have NO : Hid (fit1 l ⟨tb, ky, had, o0, o1, o2, has, n0, n1, n2⟩ = false → Ap04P z v l p q cs w (.returned (.int .i64 40)) W7) := Lib.hid (fun hf => Ap04P.no (by rw [HO2.out, List.all_eq_false.2 ⟨_, HMEM.out, by rw [hf]; simp⟩]; rfl) (HS2.out.kept HKW8.out) (HK2.out.trans HKW8.out))
          cases th <;> cases had
          case false.true =>
            go_wp2_with fail
            go_ret
            exact NO.out (by rw [HRT.out]; rfl)
          case true.false =>
            go_wp2_with fail
            go_ret
            exact NO.out (by rw [HRT.out]; rfl)
          case true.true =>
            cases qq with
            | false =>
              go_wp2_with fail
              go_ret
              exact NO.out (by rw [HRT.out]; rfl)
            | true =>
              cases has
              all_goals
                go_wp2_with fail
                go_roundg (gk - 1)
                case rel => exact ⟨k + 1, _, by omega, by go_num, rfl, Lib.hid (by rw [HTK.out, sizeC_snoc, ← HSZ.out]; simp; try omega), Lib.hid (by rw [HTK.out, List.all_append, HFI.out]; simp [HRT.out]), HKW8.out⟩
                case measure => omega
          case false.false =>
            cases has
            all_goals
              go_wp2_with fail
              go_roundg (gk - 1)
              case rel => exact ⟨k + 1, _, by omega, by go_num, rfl, Lib.hid (by rw [HTK.out, sizeC_snoc, ← HSZ.out]; simp; try omega), Lib.hid (by rw [HTK.out, List.all_append, HFI.out]; simp [HRT.out]), HKW8.out⟩
              case measure => omega
        · have hkn : ¬ (k : Int) < (n : Int) := by omega
          have HF : Hid (cs.all (fit1 l) = true) := Lib.hid (by have h1 := HFI.out; rwa [List.take_of_length_le (by have := HN.out; omega)] at h1)
          have HG : Hid (sizeC l.length cs = s) := Lib.hid (by have h1 := HSZ.out; rw [List.take_of_length_le (by have := HN.out; omega)] at h1; exact h1.symm)
          rw [HF.out, HG.out] at HO2
          have HHV := Lib.hid hv
          have HHR := Lib.hid hrv
          clear hv hrv
          by_cases hbig : s ≤ 2000
          · have HFIT : Hid (fitsB l p q cs = true) := Lib.hid (by rw [HO2.out, decide_eq_true hbig]; rfl)
            go_wp2_with fail
            generalize wr = WL at *
            go_loopg [11] n (fun gh v11 wr2 => ∃ (k2 : Nat) (v2 : Value) (l2 : List R5), gh + k2 = n ∧ v11 = .int .i64 k2 ∧ RSt wr2 z v2 l2 p ∧ l2.Perm ((cs.take k2).foldl stepR l) ∧ Keep (fun i => i = z) WL wr2 ∧ ((v2 = v ∧ l2 = l) ∨ ∀ b, v2.ownBlock = some b → WL.heap.size ≤ b ∧ b < wr2.heap.size))
            case atStart => exact ⟨0, v, l, by omega, rfl, HS2.out.kept HKW.out, List.Perm.refl _, Keep.refl _ _, .inl ⟨rfl, rfl⟩⟩
            case round =>
              obtain ⟨k2, v2, l2, hk2, rfl, hrs, hperm, hkw2, hown2⟩ := hrel
              have HRS := Lib.hid hrs
              have HPM := Lib.hid hperm
              have HK2W := Lib.hid hkw2
              have HOW := Lib.hid hown2
              clear hrs hperm hkw2 hown2
              have HCK := Lib.hid ((HC2.out.kept HKW.out).keep HK2W.out HDD.out)
              have HBK := Lib.hid ((HB2.out.kept HKW.out).keep HK2W.out HZN.out.1)
              have r1 := HBK.out.cell 1 _ rfl
              rw [HHV.out] at r1
              by_cases hlt2 : k2 < n
              · obtain ⟨ch, hch⟩ : ∃ x, cs[k2]? = some x := ⟨_, List.getElem?_eq_getElem (by have := HN.out; omega)⟩
                have HCC := HCK.out
                rw [HHV.out] at HCC
                obtain ⟨b, off, hab, hcell⟩ := HCC.at_slice hch
                subst hab
                have HTK : Hid ((cs.take (k2 + 1)).foldl stepR l = stepR ((cs.take k2).foldl stepR l) ch) := Lib.hid (by rw [List.take_add_one, hch, List.foldl_append]; rfl)
                have HSOME : Hid ((getR l2 ch.tb ch.ky).isSome = ch.had) := Lib.hid (by
                  rw [getR_perm HPM.out HRS.out.asc.nodup, steps_get HORR.out.2 l k2 ch hch k2 (Nat.le_refl _)]
                  exact fit1_some (List.all_eq_true.1 HF.out ch (List.mem_of_getElem? hch)))
                have HLEN : Hid (l2.length ≤ 100008 ∧ (stepR l2 ch).length ≤ 100009) := Lib.hid (by
                  have h1 := HPM.out.length_eq
                  have h2 := steps_len (cs.take k2) l
                  rw [List.length_take] at h2
                  have h3 : (stepR l2 ch).length ≤ l2.length + 1 := by
                    have h9 := steps_len [ch] l2
                    exact h9
                  omega)
                have HB5 := Lib.hid (BoxL.new wr (chC ch) 65)
                have HK5 := Lib.hid (keep_cells wr (chC ch).toArray 65)
                have HS5 := Lib.hid (HRS.out.kept HK5.out)
                have HAF := Lib.hid (halfHas_any ch)
                have HPL := Lib.hid (place_any z v2 l2 p ch.tb ch.ky _ HS5.out)
                unfold PlaceP at HPL
                clear hch
                obtain ⟨tb, ky, had, o0, o1, o2, has, n0, n1, n2⟩ := ch
                have d0 := hcell 0 _ rfl
                have d1 := hcell 1 _ rfl
                have d2 := hcell 2 _ rfl
                have d3 := hcell 3 _ rfl
                have d4 := hcell 4 _ rfl
                have d5 := hcell 5 _ rfl
                have d6 := hcell 6 _ rfl
                have d7 := hcell 7 _ rfl
                have d8 := hcell 8 _ rfl
                have d9 := hcell 9 _ rfl
                rw [Nat.add_zero] at d0
                simp only [] at d0 d1 d2 d3 d4 d5 d6 d7 d8 d9
                clear hcell HCC
                have hkz : (k2 : Int) < (n : Int) := by omega
                have hk0 : (0 : Int) ≤ (k2 : Int) := by omega
                go_upto_region 22 with (fail)
                clear d0 d1 d2 d3 d4 d5 d6 d7 d8 d9 r1
                have e1 : wr.alloc (.cells #[.int .i64 tb, .int .i64 ky, .bool had, .int .i64 o0, .int .i64 o1, .int .i64 o2, .bool has, .int .i64 n0, .int .i64 n1, .int .i64 n2] 65) = wr.alloc (.cells (chC ⟨tb, ky, had, o0, o1, o2, has, n0, n1, n2⟩).toArray 65) := rfl
                rw [e1]
                clear e1
                have HZC : Hid (wr.heap.size ≤ wr.heap.size ∧ z < wr.heap.size) := Lib.hid ⟨Nat.le_refl _, HRS.out.box.lt⟩
                generalize wr.alloc (.cells (chC ⟨tb, ky, had, o0, o1, o2, has, n0, n1, n2⟩).toArray 65) = W5 at *
                generalize wr.heap.size = zc at *
                obtain ⟨c0, c1, -, -, -, -, -, -, -, -⟩ := HB5.out.chg
                simp only [] at c0 c1
                go_wp2_with fail
                clear c0 c1
                with_reducible refine HPL.out.mono ?_
                rintro e W6 ⟨pl, rfl, hpl, rfl⟩
                have HPLC := Lib.hid hpl
                clear hpl HPL
                obtain ⟨vlo, hrlo, hclo, holo⟩ := rwc_lo HS5.out.rwc pl HPLC.out.1
                have HCLO := Lib.hid hclo
                have HOLO := Lib.hid holo
                have HRLO := Lib.hid hrlo
                clear hclo holo hrlo
                have HPIS : Hid ((spliceR l2 pl ⟨tb, ky, had, o0, o1, o2, has, n0, n1, n2⟩).Perm (stepR l2 ⟨tb, ky, had, o0, o1, o2, has, n0, n1, n2⟩)) := Lib.hid (splice_perm HRS.out.asc HPLC.out HSOME.out)
                have HPAS : Hid (AscR (spliceR l2 pl ⟨tb, ky, had, o0, o1, o2, has, n0, n1, n2⟩)) := Lib.hid (splice_asc HRS.out.asc HPLC.out HSOME.out)
                have HPG := Lib.hid (HPLC.out.get HRS.out.asc)
                have hp0 : (0 : Int) ≤ (pl : Int) := by omega
                cases had with
                | true =>
                  have HONE : Hid (1 ≤ (l2.drop pl).length) := Lib.hid (by
                    have h1 := HSOME.out
                    rw [HPG.out] at h1
                    cases e : l2[pl]? with
                    | none => rw [e] at h1; cases h1
                    | some r => have := (List.getElem?_eq_some_iff.1 e).1; rw [List.length_drop]; omega)
                  obtain ⟨vlo1, hrl1, hcl1, hol1⟩ := rwc_lo HCLO.out 1 HONE.out
                  have HCL1 := Lib.hid hcl1
                  have HOL1 := Lib.hid hol1
                  clear hcl1 hol1
                  have hrlo := HRLO.out
                  have z0 := HS5.out.box.cell 0 _ rfl
                  obtain ⟨c0, c1, c2, c3, c4, c5, c6, c7, c8, c9⟩ := HB5.out.chg
                  simp only [] at c0 c1 c2 c3 c4 c5 c6 c7 c8 c9
                  have hrl1' : (Instr.sliceAt 40 vlo (some (.int .i64 1)) none none).run Tryz.prog W5 = .ok vlo1 W5 := hrl1
                  clear hrl1
                  go_wp2_with (first | refine wpList_slice rfl 40 (.tmp 104) (some (.tmp 105)) none rfl hrlo ?_ | refine wpList_slice rfl 40 (.tmp 109) (some (.const (.int .i64 1))) none rfl hrl1' ?_)
                  clear hrl1' hrlo z0 c0 c1 c2 c3 c4 c5 c6 c7 c8 c9
                  with_reducible refine (HAF.out W5).mono ?_
                  rintro e W6 ⟨rfl, k6⟩
                  simp only []
                  cases has with
                  | true =>
                    have HX : Hid (Chg.new ⟨tb, ky, true, o0, o1, o2, true, n0, n1, n2⟩ = ⟨tb, ky, n0, n1, n2⟩) := Lib.hid rfl
                    have HHF : Hid (halfR (Chg.new ⟨tb, ky, true, o0, o1, o2, true, n0, n1, n2⟩) true = ⟨tb, ky, n0, n1, n2⟩) := Lib.hid rfl
                    rw [HHF.out]
                    have kb := keep_cells W6 (rowC ⟨tb, ky, n0, n1, n2⟩).toArray 67
                    have kb2 := keep_cells (W6.alloc (.cells (rowC ⟨tb, ky, n0, n1, n2⟩).toArray 67)) (rowC ⟨tb, ky, n0, n1, n2⟩).toArray 67
                    have HBN := Lib.hid (BoxL.new W6 (rowC ⟨tb, ky, n0, n1, n2⟩) 67)
                    have HMID : Hid (Rwc ((W6.alloc (.cells (rowC ⟨tb, ky, n0, n1, n2⟩).toArray 67)).alloc (.cells (rowC ⟨tb, ky, n0, n1, n2⟩).toArray 67)) (.slice (some ⟨W6.heap.size + 1, 0, none⟩) 1 1) [⟨tb, ky, n0, n1, n2⟩]) := Lib.hid (.inr ⟨W6.heap.size + 1, 0, 1, rfl, by simp, fun i r hi j x hj => by
                      have hb9 := BoxL.new (W6.alloc (.cells (rowC ⟨tb, ky, n0, n1, n2⟩).toArray 67)) (rowC ⟨tb, ky, n0, n1, n2⟩) 67
                      rw [World.size_alloc] at hb9
                      rcases i with _ | i
                      · simp only [List.getElem?_cons_zero, Option.some.injEq] at hi
                        subst hi
                        have e : 0 + 0 * 5 + j = j := by omega
                        rw [e]
                        exact hb9.cell j x hj
                      · simp at hi⟩)
                    have HK7 := Lib.hid ((k6.trans kb).trans kb2)
                    clear kb kb2 k6
                    go_upto_region 29 with (fail)
                    have e1 : W6.alloc (.cells #[.int .i64 tb, .int .i64 ky, .int .i64 n0, .int .i64 n1, .int .i64 n2] 67) = W6.alloc (.cells (rowC ⟨tb, ky, n0, n1, n2⟩).toArray 67) := rfl
                    rw [e1]
                    clear e1
                    obtain ⟨v0, v1, v2', v3, v4⟩ := HBN.out.row
                    simp only [] at v0 v1 v2' v3 v4
                    go_upto_region 30 with (fail)
                    clear v0 v1 v2' v3 v4
                    have e1 : (W6.alloc (.cells (rowC ⟨tb, ky, n0, n1, n2⟩).toArray 67)).alloc (.cells #[.int .i64 tb, .int .i64 ky, .int .i64 n0, .int .i64 n1, .int .i64 n2] 67) = (W6.alloc (.cells (rowC ⟨tb, ky, n0, n1, n2⟩).toArray 67)).alloc (.cells (rowC ⟨tb, ky, n0, n1, n2⟩).toArray 67) := rfl
                    rw [e1]
                    clear e1
                    generalize (W6.alloc (.cells (rowC ⟨tb, ky, n0, n1, n2⟩).toArray 67)).alloc (.cells (rowC ⟨tb, ky, n0, n1, n2⟩).toArray 67) = W8 at *
                    generalize W6.heap.size + 1 = zm at *
                    have HS8 := Lib.hid (HS5.out.kept HK7.out)
                    obtain ⟨vhi, hrhi, hchi, hohi⟩ := rwc_hi (W := W8) HS8.out.rwc pl HPLC.out.1
                    have HLO8 := Lib.hid (HCL1.out.keep HK7.out (fun _ _ h => h))
                    obtain ⟨u1, X1, ra1, ro1, rk1⟩ := app_rows W8 40 W8.heap.size (.slice none 0 0) vhi [] (l2.take pl) (by simpa [flatR] using World.ownsRow_nil W8 W8.heap.size 67 5) hchi (by have := HLEN.out; rw [List.length_take]; simp; omega) (Nat.le_refl _)
                    have HX1 := Lib.hid (Keep.mono (B := fun _ => False) rk1 (fun _ h => by cases h))
                    obtain ⟨u2, X2, ra2, ro2, rk2⟩ := app_rows X1 40 W8.heap.size u1 _ ([] ++ l2.take pl) [⟨tb, ky, n0, n1, n2⟩] ro1 (HMID.out.keep HX1.out (fun _ _ h => h)) (by have := HLEN.out; simp only [List.length_append, List.length_take, List.length_cons, List.length_nil]; omega) HX1.out.size
                    have HX2 := Lib.hid (HX1.out.trans' rk2 (fun i hi => .inr (ro1.lt i hi).1))
                    obtain ⟨u3, X3, ra3, ro3, rk3⟩ := app_rows X2 40 W8.heap.size u2 vlo1 (([] ++ l2.take pl) ++ [⟨tb, ky, n0, n1, n2⟩]) ((l2.drop pl).drop 1) ro2 (HLO8.out.keep HX2.out (fun _ _ h => h)) (by have := HLEN.out; simp only [List.length_append, List.length_take, List.length_drop, List.length_cons, List.length_nil]; omega) HX2.out.size
                    have HX3 := Lib.hid (HX2.out.trans' rk3 (fun i hi => .inr (ro2.lt i hi).1))
                    have HSPL : Hid ((([] ++ l2.take pl) ++ [⟨tb, ky, n0, n1, n2⟩]) ++ ((l2.drop pl).drop 1) = spliceR l2 pl ⟨tb, ky, true, o0, o1, o2, true, n0, n1, n2⟩) := Lib.hid (by unfold spliceR; simp [Chg.new, List.drop_drop])
                    rw [HSPL.out] at ro3
                    have HO3 := Lib.hid ro3
                    obtain ⟨a3, c3', hu3⟩ := own_form ro3
                    generalize (spliceR l2 pl ⟨tb, ky, true, o0, o1, o2, true, n0, n1, n2⟩).length = len3 at hu3
                    subst hu3
                    have HS3 := Lib.hid (HS8.out.kept HX3.out)
                    have HZ3 := Lib.hid (HS8.out.box.lt)
                    have z8 := HS8.out.box.cell 0 _ rfl
                    have z3 := HS3.out.box.cell 0 _ rfl
                    have zf := HS3.out.box.soft
                    clear hchi hohi ro1 ro2 ro3 rk1 rk2 rk3
                    go_wp2_with (first | refine wpList_slice rfl 40 (.tmp 123) none (some (.tmp 124)) rfl hrhi ?_ | (at_builtin; first | refine wpList_app rfl (.tmp 119) (.tmp 125) 40 rfl rfl rfl ra1 ?_ | refine wpList_app rfl (.tmp 126) (.tmp 127) 40 rfl rfl rfl ra2 ?_ | refine wpList_app rfl (.tmp 128) (.tmp 129) 40 rfl rfl rfl ra3 ?_))
                    clear z8 z3 zf ra1 ra2 ra3 hrhi
                    have HFIN : Hid (RSt (X3.setCell ⟨z, 0, none⟩ (.slice a3 len3 c3')) z (.slice a3 len3 c3') (spliceR l2 pl ⟨tb, ky, true, o0, o1, o2, true, n0, n1, n2⟩) p) := Lib.hid (by
                      have ow := rwc_own HO3.out
                      refine ⟨HS3.out.box.set 0 (by simp) _, ow.1.keep (A := fun i => i = z) ((Keep.refl (fun i => i = z) X3).setCell (p := ⟨z, 0, none⟩) _ (.inl rfl)) (fun b hb e => ?_), HPAS.out, fun b hb => ?_, ?_⟩
                      · have := ow.2 b hb; have := HZ3.out; omega
                      · have := ow.2 b hb; have := HZ3.out; omega
                      · have h1 := HPIS.out.length_eq; have := HLEN.out; omega)
                    have HKF : Hid (Keep (fun i => i = z) WL (X3.setCell ⟨z, 0, none⟩ (.slice a3 len3 c3'))) := Lib.hid ((HK2W.out.trans (((HK5.out.trans HK7.out).trans HX3.out).mono (fun _ h => h.elim))).setCell (p := ⟨z, 0, none⟩) _ (.inl rfl))
                    have HOF : Hid (∀ b, (Value.slice a3 len3 c3').ownBlock = some b → WL.heap.size ≤ b ∧ b < (X3.setCell ⟨z, 0, none⟩ (.slice a3 len3 c3')).heap.size) := Lib.hid (fun b hb => (by
                      have h9 := (HO3.out.lt b hb).2
                      have h8 := ((Keep.refl (fun i => i = z) X3).setCell (p := ⟨z, 0, none⟩) (.slice a3 len3 c3') (.inl rfl)).size
                      have h1 := (rwc_own HO3.out).2 b hb
                      have h2 := HK2W.out.size
                      have h3 := HK5.out.size
                      have h4 := HK7.out.size
                      omega))
                    generalize X3.setCell ⟨z, 0, none⟩ (.slice a3 len3 c3') = WF at *
                    go_roundg (gk - 1)
                    case rel => exact ⟨k2 + 1, _, _, by omega, by go_num, HFIN.out, by rw [HTK.out]; exact HPIS.out.trans (stepR_perm HPM.out _), HKF.out, .inr HOF.out⟩
                    case measure => omega
                  | false =>
                    have HHF : Hid (halfR (Chg.new ⟨tb, ky, true, o0, o1, o2, false, n0, n1, n2⟩) false = ⟨0, 0, 0, 0, 0⟩) := Lib.hid rfl
                    rw [HHF.out]
                    have kb := keep_cells W6 (rowC ⟨0, 0, 0, 0, 0⟩).toArray 67
                    have HK7 := Lib.hid (k6.trans kb)
                    clear kb k6
                    go_upto_region 30 with (fail)
                    have e1 : W6.alloc (.cells #[.int .i64 0, .int .i64 0, .int .i64 0, .int .i64 0, .int .i64 0] 67) = W6.alloc (.cells (rowC ⟨0, 0, 0, 0, 0⟩).toArray 67) := rfl
                    rw [e1]
                    clear e1
                    generalize W6.alloc (.cells (rowC ⟨0, 0, 0, 0, 0⟩).toArray 67) = W8 at *
                    have HMID : Hid (Rwc W8 (.slice none 0 0) []) := Lib.hid (.inl ⟨rfl, rfl⟩)
                    have HS8 := Lib.hid (HS5.out.kept HK7.out)
                    obtain ⟨vhi, hrhi, hchi, hohi⟩ := rwc_hi (W := W8) HS8.out.rwc pl HPLC.out.1
                    have HLO8 := Lib.hid (HCL1.out.keep HK7.out (fun _ _ h => h))
                    obtain ⟨u1, X1, ra1, ro1, rk1⟩ := app_rows W8 40 W8.heap.size (.slice none 0 0) vhi [] (l2.take pl) (by simpa [flatR] using World.ownsRow_nil W8 W8.heap.size 67 5) hchi (by have := HLEN.out; rw [List.length_take]; simp; omega) (Nat.le_refl _)
                    have HX1 := Lib.hid (Keep.mono (B := fun _ => False) rk1 (fun _ h => by cases h))
                    obtain ⟨u2, X2, ra2, ro2, rk2⟩ := app_rows X1 40 W8.heap.size u1 _ ([] ++ l2.take pl) [] ro1 (HMID.out.keep HX1.out (fun _ _ h => h)) (by have := HLEN.out; simp only [List.length_append, List.length_take, List.length_nil]; omega) HX1.out.size
                    have HX2 := Lib.hid (HX1.out.trans' rk2 (fun i hi => .inr (ro1.lt i hi).1))
                    obtain ⟨u3, X3, ra3, ro3, rk3⟩ := app_rows X2 40 W8.heap.size u2 vlo1 (([] ++ l2.take pl) ++ []) ((l2.drop pl).drop 1) ro2 (HLO8.out.keep HX2.out (fun _ _ h => h)) (by have := HLEN.out; simp only [List.length_append, List.length_take, List.length_drop, List.length_nil]; omega) HX2.out.size
                    have HX3 := Lib.hid (HX2.out.trans' rk3 (fun i hi => .inr (ro2.lt i hi).1))
                    have HSPL : Hid ((([] ++ l2.take pl) ++ []) ++ ((l2.drop pl).drop 1) = spliceR l2 pl ⟨tb, ky, true, o0, o1, o2, false, n0, n1, n2⟩) := Lib.hid (by unfold spliceR; simp [List.drop_drop])
                    rw [HSPL.out] at ro3
                    have HO3 := Lib.hid ro3
                    obtain ⟨a3, c3', hu3⟩ := own_form ro3
                    generalize (spliceR l2 pl ⟨tb, ky, true, o0, o1, o2, false, n0, n1, n2⟩).length = len3 at hu3
                    subst hu3
                    have HS3 := Lib.hid (HS8.out.kept HX3.out)
                    have HZ3 := Lib.hid (HS8.out.box.lt)
                    have z8 := HS8.out.box.cell 0 _ rfl
                    have z3 := HS3.out.box.cell 0 _ rfl
                    have zf := HS3.out.box.soft
                    clear hchi hohi ro1 ro2 ro3 rk1 rk2 rk3
                    go_wp2_with (first | refine wpList_slice rfl 40 (.tmp 123) none (some (.tmp 124)) rfl hrhi ?_ | (at_builtin; first | refine wpList_app rfl (.tmp 119) (.tmp 125) 40 rfl rfl rfl ra1 ?_ | refine wpList_app rfl (.tmp 126) (.tmp 127) 40 rfl rfl rfl ra2 ?_ | refine wpList_app rfl (.tmp 128) (.tmp 129) 40 rfl rfl rfl ra3 ?_))
                    clear z8 z3 zf ra1 ra2 ra3 hrhi
                    have HFIN : Hid (RSt (X3.setCell ⟨z, 0, none⟩ (.slice a3 len3 c3')) z (.slice a3 len3 c3') (spliceR l2 pl ⟨tb, ky, true, o0, o1, o2, false, n0, n1, n2⟩) p) := Lib.hid (by
                      have ow := rwc_own HO3.out
                      refine ⟨HS3.out.box.set 0 (by simp) _, ow.1.keep (A := fun i => i = z) ((Keep.refl (fun i => i = z) X3).setCell (p := ⟨z, 0, none⟩) _ (.inl rfl)) (fun b hb e => ?_), HPAS.out, fun b hb => ?_, ?_⟩
                      · have := ow.2 b hb; have := HZ3.out; omega
                      · have := ow.2 b hb; have := HZ3.out; omega
                      · have h1 := HPIS.out.length_eq; have := HLEN.out; omega)
                    have HKF : Hid (Keep (fun i => i = z) WL (X3.setCell ⟨z, 0, none⟩ (.slice a3 len3 c3'))) := Lib.hid ((HK2W.out.trans (((HK5.out.trans HK7.out).trans HX3.out).mono (fun _ h => h.elim))).setCell (p := ⟨z, 0, none⟩) _ (.inl rfl))
                    have HOF : Hid (∀ b, (Value.slice a3 len3 c3').ownBlock = some b → WL.heap.size ≤ b ∧ b < (X3.setCell ⟨z, 0, none⟩ (.slice a3 len3 c3')).heap.size) := Lib.hid (fun b hb => (by
                      have h9 := (HO3.out.lt b hb).2
                      have h8 := ((Keep.refl (fun i => i = z) X3).setCell (p := ⟨z, 0, none⟩) (.slice a3 len3 c3') (.inl rfl)).size
                      have h1 := (rwc_own HO3.out).2 b hb
                      have h2 := HK2W.out.size
                      have h3 := HK5.out.size
                      have h4 := HK7.out.size
                      omega))
                    generalize X3.setCell ⟨z, 0, none⟩ (.slice a3 len3 c3') = WF at *
                    go_roundg (gk - 1)
                    case rel => exact ⟨k2 + 1, _, _, by omega, by go_num, HFIN.out, by rw [HTK.out]; exact HPIS.out.trans (stepR_perm HPM.out _), HKF.out, .inr HOF.out⟩
                    case measure => omega
                | false =>
                  have hrlo := HRLO.out
                  have z0 := HS5.out.box.cell 0 _ rfl
                  obtain ⟨c0, c1, c2, c3, c4, c5, c6, c7, c8, c9⟩ := HB5.out.chg
                  simp only [] at c0 c1 c2 c3 c4 c5 c6 c7 c8 c9
                  go_wp2_with (refine wpList_slice rfl 40 (.tmp 104) (some (.tmp 105)) none rfl hrlo ?_)
                  clear hrlo z0 c0 c1 c2 c3 c4 c5 c6 c7 c8 c9
                  with_reducible refine (HAF.out W5).mono ?_
                  rintro e W6 ⟨rfl, k6⟩
                  simp only []
                  cases has with
                  | true =>
                    have HX : Hid (Chg.new ⟨tb, ky, false, o0, o1, o2, true, n0, n1, n2⟩ = ⟨tb, ky, n0, n1, n2⟩) := Lib.hid rfl
                    have HHF : Hid (halfR (Chg.new ⟨tb, ky, false, o0, o1, o2, true, n0, n1, n2⟩) true = ⟨tb, ky, n0, n1, n2⟩) := Lib.hid rfl
                    rw [HHF.out]
                    have kb := keep_cells W6 (rowC ⟨tb, ky, n0, n1, n2⟩).toArray 67
                    have kb2 := keep_cells (W6.alloc (.cells (rowC ⟨tb, ky, n0, n1, n2⟩).toArray 67)) (rowC ⟨tb, ky, n0, n1, n2⟩).toArray 67
                    have HBN := Lib.hid (BoxL.new W6 (rowC ⟨tb, ky, n0, n1, n2⟩) 67)
                    have HMID : Hid (Rwc ((W6.alloc (.cells (rowC ⟨tb, ky, n0, n1, n2⟩).toArray 67)).alloc (.cells (rowC ⟨tb, ky, n0, n1, n2⟩).toArray 67)) (.slice (some ⟨W6.heap.size + 1, 0, none⟩) 1 1) [⟨tb, ky, n0, n1, n2⟩]) := Lib.hid (.inr ⟨W6.heap.size + 1, 0, 1, rfl, by simp, fun i r hi j x hj => by
                      have hb9 := BoxL.new (W6.alloc (.cells (rowC ⟨tb, ky, n0, n1, n2⟩).toArray 67)) (rowC ⟨tb, ky, n0, n1, n2⟩) 67
                      rw [World.size_alloc] at hb9
                      rcases i with _ | i
                      · simp only [List.getElem?_cons_zero, Option.some.injEq] at hi
                        subst hi
                        have e : 0 + 0 * 5 + j = j := by omega
                        rw [e]
                        exact hb9.cell j x hj
                      · simp at hi⟩)
                    have HK7 := Lib.hid ((k6.trans kb).trans kb2)
                    clear kb kb2 k6
                    go_upto_region 29 with (fail)
                    have e1 : W6.alloc (.cells #[.int .i64 tb, .int .i64 ky, .int .i64 n0, .int .i64 n1, .int .i64 n2] 67) = W6.alloc (.cells (rowC ⟨tb, ky, n0, n1, n2⟩).toArray 67) := rfl
                    rw [e1]
                    clear e1
                    obtain ⟨v0, v1, v2', v3, v4⟩ := HBN.out.row
                    simp only [] at v0 v1 v2' v3 v4
                    go_upto_region 30 with (fail)
                    clear v0 v1 v2' v3 v4
                    have e1 : (W6.alloc (.cells (rowC ⟨tb, ky, n0, n1, n2⟩).toArray 67)).alloc (.cells #[.int .i64 tb, .int .i64 ky, .int .i64 n0, .int .i64 n1, .int .i64 n2] 67) = (W6.alloc (.cells (rowC ⟨tb, ky, n0, n1, n2⟩).toArray 67)).alloc (.cells (rowC ⟨tb, ky, n0, n1, n2⟩).toArray 67) := rfl
                    rw [e1]
                    clear e1
                    generalize (W6.alloc (.cells (rowC ⟨tb, ky, n0, n1, n2⟩).toArray 67)).alloc (.cells (rowC ⟨tb, ky, n0, n1, n2⟩).toArray 67) = W8 at *
                    generalize W6.heap.size + 1 = zm at *
                    have HS8 := Lib.hid (HS5.out.kept HK7.out)
                    obtain ⟨vhi, hrhi, hchi, hohi⟩ := rwc_hi (W := W8) HS8.out.rwc pl HPLC.out.1
                    have HLO8 := Lib.hid (HCLO.out.keep HK7.out (fun _ _ h => h))
                    obtain ⟨u1, X1, ra1, ro1, rk1⟩ := app_rows W8 40 W8.heap.size (.slice none 0 0) vhi [] (l2.take pl) (by simpa [flatR] using World.ownsRow_nil W8 W8.heap.size 67 5) hchi (by have := HLEN.out; rw [List.length_take]; simp; omega) (Nat.le_refl _)
                    have HX1 := Lib.hid (Keep.mono (B := fun _ => False) rk1 (fun _ h => by cases h))
                    obtain ⟨u2, X2, ra2, ro2, rk2⟩ := app_rows X1 40 W8.heap.size u1 _ ([] ++ l2.take pl) [⟨tb, ky, n0, n1, n2⟩] ro1 (HMID.out.keep HX1.out (fun _ _ h => h)) (by have := HLEN.out; simp only [List.length_append, List.length_take, List.length_cons, List.length_nil]; omega) HX1.out.size
                    have HX2 := Lib.hid (HX1.out.trans' rk2 (fun i hi => .inr (ro1.lt i hi).1))
                    obtain ⟨u3, X3, ra3, ro3, rk3⟩ := app_rows X2 40 W8.heap.size u2 vlo (([] ++ l2.take pl) ++ [⟨tb, ky, n0, n1, n2⟩]) (l2.drop pl) ro2 (HLO8.out.keep HX2.out (fun _ _ h => h)) (by have := HLEN.out; simp only [List.length_append, List.length_take, List.length_drop, List.length_cons, List.length_nil]; omega) HX2.out.size
                    have HX3 := Lib.hid (HX2.out.trans' rk3 (fun i hi => .inr (ro2.lt i hi).1))
                    have HSPL : Hid ((([] ++ l2.take pl) ++ [⟨tb, ky, n0, n1, n2⟩]) ++ (l2.drop pl) = spliceR l2 pl ⟨tb, ky, false, o0, o1, o2, true, n0, n1, n2⟩) := Lib.hid (by unfold spliceR; simp [Chg.new])
                    rw [HSPL.out] at ro3
                    have HO3 := Lib.hid ro3
                    obtain ⟨a3, c3', hu3⟩ := own_form ro3
                    generalize (spliceR l2 pl ⟨tb, ky, false, o0, o1, o2, true, n0, n1, n2⟩).length = len3 at hu3
                    subst hu3
                    have HS3 := Lib.hid (HS8.out.kept HX3.out)
                    have HZ3 := Lib.hid (HS8.out.box.lt)
                    have z8 := HS8.out.box.cell 0 _ rfl
                    have z3 := HS3.out.box.cell 0 _ rfl
                    have zf := HS3.out.box.soft
                    clear hchi hohi ro1 ro2 ro3 rk1 rk2 rk3
                    go_wp2_with (first | refine wpList_slice rfl 40 (.tmp 123) none (some (.tmp 124)) rfl hrhi ?_ | (at_builtin; first | refine wpList_app rfl (.tmp 119) (.tmp 125) 40 rfl rfl rfl ra1 ?_ | refine wpList_app rfl (.tmp 126) (.tmp 127) 40 rfl rfl rfl ra2 ?_ | refine wpList_app rfl (.tmp 128) (.tmp 129) 40 rfl rfl rfl ra3 ?_))
                    clear z8 z3 zf ra1 ra2 ra3 hrhi
                    have HFIN : Hid (RSt (X3.setCell ⟨z, 0, none⟩ (.slice a3 len3 c3')) z (.slice a3 len3 c3') (spliceR l2 pl ⟨tb, ky, false, o0, o1, o2, true, n0, n1, n2⟩) p) := Lib.hid (by
                      have ow := rwc_own HO3.out
                      refine ⟨HS3.out.box.set 0 (by simp) _, ow.1.keep (A := fun i => i = z) ((Keep.refl (fun i => i = z) X3).setCell (p := ⟨z, 0, none⟩) _ (.inl rfl)) (fun b hb e => ?_), HPAS.out, fun b hb => ?_, ?_⟩
                      · have := ow.2 b hb; have := HZ3.out; omega
                      · have := ow.2 b hb; have := HZ3.out; omega
                      · have h1 := HPIS.out.length_eq; have := HLEN.out; omega)
                    have HKF : Hid (Keep (fun i => i = z) WL (X3.setCell ⟨z, 0, none⟩ (.slice a3 len3 c3'))) := Lib.hid ((HK2W.out.trans (((HK5.out.trans HK7.out).trans HX3.out).mono (fun _ h => h.elim))).setCell (p := ⟨z, 0, none⟩) _ (.inl rfl))
                    have HOF : Hid (∀ b, (Value.slice a3 len3 c3').ownBlock = some b → WL.heap.size ≤ b ∧ b < (X3.setCell ⟨z, 0, none⟩ (.slice a3 len3 c3')).heap.size) := Lib.hid (fun b hb => (by
                      have h9 := (HO3.out.lt b hb).2
                      have h8 := ((Keep.refl (fun i => i = z) X3).setCell (p := ⟨z, 0, none⟩) (.slice a3 len3 c3') (.inl rfl)).size
                      have h1 := (rwc_own HO3.out).2 b hb
                      have h2 := HK2W.out.size
                      have h3 := HK5.out.size
                      have h4 := HK7.out.size
                      omega))
                    generalize X3.setCell ⟨z, 0, none⟩ (.slice a3 len3 c3') = WF at *
                    go_roundg (gk - 1)
                    case rel => exact ⟨k2 + 1, _, _, by omega, by go_num, HFIN.out, by rw [HTK.out]; exact HPIS.out.trans (stepR_perm HPM.out _), HKF.out, .inr HOF.out⟩
                    case measure => omega
                  | false =>
                    have HHF : Hid (halfR (Chg.new ⟨tb, ky, false, o0, o1, o2, false, n0, n1, n2⟩) false = ⟨0, 0, 0, 0, 0⟩) := Lib.hid rfl
                    rw [HHF.out]
                    have kb := keep_cells W6 (rowC ⟨0, 0, 0, 0, 0⟩).toArray 67
                    have HK7 := Lib.hid (k6.trans kb)
                    clear kb k6
                    go_upto_region 30 with (fail)
                    have e1 : W6.alloc (.cells #[.int .i64 0, .int .i64 0, .int .i64 0, .int .i64 0, .int .i64 0] 67) = W6.alloc (.cells (rowC ⟨0, 0, 0, 0, 0⟩).toArray 67) := rfl
                    rw [e1]
                    clear e1
                    generalize W6.alloc (.cells (rowC ⟨0, 0, 0, 0, 0⟩).toArray 67) = W8 at *
                    have HMID : Hid (Rwc W8 (.slice none 0 0) []) := Lib.hid (.inl ⟨rfl, rfl⟩)
                    have HS8 := Lib.hid (HS5.out.kept HK7.out)
                    obtain ⟨vhi, hrhi, hchi, hohi⟩ := rwc_hi (W := W8) HS8.out.rwc pl HPLC.out.1
                    have HLO8 := Lib.hid (HCLO.out.keep HK7.out (fun _ _ h => h))
                    obtain ⟨u1, X1, ra1, ro1, rk1⟩ := app_rows W8 40 W8.heap.size (.slice none 0 0) vhi [] (l2.take pl) (by simpa [flatR] using World.ownsRow_nil W8 W8.heap.size 67 5) hchi (by have := HLEN.out; rw [List.length_take]; simp; omega) (Nat.le_refl _)
                    have HX1 := Lib.hid (Keep.mono (B := fun _ => False) rk1 (fun _ h => by cases h))
                    obtain ⟨u2, X2, ra2, ro2, rk2⟩ := app_rows X1 40 W8.heap.size u1 _ ([] ++ l2.take pl) [] ro1 (HMID.out.keep HX1.out (fun _ _ h => h)) (by have := HLEN.out; simp only [List.length_append, List.length_take, List.length_nil]; omega) HX1.out.size
                    have HX2 := Lib.hid (HX1.out.trans' rk2 (fun i hi => .inr (ro1.lt i hi).1))
                    obtain ⟨u3, X3, ra3, ro3, rk3⟩ := app_rows X2 40 W8.heap.size u2 vlo (([] ++ l2.take pl) ++ []) (l2.drop pl) ro2 (HLO8.out.keep HX2.out (fun _ _ h => h)) (by have := HLEN.out; simp only [List.length_append, List.length_take, List.length_drop, List.length_nil]; omega) HX2.out.size
                    have HX3 := Lib.hid (HX2.out.trans' rk3 (fun i hi => .inr (ro2.lt i hi).1))
                    have HSPL : Hid ((([] ++ l2.take pl) ++ []) ++ (l2.drop pl) = spliceR l2 pl ⟨tb, ky, false, o0, o1, o2, false, n0, n1, n2⟩) := Lib.hid (by unfold spliceR; simp)
                    rw [HSPL.out] at ro3
                    have HO3 := Lib.hid ro3
                    obtain ⟨a3, c3', hu3⟩ := own_form ro3
                    generalize (spliceR l2 pl ⟨tb, ky, false, o0, o1, o2, false, n0, n1, n2⟩).length = len3 at hu3
                    subst hu3
                    have HS3 := Lib.hid (HS8.out.kept HX3.out)
                    have HZ3 := Lib.hid (HS8.out.box.lt)
                    have z8 := HS8.out.box.cell 0 _ rfl
                    have z3 := HS3.out.box.cell 0 _ rfl
                    have zf := HS3.out.box.soft
                    clear hchi hohi ro1 ro2 ro3 rk1 rk2 rk3
                    go_wp2_with (first | refine wpList_slice rfl 40 (.tmp 123) none (some (.tmp 124)) rfl hrhi ?_ | (at_builtin; first | refine wpList_app rfl (.tmp 119) (.tmp 125) 40 rfl rfl rfl ra1 ?_ | refine wpList_app rfl (.tmp 126) (.tmp 127) 40 rfl rfl rfl ra2 ?_ | refine wpList_app rfl (.tmp 128) (.tmp 129) 40 rfl rfl rfl ra3 ?_))
                    clear z8 z3 zf ra1 ra2 ra3 hrhi
                    have HFIN : Hid (RSt (X3.setCell ⟨z, 0, none⟩ (.slice a3 len3 c3')) z (.slice a3 len3 c3') (spliceR l2 pl ⟨tb, ky, false, o0, o1, o2, false, n0, n1, n2⟩) p) := Lib.hid (by
                      have ow := rwc_own HO3.out
                      refine ⟨HS3.out.box.set 0 (by simp) _, ow.1.keep (A := fun i => i = z) ((Keep.refl (fun i => i = z) X3).setCell (p := ⟨z, 0, none⟩) _ (.inl rfl)) (fun b hb e => ?_), HPAS.out, fun b hb => ?_, ?_⟩
                      · have := ow.2 b hb; have := HZ3.out; omega
                      · have := ow.2 b hb; have := HZ3.out; omega
                      · have h1 := HPIS.out.length_eq; have := HLEN.out; omega)
                    have HKF : Hid (Keep (fun i => i = z) WL (X3.setCell ⟨z, 0, none⟩ (.slice a3 len3 c3'))) := Lib.hid ((HK2W.out.trans (((HK5.out.trans HK7.out).trans HX3.out).mono (fun _ h => h.elim))).setCell (p := ⟨z, 0, none⟩) _ (.inl rfl))
                    have HOF : Hid (∀ b, (Value.slice a3 len3 c3').ownBlock = some b → WL.heap.size ≤ b ∧ b < (X3.setCell ⟨z, 0, none⟩ (.slice a3 len3 c3')).heap.size) := Lib.hid (fun b hb => (by
                      have h9 := (HO3.out.lt b hb).2
                      have h8 := ((Keep.refl (fun i => i = z) X3).setCell (p := ⟨z, 0, none⟩) (.slice a3 len3 c3') (.inl rfl)).size
                      have h1 := (rwc_own HO3.out).2 b hb
                      have h2 := HK2W.out.size
                      have h3 := HK5.out.size
                      have h4 := HK7.out.size
                      omega))
                    generalize X3.setCell ⟨z, 0, none⟩ (.slice a3 len3 c3') = WF at *
                    go_roundg (gk - 1)
                    case rel => exact ⟨k2 + 1, _, _, by omega, by go_num, HFIN.out, by rw [HTK.out]; exact HPIS.out.trans (stepR_perm HPM.out _), HKF.out, .inr HOF.out⟩
                    case measure => omega
              · have hkz : ¬ (k2 : Int) < (n : Int) := by omega
                have HPF : Hid (l2.Perm (cs.foldl stepR l)) := Lib.hid (by have h1 := HPM.out; rwa [List.take_of_length_le (by have := HN.out; omega)] at h1)
                have r0 := HBK.out.cell 0 _ rfl
                have z1 := HRS.out.box.cell 1 _ rfl
                have zf := HRS.out.box.soft
                go_wp2_with fail
                go_ret
                exact Ap04P.yes HFIT.out ⟨HRS.out.box.set 1 (by simp) _, HRS.out.rwc.keep (A := fun i => i = z) ((Keep.refl (fun i => i = z) wr).setCell (p := ⟨z, 1, none⟩) _ (.inl rfl)) (fun b hb e => HRS.out.off b hb e), HRS.out.asc, HRS.out.off, HRS.out.len⟩ HPF.out (((HK2.out.trans HKW.out).mono (fun _ h => h.elim)).trans (HK2W.out.setCell (p := ⟨z, 1, none⟩) _ (.inl rfl))) (HOW.out.imp id (fun h b hb => ⟨by have h0 := (h b hb).1; have h1 := HK2.out.size; have h2 := HKW.out.size; omega, Nat.lt_of_lt_of_le (h b hb).2 ((Keep.refl (fun i => i = z) wr).setCell (p := ⟨z, 1, none⟩) _ (.inl rfl)).size⟩))
          · have HFIT : Hid (fitsB l p q cs = false) := Lib.hid (by rw [HO2.out, decide_eq_false hbig]; rfl)
            go_wp2_with fail
            go_ret
            exact Ap04P.no HFIT.out (HS2.out.kept HKW.out) (HK2.out.trans HKW.out)
end Go.Proofs.YtcnpncndecjahaaGreatDoor

/-
  Changes and records in slices.
-/
namespace Go.Proofs.YtcnpncndecjahaaGreatDoor
open Go.RowKit Go.Shelf

theorem chC_len (x : Chg) : (chC x).length = 10 := rfl
def flatH (l : List Chg) : List Value := l.flatMap chC
theorem flatH_append (a b : List Chg) : flatH (a ++ b) = flatH a ++ flatH b := by unfold flatH; rw [List.flatMap_append]
theorem flatH_one (x : Chg) : flatH [x] = chC x := by simp [flatH]
theorem flatH_len (l : List Chg) : (flatH l).length = l.length * 10 := by
  unfold flatH
  induction l with
  | nil => rfl
  | cons x l ih => rw [List.flatMap_cons, List.length_append, ih, chC_len, List.length_cons]; omega
theorem flatH_get : ∀ (l : List Chg) (q : Nat) (x : Chg) (r : Nat), l[q]? = some x → r < 10 → (flatH l)[q * 10 + r]? = (chC x)[r]?
  | [], _, _, _, h, _ => by simp at h
  | y :: l, 0, x, r, h, hr => by
    simp only [List.getElem?_cons_zero, Option.some.injEq] at h
    subst h
    unfold flatH
    rw [List.flatMap_cons, List.getElem?_append_left (by rw [chC_len]; omega), Nat.zero_mul, Nat.zero_add]
  | y :: l, q + 1, x, r, h, hr => by
    simp only [List.getElem?_cons_succ] at h
    have ih := flatH_get l q x r h hr
    unfold flatH at ih ⊢
    rw [List.flatMap_cons, List.getElem?_append_right (by rw [chC_len, Nat.add_mul]; omega), chC_len, ← ih]
    congr 1
    rw [Nat.add_mul]; omega
theorem flatH_cell (l : List Chg) : ∀ u ∈ flatH l, u.oneCell' = true := by
  intro u hu
  unfold flatH at hu
  obtain ⟨r, _, hr⟩ := List.mem_flatMap.1 hu
  simp only [List.mem_cons, List.not_mem_nil, or_false] at hr
  rcases hr with rfl | rfl | rfl | rfl | rfl | rfl | rfl | rfl | rfl | rfl <;> rfl
/-- Changes in a slice, nil only without changes. -/
def Chc (W : World) (v : Value) (l : List Chg) : Prop := (v = .slice none 0 0 ∧ l = []) ∨ ∃ b off c, v = .slice (some ⟨b, off, none⟩) l.length c ∧ l.length ≤ c ∧ ∀ i r, l[i]? = some r → ∀ j x, (chC r)[j]? = some x → W.cell? ⟨b, off + i * 10 + j, none⟩ = some x
theorem Chc.keep {W W' : World} {A : Nat → Prop} {v : Value} {l : List Chg} (h : Chc W v l) (k : Keep A W W') (hA : ∀ b, v.ownBlock = some b → ¬ A b) : Chc W' v l := by
  rcases h with h | ⟨b, off, c, rfl, hc, h⟩
  · exact .inl h
  · exact .inr ⟨b, off, c, rfl, hc, fun i r hi j x hj => k.cell (h i r hi j x hj) (hA b rfl)⟩
theorem Chc.kept {W W' : World} {v : Value} {l : List Chg} (h : Chc W v l) (k : Keep (fun _ => False) W W') : Chc W' v l := h.keep k (fun _ _ h => h)
theorem Chc.chs {W : World} {v : Value} {l : List Chg} (h : Chc W v l) (hn : l.length ≤ 1000000000) (hf : ∀ c ∈ l, c.fine) : Chs W v l := by
  rcases h with ⟨rfl, rfl⟩ | ⟨b, off, c, rfl, hc, h⟩
  · exact ⟨hn, hf, none, 0, 0, 0, rfl, Nat.le_refl _, fun h => by simp at h, fun i r hi => by simp at hi⟩
  · exact ⟨hn, hf, some ⟨b, off, none⟩, c, b, off, rfl, hc, fun _ => rfl, h⟩
theorem Chc.form {W : World} {v : Value} {l : List Chg} (h : Chc W v l) : ∃ a c, v = .slice a l.length c ∧ l.length ≤ c := by
  rcases h with ⟨rfl, rfl⟩ | ⟨b, off, c, rfl, hc, h⟩
  · exact ⟨none, 0, rfl, Nat.le_refl _⟩
  · exact ⟨_, c, rfl, hc⟩
theorem Chc.at_ {W : World} {a : Option Addr} {n c : Nat} {l : List Chg} (h : Chc W (.slice a n c) l) {i : Nat} {r : Chg} (hi : l[i]? = some r) :
    ∃ b off, a = some ⟨b, off, none⟩ ∧ ∀ j x, (chC r)[j]? = some x → W.cell? ⟨b, off + i * 10 + j, none⟩ = some x := by
  rcases h with ⟨_, rfl⟩ | ⟨b, off, c', hv, hc, h⟩
  · simp at hi
  · injection hv with e1 e2 e3
    exact ⟨b, off, e1, fun j x hj => h i r hi j x hj⟩
theorem Chc.flat {W : World} {b off : Nat} {l : List Chg} (h : ∀ i r, l[i]? = some r → ∀ j x, (chC r)[j]? = some x → W.cell? ⟨b, off + i * 10 + j, none⟩ = some x) : ∀ j u, (flatH l)[j]? = some u → W.cell? ⟨b, off + j, none⟩ = some u := by
  intro j u hj
  have hl : j < l.length * 10 := by
    have h1 := (List.getElem?_eq_some_iff.1 hj).1
    rw [flatH_len] at h1
    omega
  have hq : j / 10 < l.length := by omega
  have hx : l[j / 10]? = some l[j / 10] := List.getElem?_eq_getElem hq
  have h1 := flatH_get l (j / 10) _ (j % 10) hx (by omega)
  rw [show j / 10 * 10 + j % 10 = j by omega, hj] at h1
  have h2 := h (j / 10) _ hx (j % 10) u h1.symm
  rwa [show off + j / 10 * 10 + j % 10 = off + j by omega] at h2
theorem infoChg : (Tryz.prog.info? 65).map (fun i => (i.zero, i.size, i.bytes)) = some (some (.agg #[.int .i64 0, .int .i64 0, .bool false, .int .i64 0, .int .i64 0, .int .i64 0, .bool false, .int .i64 0, .int .i64 0, .int .i64 0]), 10, 80) := by kernel_rfl
theorem infoRec : (Tryz.prog.info? 73).map (fun i => (i.zero, i.size, i.bytes)) = some (some (.agg #[.int .i64 0, .slice none 0 0]), 2, 32) := by kernel_rfl
theorem chc_own {W : World} {lo : Nat} {v : Value} {l : List Chg} (h : W.ownsRow lo 65 10 v l.length (flatH l)) : Chc W v l ∧ ∀ b, v.ownBlock = some b → lo ≤ b := by
  refine ⟨?_, fun b hb => (h.lt b hb).1⟩
  rcases h.2 with ⟨rfl, h0⟩ | ⟨g, cap, cur, rfl, hg, hh, hcap, r⟩
  · exact .inl ⟨rfl, List.eq_nil_of_length_eq_zero h0⟩
  · refine .inr ⟨g, 0, cap, rfl, hcap, fun i r hi j x hj => ?_⟩
    have hj5 : j < 10 := (List.getElem?_eq_some_iff.1 hj).1
    have h1 := flatH_get l i r j hi hj5
    rw [hj] at h1
    have h2 := h.cells (g := g) rfl _ _ h1
    rw [Addr.add_lit] at h2
    rwa [show 0 + i * 10 + j = 0 + (i * 10 + j) by omega]
/-- More changes behind changes of one's own. -/
theorem app_chgs (W : World) (ty lo : Nat) (v src : Value) (l ys : List Chg) (hown : W.ownsRow lo 65 10 v l.length (flatH l)) (hs : Chc W src ys) (hn : l.length + ys.length ≤ 1000000) (hlo : lo ≤ W.heap.size) :
    ∃ v' w', (Builtin.append_ #[61, 61] ty #[v, src]).run Tryz.prog W = .ok v' w' ∧ w'.ownsRow lo 65 10 v' (l ++ ys).length (flatH (l ++ ys)) ∧ Keep (fun k => v.ownBlock = some k) W w' := by
  obtain ⟨i0, hi, hz0, hz1, hz2⟩ := info_parts infoChg
  rcases hs with ⟨rfl, rfl⟩ | ⟨b, off, c, rfl, hc, h⟩
  · refine ⟨v, W, run_append_owned_none W lo 61 ty 65 i0 10 Tryz.underlying61 hi v l.length (flatH l) hown, by simpa using hown, Keep.refl _ W⟩
  · obtain ⟨v', w', h1, h2, h3, h4, h5⟩ := run_append_own_at (P := Tryz.prog) W lo 61 ty 65 i0 _ 10 80 Tryz.underlying61 hi hz0 hz1 hz2 rfl (by decide) v l.length (flatH l) hown ⟨b, off, none⟩ ys.length c (flatH ys) (flatH_len ys)
      (fun j u hj => by rw [Addr.add_lit]; exact Chc.flat h j u hj) (flatH_cell ys) (by unfold maxLen; omega) (by omega) hlo
    exact ⟨v', w', h1, by rw [List.length_append, flatH_append]; exact h2, Keep.of_grown h3⟩
/-- Changes behind a slice that is full. -/
theorem app_full (W : World) (ty : Nat) (v src : Value) (l ys : List Chg) (hv : Chc W v l) (hfull : (v = .slice none 0 0 ∧ l = []) ∨ ∃ b off, v = .slice (some ⟨b, off, none⟩) l.length l.length) (hs : Chc W src ys) (hy : 0 < ys.length) (hn : l.length + ys.length ≤ 1000000) :
    ∃ v' w', (Builtin.append_ #[61, 61] ty #[v, src]).run Tryz.prog W = .ok v' w' ∧ w'.ownsRow W.heap.size 65 10 v' (l ++ ys).length (flatH (l ++ ys)) ∧ Keep (fun _ => False) W w' := by
  obtain ⟨i0, hi, hz0, hz1, hz2⟩ := info_parts infoChg
  rcases hfull with ⟨rfl, rfl⟩ | ⟨b, off, rfl⟩
  · obtain ⟨v', w', h1, h2, h3⟩ := app_chgs W ty W.heap.size (.slice none 0 0) src [] ys (by simpa [flatH] using World.ownsRow_nil W W.heap.size 65 10) hs (by simpa using hn) (Nat.le_refl _)
    exact ⟨v', w', h1, h2, h3.mono (fun _ h => by cases h)⟩
  · rcases hs with ⟨_, rfl⟩ | ⟨sb, soff, sc, rfl, hsc, h⟩
    · simp at hy
    · have hvc : ∀ i r, l[i]? = some r → ∀ j x, (chC r)[j]? = some x → W.cell? ⟨b, off + i * 10 + j, none⟩ = some x := by
        intro i r hir
        obtain ⟨b', off', e, h'⟩ := hv.at_ hir
        cases e
        exact h'
      obtain ⟨v', w', h1, h2, h3⟩ := run_append_arg_grows (P := Tryz.prog) W 61 ty 65 i0 _ 10 80 Tryz.underlying61 hi hz0 hz1 hz2 rfl (by decide) ⟨b, off, none⟩ l.length l.length (flatH l) (flatH_len l)
        (fun j u hj => by rw [Addr.add_lit]; exact Chc.flat hvc j u hj) ⟨sb, soff, none⟩ ys.length sc (flatH ys) (flatH_len ys) (fun j u hj => by rw [Addr.add_lit]; exact Chc.flat h j u hj) (by omega) (by unfold maxLen; omega) (by omega)
      exact ⟨v', w', h1, by rw [List.length_append, flatH_append]; exact h2, (Keep.of_grown h3).mono (fun _ h => by cases h)⟩
/-- The others, in any world. -/
theorem chc_lo {W : World} {v : Value} {l : List Chg} (h : Chc W v l) (k : Nat) (hk : k ≤ l.length) :
    ∃ v', (∀ w, (Instr.sliceAt 61 v (some (.int .i64 k)) none none).run Tryz.prog w = .ok v' w) ∧ Chc W v' (l.drop k) ∧ v'.ownBlock = v.ownBlock := by
  have hlt : (l.drop k).length = l.length - k := List.length_drop
  rcases h with ⟨rfl, rfl⟩ | ⟨b, off, c, rfl, hc, h⟩
  · obtain rfl : k = 0 := by simpa using hk
    refine ⟨.slice none 0 0, fun w => ?_, .inl ⟨rfl, by simp⟩, rfl⟩
    simp [Instr.sliceAt, Instr.slice, run_underlying Tryz.underlying61, Instr.sliceBounds, go_sem]
  · have hkz : (k : Int) ≤ (l.length : Int) := by omega
    have hk0 : (0 : Int) ≤ (k : Int) := by omega
    by_cases h0 : c = k
    · refine ⟨.slice (some ⟨b, off, none⟩) (l.length - k) (c - k), fun w => ?_, .inr ⟨b, off, c - k, by rw [hlt], by omega, fun j x hj => ?_⟩, rfl⟩
      · simp [Instr.sliceAt, Instr.slice, run_underlying Tryz.underlying61, Instr.sliceBounds, go_sem, hkz, hk0, h0]
      · have := (List.getElem?_eq_some_iff.1 hj).1
        omega
    · refine ⟨.slice (some ⟨b, off + k * 10, none⟩) (l.length - k) (c - k), fun w => ?_, .inr ⟨b, off + k * 10, c - k, by rw [hlt], by omega, fun i r hi j x hj => ?_⟩, rfl⟩
      · simp [Instr.sliceAt, Instr.slice, run_underlying Tryz.underlying61, Instr.sliceBounds, go_sem, hkz, hk0, h0]
      · rw [List.getElem?_drop] at hi
        have := h (k + i) r hi j x hj
        rwa [show off + (k + i) * 10 + j = off + k * 10 + i * 10 + j by omega] at this
/-- The first ones, full, in any world. -/
theorem chc_hi {W : World} {v : Value} {l : List Chg} (h : Chc W v l) (k : Nat) (hk : k ≤ l.length) :
    ∃ v', (∀ w, (Instr.sliceAt 61 v none (some (.int .i64 k)) (some (.int .i64 k))).run Tryz.prog w = .ok v' w) ∧ Chc W v' (l.take k) ∧ ((v' = .slice none 0 0 ∧ l.take k = []) ∨ ∃ b off, v' = .slice (some ⟨b, off, none⟩) (l.take k).length (l.take k).length) ∧ v'.ownBlock = v.ownBlock := by
  have hlt : (l.take k).length = k := by rw [List.length_take]; omega
  rcases h with ⟨rfl, rfl⟩ | ⟨b, off, c, rfl, hc, h⟩
  · obtain rfl : k = 0 := by simpa using hk
    refine ⟨.slice none 0 0, fun w => ?_, .inl ⟨rfl, by simp⟩, .inl ⟨rfl, by simp⟩, rfl⟩
    simp [Instr.sliceAt, Instr.slice, run_underlying Tryz.underlying61, Instr.sliceBounds, go_sem]
  · have hkz : (k : Int) ≤ (c : Int) := by omega
    have hk0 : (0 : Int) ≤ (k : Int) := by omega
    refine ⟨.slice (some ⟨b, off, none⟩) k k, fun w => ?_, .inr ⟨b, off, k, by rw [hlt], by omega, fun j x hj => h j x ?_⟩, .inr ⟨b, off, by rw [hlt]⟩, rfl⟩
    · by_cases h0 : k = 0
      · subst h0
        simp [Instr.sliceAt, Instr.slice, run_underlying Tryz.underlying61, Instr.sliceBounds, go_sem]
      · simp [Instr.sliceAt, Instr.slice, run_underlying Tryz.underlying61, Instr.sliceBounds, go_sem, hkz, hk0]
    · rw [List.getElem?_take] at hj
      split at hj
      · exact hj
      · cases hj
end Go.Proofs.YtcnpncndecjahaaGreatDoor

/-
  Arrays of six; records in slices.
-/
namespace Go.Proofs.YtcnpncndecjahaaGreatDoor
open Go.RowKit Go.Shelf

theorem wp_app {P : Program} {o : Oper} {a : Act} {w w' : World} {K : Act → World → Prop} {Q : Exit → Act → World → Prop} {v v2 v' : Value}
    (s x : Operand) (t : TypeId) (hop : o.op = Op.call { callee := Callee.builtin Builtin.append, args := #[s, x], argTypes := #[t, t] })
    (hs : a.eval s = v) (hx : a.eval x = v2) (hrun : (Builtin.append_ #[t, t] o.type #[v, v2]).run P w = .ok v' w') (hK : K (a.put o.dst v') w') : o.wp P a w K Q := by
  unfold Oper.wp
  simp [execOp, hop, resolve, invoke, builtin, hs, hx, hrun, Result.andThen]
  exact hK
theorem wp_build1 {P : Program} {o : Oper} {a : Act} {w w' : World} {K : Act → World → Prop} {Q : Exit → Act → World → Prop} {v' v1 : Value} {ty : TypeId} {n : Nat} {x : Operand}
    (hop : o.op = Op.buildSlice ty n #[(0, x)]) (h1 : a.eval x = v1) (hrun : (Instr.buildSlice ty n #[(0, v1)]).run P w = .ok v' w') (hK : K (a.put o.dst v') w') : o.wp P a w K Q := by
  unfold Oper.wp
  simp [execOp, hop, h1, hrun, Result.andThen]
  exact hK
/-- Arrays of six in a slice. -/
structure Sixes (W : World) (v : Value) (n : Nat) (f : Nat → Nat → Int) : Prop where
  big : n ≤ 1000000000000000
  bd : ∀ i j, I64 (f i j)
  at_ : ∃ a c b off, v = .slice a n c ∧ n ≤ c ∧ (0 < n → a = some ⟨b, off, none⟩) ∧ ∀ i j, i < n → j < 6 → W.cell? ⟨b, off + i * 6 + j, none⟩ = some (.int .i64 (f i j))
theorem Sixes.kept {W W' : World} {v : Value} {n : Nat} {f : Nat → Nat → Int} (h : Sixes W v n f) (k : Keep (fun _ => False) W W') : Sixes W' v n f := by
  obtain ⟨h1, h2, a, c, b, off, h3, h4, h5, h6⟩ := h
  exact ⟨h1, h2, a, c, b, off, h3, h4, h5, fun i j hi hj => k.cell (h6 i j hi hj) (fun h => h)⟩
theorem lit_chg (W : World) (c : Chg) : (W.alloc (.cells (chC c).toArray 65)).ownsRow W.heap.size 65 10 (.slice (some ⟨W.heap.size, 0, none⟩) 1 1) [c].length (flatH [c]) := by
  rw [flatH_one]
  exact World.ownsRow_lit W (chC c).toArray 1 (Nat.le_refl _) (by decide) rfl
theorem run_build_chg (W : World) (c : Chg) : (Instr.buildSlice 61 1 #[(0, chV c)]).run Tryz.prog W = .ok (.slice (some ⟨W.heap.size, 0, none⟩) 1 1) (W.alloc (.cells (chC c).toArray 65)) := by kernel_rfl
/-- Records in a slice. -/
structure RcsAt (W : World) (v : Value) (L : List Rc) : Prop where
  n : L.length ≤ 1000000
  at_ : ∃ a c b off, v = .slice a L.length c ∧ L.length ≤ c ∧ (0 < L.length → a = some ⟨b, off, none⟩) ∧ ∀ i r, L[i]? = some r → W.cell? ⟨b, off + i * 2, none⟩ = some (.int .i64 r.pos) ∧ ∃ vi, W.cell? ⟨b, off + i * 2 + 1, none⟩ = some vi ∧ Chs W vi r.chs
theorem Chs.later {W W' : World} {A : Nat → Prop} {v : Value} {l : List Chg} (h : Chs W v l) (k : Keep A W W') (hA : ∀ i, A i → W.heap.size ≤ i) : Chs W' v l := by
  obtain ⟨hn, hf, a, c, b, off, rfl, hc, ha, h1⟩ := h
  refine ⟨hn, hf, a, c, b, off, rfl, hc, ha, fun i ch hi j x hj => ?_⟩
  have h2 := h1 i ch hi j x hj
  exact k.cell h2 (fun e => by have := World.block_lt_of_cell? _ _ h2; have := hA _ e; simp only [] at *; omega)
theorem RcsAt.later {W W' : World} {A : Nat → Prop} {v : Value} {L : List Rc} (h : RcsAt W v L) (k : Keep A W W') (hA : ∀ i, A i → W.heap.size ≤ i) : RcsAt W' v L := by
  obtain ⟨hn, a, c, b, off, rfl, hc, ha, h1⟩ := h
  refine ⟨hn, a, c, b, off, rfl, hc, ha, fun i r hi => ?_⟩
  obtain ⟨h2, vi, h3, h4⟩ := h1 i r hi
  have key : ∀ {b o : Nat} {x : Value}, W.cell? ⟨b, o, none⟩ = some x → W'.cell? ⟨b, o, none⟩ = some x := fun hc => k.cell hc (fun e => by have := World.block_lt_of_cell? _ _ hc; have := hA _ e; simp only [] at *; omega)
  exact ⟨key h2, vi, key h3, h4.later k hA⟩
theorem RcsAt.kept {W W' : World} {v : Value} {L : List Rc} (h : RcsAt W v L) (k : Keep (fun _ => False) W W') : RcsAt W' v L := h.later k (fun _ h => h.elim)
/-- Records in a slice of their own. -/
def flatK (L : List Rc) (vs : List Value) : List Value := (L.zip vs).flatMap (fun p => [.int .i64 p.1.pos, p.2])
structure RcsOwn (lo : Nat) (W : World) (v : Value) (L : List Rc) (vs : List Value) : Prop where
  vl : vs.length = L.length
  own : W.ownsRow lo 73 2 v L.length (flatK L vs)
  ch : ∀ (i : Nat) (r : Rc) (vi : Value), L[i]? = some r → vs[i]? = some vi → Chs W vi r.chs ∧ (∀ b, vi.ownBlock = some b → lo ≤ b ∧ b < W.heap.size ∧ v.ownBlock ≠ some b) ∧ vi.oneCell' = true
theorem flatK_snoc {L : List Rc} {vs : List Value} (h : vs.length = L.length) (r : Rc) (vi : Value) : flatK (L ++ [r]) (vs ++ [vi]) = flatK L vs ++ [.int .i64 r.pos, vi] := by
  unfold flatK
  rw [List.zip_append h.symm, List.flatMap_append]
  simp
theorem flatK_get {L : List Rc} {vs : List Value} (h : vs.length = L.length) : ∀ (i : Nat) (r : Rc) (vi : Value), L[i]? = some r → vs[i]? = some vi → (flatK L vs)[i * 2]? = some (.int .i64 r.pos) ∧ (flatK L vs)[i * 2 + 1]? = some vi := by
  induction L generalizing vs with
  | nil => intro i r vi h1; simp at h1
  | cons x L ih =>
    cases vs with
    | nil => simp at h
    | cons u vs =>
      intro i r vi h1 h2
      have hl : vs.length = L.length := by simpa using h
      have e : flatK (x :: L) (u :: vs) = .int .i64 x.pos :: u :: flatK L vs := by simp [flatK]
      rw [e]
      cases i with
      | zero =>
        simp only [List.getElem?_cons_zero, Option.some.injEq] at h1 h2
        subst h1 h2
        exact ⟨rfl, rfl⟩
      | succ i =>
        simp only [List.getElem?_cons_succ] at h1 h2
        have := ih hl i r vi h1 h2
        rw [show (i + 1) * 2 = i * 2 + 1 + 1 by omega, show i * 2 + 1 + 1 + 1 = (i * 2 + 1) + 1 + 1 by omega]
        simpa using this
theorem RcsOwn.nil (lo : Nat) (W : World) : RcsOwn lo W (.slice none 0 0) [] [] := ⟨rfl, by simpa [flatK] using World.ownsRow_nil W lo 73 2, by simp⟩
theorem RcsOwn.keep {lo : Nat} {W W' : World} {A : Nat → Prop} {v : Value} {L : List Rc} {vs : List Value} (h : RcsOwn lo W v L vs) (k : Keep A W W') (h1 : ∀ b, v.ownBlock = some b → ¬ A b) (h2 : ∀ b, A b → ¬ (lo ≤ b ∧ b < W.heap.size)) : RcsOwn lo W' v L vs :=
  ⟨h.vl, ownsRow_keep h.own k h1, fun i r vi hi hv => by
    obtain ⟨c1, c2, c3⟩ := h.ch i r vi hi hv
    exact ⟨c1.keep k (fun b hb hA => h2 b hA ⟨(c2 b hb).1, (c2 b hb).2.1⟩), fun b hb => ⟨(c2 b hb).1, Nat.lt_of_lt_of_le (c2 b hb).2.1 k.size, (c2 b hb).2.2⟩, c3⟩⟩
theorem RcsOwn.snoc {lo : Nat} {W : World} {v : Value} {L : List Rc} {vs : List Value} (h : RcsOwn lo W v L vs) (hlo : lo ≤ W.heap.size) (p : Int) (cs : List Chg) (vi : Value) (hc : Chs W vi cs) (hb : ∀ b, vi.ownBlock = some b → lo ≤ b ∧ b < W.heap.size ∧ v.ownBlock ≠ some b) (h1 : vi.oneCell' = true) (hl : L.length ≤ 100000) :
    ∃ v' w', (Builtin.append_ #[26, 26] 26 #[v, .slice (some ⟨W.heap.size, 0, none⟩) 1 1]).run Tryz.prog (W.alloc (.cells #[.int .i64 p, vi] 73)) = .ok v' w' ∧ RcsOwn lo w' v' (L ++ [⟨p, cs⟩]) (vs ++ [vi]) ∧ Keep (fun j => v.ownBlock = some j) W w' ∧ (v'.ownBlock = v.ownBlock ∨ v'.ownBlock = some (W.heap.size + 1)) := by
  obtain ⟨v', w', r1, r2, r3, r4, -⟩ := app_one 26 73 2 32 _ Tryz.underlying26 infoRec rfl (by decide) (by decide) W 26 lo v L.length (flatK L vs) [.int .i64 p, vi] h.own rfl (by intro u hu; simp only [List.mem_cons, List.not_mem_nil, or_false] at hu; rcases hu with rfl | rfl <;> first | exact h1 | rfl) (by omega) hlo
  have hnew : ∀ b, lo ≤ b → b < W.heap.size → v.ownBlock ≠ some b → v'.ownBlock ≠ some b := by
    intro b _ hb2 hb3 e
    rcases r4 with r4 | r4
    · rw [r4] at e; exact hb3 e
    · rw [r4] at e; cases e; omega
  refine ⟨v', w', r1, ⟨by simp [h.vl], ?_, fun i r u hi hu => ?_⟩, r3, r4⟩
  · rw [flatK_snoc h.vl, List.length_append]
    exact r2
  · by_cases hi2 : i < L.length
    · rw [List.getElem?_append_left hi2] at hi
      rw [List.getElem?_append_left (by rw [h.vl]; exact hi2)] at hu
      obtain ⟨c1, c2, c3⟩ := h.ch i r u hi hu
      exact ⟨c1.keep r3 (fun b hb e => (c2 b hb).2.2 e), fun b hb => ⟨(c2 b hb).1, Nat.lt_of_lt_of_le (c2 b hb).2.1 r3.size, hnew b (c2 b hb).1 (c2 b hb).2.1 (c2 b hb).2.2⟩, c3⟩
    · have hi3 : i = L.length := by
        have := (List.getElem?_eq_some_iff.1 hi).1
        simp at this
        omega
      subst hi3
      rw [List.getElem?_append_right (Nat.le_refl _), Nat.sub_self] at hi
      rw [List.getElem?_append_right (by rw [h.vl]; exact Nat.le_refl _), h.vl, Nat.sub_self] at hu
      simp only [List.getElem?_cons_zero, Option.some.injEq] at hi hu
      subst hi hu
      exact ⟨hc.keep r3 (fun b hb' e => (hb b hb').2.2 e), fun b hb' => ⟨(hb b hb').1, Nat.lt_of_lt_of_le (hb b hb').2.1 r3.size, hnew b (hb b hb').1 (hb b hb').2.1 (hb b hb').2.2⟩, h1⟩
theorem RcsOwn.at {lo : Nat} {W : World} {v : Value} {L : List Rc} {vs : List Value} (h : RcsOwn lo W v L vs) (hl : L.length ≤ 1000000) : RcsAt W v L := by
  refine ⟨hl, ?_⟩
  rcases h.own.2 with ⟨e, e2⟩ | ⟨g, cap, cur, e, -, -, h5, -⟩
  · have e0 : L = [] := by
      cases L with
      | nil => rfl
      | cons x L =>
        have h3 := h.vl
        cases vs with
        | nil => simp at h3
        | cons u vs => simp at e2
    subst e0
    subst e
    exact ⟨none, 0, 0, 0, rfl, by simp, by simp, by simp⟩
  · subst e
    have hf := h.own
    refine ⟨_, cap, g, 0, rfl, h5, fun _ => rfl, fun i r hi => ?_⟩
    obtain ⟨vi, hv⟩ : ∃ vi, vs[i]? = some vi := ⟨_, List.getElem?_eq_getElem (by rw [h.vl]; exact (List.getElem?_eq_some_iff.1 hi).1)⟩
    obtain ⟨f1, f2⟩ := flatK_get h.vl i r vi hi hv
    have g1 := hf.cells (g := g) rfl _ _ f1
    have g2 := hf.cells (g := g) rfl _ _ f2
    rw [Addr.add_lit] at g1 g2
    exact ⟨g1, vi, by rw [show 0 + i * 2 + 1 = 0 + (i * 2 + 1) by omega]; exact g2, (h.ch i r vi hi hv).1⟩
theorem RSt.keep' {A : Nat → Prop} {W W' : World} {z : Nat} {v : Value} {l : List R5} {p : Int} (h : RSt W z v l p) (k : Keep A W W') (h1 : ¬ A z) (h2 : 0 < l.length → ∀ b, v.ownBlock = some b → ¬ A b) : RSt W' z v l p := by
  refine ⟨h.box.keep k h1, ?_, h.asc, h.off, h.len⟩
  rcases Nat.eq_zero_or_pos l.length with h0 | h0
  · have e : l = [] := List.eq_nil_of_length_eq_zero h0
    subst e
    rcases h.rwc with h3 | ⟨b, off, c, h3, h4, -⟩
    · exact .inl h3
    · exact .inr ⟨b, off, c, h3, h4, by simp⟩
  · exact h.rwc.keep k (h2 h0)
theorem RSt.own_lt {W : World} {z : Nat} {v : Value} {l : List R5} {p : Int} (h : RSt W z v l p) (h0 : 0 < l.length) : ∀ b, v.ownBlock = some b → b < W.heap.size := by
  intro b hb
  rcases h.rwc with ⟨rfl, rfl⟩ | ⟨b0, off, c, rfl, h4, h5⟩
  · cases hb
  · have e : b0 = b := by simpa [Value.ownBlock] using hb
    subst e
    obtain ⟨x, hx⟩ : ∃ x, l[0]? = some x := ⟨_, List.getElem?_eq_getElem h0⟩
    exact World.block_lt_of_cell? _ _ (h5 0 x hx 0 _ rfl)
theorem steps_fine {cs : List Chg} (hc : ∀ c ∈ cs, c.fine) : ∀ {l : List R5}, (∀ r ∈ l, r.fine) → ∀ r ∈ cs.foldl stepR l, r.fine := by
  induction cs with
  | nil => intro l h; exact h
  | cons c cs ih =>
    intro l h
    exact ih (fun c hc' => hc c (List.mem_cons_of_mem _ hc')) (stepR_fine h (hc c List.mem_cons_self))
def LogP (n : Nat) (w : World) (e : Ending) (w' : World) : Prop := ∃ v L, e = .returned v ∧ RcsAt w' v L ∧ LogOk L ∧ L.length ≤ n ∧ Keep (fun _ => False) w w'
end Go.Proofs.YtcnpncndecjahaaGreatDoor

/-
  The pairs of a join.
-/
namespace Go.Proofs.YtcnpncndecjahaaGreatDoor
open Go.RowKit Go.Shelf
open Go.Maps (Keyed int_keyed keyOf_int_mk)

theorem partR_snoc (ot : Int) (l : List R5) (x : R5) (k : Int) : partR ot (l ++ [x]) k = (partR ot l k).or (if x.tb = ot ∧ x.ky = k then some x else none) := by
  unfold partR
  rw [List.find?_append]
  congr 1
  by_cases h : x.tb = ot ∧ x.ky = k
  · simp [h.1, h.2]
  · rw [if_neg h]
    by_cases h1 : x.tb = ot
    · have h2 : x.ky ≠ k := fun e => h ⟨h1, e⟩
      simp [h2]
    · simp [h1]
def jRel (ot : Int) (l : List R5) (k v : Value) : Prop := ∃ n r, k = .int .i64 n ∧ partR ot l n = some r ∧ v = rowV r
theorem jRel_old {ot : Int} {l : List R5} {x : R5} (h : x.tb = ot → ∃ r, partR ot l x.ky = some r) (k v : Value) : jRel ot (l ++ [x]) k v ↔ jRel ot l k v := by
  unfold jRel
  have key : ∀ n, partR ot (l ++ [x]) n = partR ot l n := by
    intro n
    rw [partR_snoc]
    by_cases h1 : x.tb = ot ∧ x.ky = n
    · obtain ⟨r, hr⟩ := h h1.1
      rw [h1.2] at hr
      rw [hr]
      rfl
    · rw [if_neg h1]
      cases partR ot l n <;> rfl
  constructor
  · rintro ⟨n, r, rfl, h1, rfl⟩
    exact ⟨n, r, rfl, by rw [← key]; exact h1, rfl⟩
  · rintro ⟨n, r, rfl, h1, rfl⟩
    exact ⟨n, r, rfl, by rw [key]; exact h1, rfl⟩
theorem jRel_put {ot : Int} {l : List R5} {x : R5} (h1 : x.tb = ot) (h2 : partR ot l x.ky = none) (k v : Value) : jRel ot (l ++ [x]) k v ↔ (k = .int .i64 x.ky ∧ v = rowV x) ∨ (k ≠ .int .i64 x.ky ∧ jRel ot l k v) := by
  unfold jRel
  constructor
  · rintro ⟨n, r, rfl, h3, rfl⟩
    rw [partR_snoc] at h3
    by_cases h4 : x.ky = n
    · subst h4
      rw [h2, if_pos ⟨h1, rfl⟩] at h3
      cases h3
      exact .inl ⟨rfl, rfl⟩
    · rw [if_neg (fun e => h4 e.2)] at h3
      refine .inr ⟨fun e => ?_, n, r, rfl, ?_, rfl⟩
      · cases e
        exact h4 rfl
      · cases e : partR ot l n with
        | none => rw [e] at h3; cases h3
        | some y => rw [e] at h3; exact h3
  · rintro (⟨rfl, rfl⟩ | ⟨hne, n, r, rfl, h3, rfl⟩)
    · exact ⟨_, _, rfl, by rw [partR_snoc, h2, if_pos ⟨h1, rfl⟩]; rfl, rfl⟩
    · exact ⟨n, r, rfl, by rw [partR_snoc, h3]; rfl, rfl⟩
theorem intKeyedE : Keyed Tryz.prog 3 := int_keyed Tryz.underlying3
theorem keyI {n : Int} (h : I64 n) : keyOf Tryz.prog 3 (.int .i64 n) = some (.int .i64 n) := keyOf_int_mk Tryz.underlying3 (wf_i64 h)
theorem jRel_look {ot : Int} {l : List R5} {W : World} {mb : Nat} (h : MapRel Tryz.prog 3 W mb (jRel ot l)) {k : Int} (hk : I64 k) :
    (Instr.lookup 151 (.map (some mb)) (.int .i64 k) true).run Tryz.prog W = .ok (lookV (partR ot l k)) W := by
  rcases h.look intKeyedE Tryz.underlying151 (zeroRow W) true (keyI hk) with ⟨a, b⟩ | ⟨v, ⟨n, r, e1, hr, rfl⟩, b⟩
  · have e : partR ot l k = none := by
      cases e : partR ot l k with
      | none => rfl
      | some r => exact absurd ⟨k, r, rfl, e, rfl⟩ (a (rowV r))
    rw [e]; exact b
  · cases e1
    rw [hr]; exact b
theorem lookV_tuple (o : Option R5) : lookV o = .tuple #[rowV (o.getD ⟨0, 0, 0, 0, 0⟩), .bool o.isSome] := by cases o <;> rfl
theorem joinR_len (q : Qy) (rows others : List R5) : (joinR q rows others).length ≤ 2 * rows.length := by
  unfold joinR
  induction rows with
  | nil => simp
  | cons r rows ih =>
    rw [List.flatMap_cons, List.length_append, List.length_cons]
    have : (pairR q others r).length ≤ 2 := by
      unfold pairR
      split <;> simp
    omega
theorem wp_build2 {P : Program} {o : Oper} {a : Act} {w w' : World} {K : Act → World → Prop} {Q : Exit → Act → World → Prop} {v' v1 v2 : Value} {ty : TypeId} {n : Nat} {x y : Operand}
    (hop : o.op = Op.buildSlice ty n #[(0, x), (1, y)]) (h1 : a.eval x = v1) (h2 : a.eval y = v2) (hrun : (Instr.buildSlice ty n #[(0, v1), (1, v2)]).run P w = .ok v' w') (hK : K (a.put o.dst v') w') : o.wp P a w K Q := by
  unfold Oper.wp
  simp [execOp, hop, h1, h2, hrun, Result.andThen]
  exact hK
theorem run_build_two (W : World) (x r : R5) : (Instr.buildSlice 40 2 #[(0, rowV x), (1, rowV r)]).run Tryz.prog W = .ok (.slice (some ⟨W.heap.size, 0, none⟩) 2 2) (W.alloc (.cells (rowC x ++ rowC r).toArray 67)) := by kernel_rfl
theorem rwc_two (W : World) (x r : R5) : Rwc (W.alloc (.cells (rowC x ++ rowC r).toArray 67)) (.slice (some ⟨W.heap.size, 0, none⟩) 2 2) [x, r] := by
  have hb := BoxL.new W (rowC x ++ rowC r) 67
  refine .inr ⟨_, 0, 2, rfl, Nat.le_refl _, fun i y hi j u hj => ?_⟩
  have hj5 : j < 5 := (List.getElem?_eq_some_iff.1 hj).1
  rcases i with _ | _ | i
  · cases hi
    rw [show 0 + 0 * 5 + j = j by omega]
    exact hb.cell j u (by rw [List.getElem?_append_left (by simpa using hj5)]; exact hj)
  · cases hi
    rw [show 0 + (0 + 1) * 5 + j = 5 + j by omega]
    exact hb.cell (5 + j) u (by rw [List.getElem?_append_right (by simp)]; simpa using hj)
  · cases hi
def JoinP (l : List R5) (w : World) (e : Ending) (w' : World) : Prop := ∃ v, e = .returned v ∧ Rws w' v l ∧ Keep (fun _ => False) w w' ∧ ∀ b, v.ownBlock = some b → w.heap.size ≤ b

set_option maxRecDepth 100000 in
set_option maxHeartbeats 4000000 in
theorem joined_any (q : Qy) (v1 v2 : Value) (rows others : List R5) (w : World) (h1 : Rws w v1 rows) (h2 : Rws w v2 others) (hn1 : rows.length ≤ 100000) (hn2 : others.length ≤ 100000) (hf1 : ∀ r ∈ rows, r.fine) (hf2 : ∀ r ∈ others, r.fine) :
    Calls Tryz.prog 63 #[qV q, v1, v2] w (JoinP (joinR q rows others) w) := by
  have HR := Lib.hid h1
  have HO := Lib.hid h2
  have HF1 := Lib.hid hf1
  have HF2 := Lib.hid hf2
  have HN1 := Lib.hid hn1
  have HN2 := Lib.hid hn2
  obtain ⟨a2, c2, rfl, hc2⟩ := h2.form'
  obtain ⟨a1, c1, rfl, hc1⟩ := h1.form'
  obtain ⟨n, hn⟩ : ∃ n, rows.length = n := ⟨_, rfl⟩
  have HNR := Lib.hid hn
  rw [hn] at hc1 HR HN1 ⊢
  obtain ⟨m, hm⟩ : ∃ n, others.length = n := ⟨_, rfl⟩
  have HM := Lib.hid hm
  rw [hm] at hc2 HO HN2 ⊢
  have HQ := Lib.hid (QBox.new w q 37)
  have HKQ := Lib.hid (keep_cells w #[.int .i64 q.kd, .int .i64 q.tb, .int .i64 q.cl, .int .i64 q.lo, .int .i64 q.hi, .int .i64 q.bb, .int .i64 q.ot] 37)
  clear h1 h2 hf1 hf2 hn1 hn2 hm hn
  obtain ⟨q0, q1, q2, q3, q4, q5, q6⟩ := q
  simp only [] at HQ HKQ
  have hmm := @run_makeMap Tryz.prog
  go_enter Tryz.func63, Tryz.ntmps63
  go_upto_region 1 with (fail)
  generalize w.alloc (.cells #[.int .i64 q0, .int .i64 q1, .int .i64 q2, .int .i64 q3, .int .i64 q4, .int .i64 q5, .int .i64 q6] 37) = W1 at *
  obtain ⟨zq, hzq⟩ : ∃ z, w.heap.size = z := ⟨_, rfl⟩
  have HZQ := Lib.hid hzq
  rw [hzq] at HQ ⊢
  clear hzq
  have HK2 := Lib.hid ((Keep.refl (fun _ => False) W1).alloc (.map #[] 0))
  have HMP : Hid (MapRel Tryz.prog 3 (W1.alloc (.map #[] 0)) W1.heap.size (jRel q6 [])) := Lib.hid ((MapRel.made Tryz.prog 3 W1).congr (fun k v => by simp [jRel, partR]))
  obtain ⟨mb, hmb⟩ : ∃ z, W1.heap.size = z := ⟨_, rfl⟩
  have HMB := Lib.hid hmb
  rw [hmb] at HMP
  go_wp2_with fail
  clear hmb hmm
  generalize W1.alloc (.map #[] 0) = W2 at *
  have HMBQ : Hid (zq < mb ∧ w.heap.size ≤ mb) := Lib.hid (by have h1 := HQ.out.lt; have h2 := HMB.out; have h3 := HZQ.out; omega)
  have HKW2 := Lib.hid (HKQ.out.trans HK2.out)
  have HQ2 := Lib.hid (HQ.out.kept HK2.out)
  go_loopg [19] m (fun gh v19 wr => ∃ i : Nat, gh + i = m ∧ v19 = .int .i64 i ∧ MapRel Tryz.prog 3 wr mb (jRel q6 (others.take i)) ∧ Keep (fun j => j = mb) W2 wr)
  case atStart => exact ⟨0, by omega, rfl, by simpa using HMP.out, Keep.refl _ _⟩
  case round =>
    as_aux_lemma =>
      obtain ⟨i, hg, rfl, hmr, hk⟩ := hrel
      have HMR := Lib.hid hmr
      have HK := Lib.hid hk
      have HKW := Lib.hid (HKW2.out.trans' hk (fun j hj => .inr (by have h1 : j = mb := hj; have := HMBQ.out; omega)))
      have HQW := Lib.hid (HQ2.out.keep hk (by show ¬ zq = mb; have := HMBQ.out; omega))
      have hnb := HN2.out
      clear hmr hk
      by_cases hin : i < m
      · have hinz : (i : Int) < (m : Int) := by omega
        have hi0 : (0 : Int) ≤ (i : Int) := by omega
        obtain ⟨x, hx⟩ : ∃ x, others[i]? = some x := ⟨_, List.getElem?_eq_getElem (by have := HM.out; omega)⟩
        have HTK : Hid (others.take (i + 1) = others.take i ++ [x]) := Lib.hid (by rw [List.take_add_one, hx]; rfl)
        have HXF := Lib.hid (HF2.out x (List.mem_of_getElem? hx))
        obtain ⟨b, off, rfl, hcell⟩ := HO.out.at_row hx
        obtain ⟨x0, x1, x2, x3, x4⟩ := x
        have d0 := HKW.out.cell (hcell 0 _ rfl) (fun h => h)
        have d1 := HKW.out.cell (hcell 1 _ rfl) (fun h => h)
        have d2 := HKW.out.cell (hcell 2 _ rfl) (fun h => h)
        have d3 := HKW.out.cell (hcell 3 _ rfl) (fun h => h)
        have d4 := HKW.out.cell (hcell 4 _ rfl) (fun h => h)
        rw [Nat.add_zero] at d0
        clear hx hcell
        go_upto_region 5 with (fail)
        clear d0 d1 d2 d3 d4
        have kb := keep_cells wr (rowC ⟨x0, x1, x2, x3, x4⟩).toArray 67
        have HX5 := Lib.hid (BoxL.new wr (rowC ⟨x0, x1, x2, x3, x4⟩) 67)
        have HQ5 := Lib.hid (HQW.out.kept kb)
        have HK5 := Lib.hid (HK.out.trans (kb.mono (fun _ h => h.elim)))
        have HMR5 := Lib.hid (HMR.out.of_heap (kb.block _ HMR.out.lt (fun h => h)))
        have e1 : wr.alloc (.cells #[.int .i64 x0, .int .i64 x1, .int .i64 x2, .int .i64 x3, .int .i64 x4] 67) = wr.alloc (.cells (rowC ⟨x0, x1, x2, x3, x4⟩).toArray 67) := rfl
        rw [e1]
        clear e1 kb
        generalize wr.alloc (.cells (rowC ⟨x0, x1, x2, x3, x4⟩).toArray 67) = W5 at *
        generalize wr.heap.size = zx at *
        have hlk := jRel_look HMR5.out HXF.out.2.1
        rw [lookV_tuple] at hlk
        simp only [] at hlk
        have HOLD := Lib.hid (jRel_old (ot := q6) (l := others.take i) (x := ⟨x0, x1, x2, x3, x4⟩))
        have HPUT := Lib.hid (jRel_put (ot := q6) (l := others.take i) (x := ⟨x0, x1, x2, x3, x4⟩))
        obtain ⟨o, ho⟩ : ∃ o, partR q6 (others.take i) x1 = o := ⟨_, rfl⟩
        have HO2 := Lib.hid ho
        rw [ho] at hlk
        obtain ⟨⟨r0, r1, r2, r3, r4⟩, hr⟩ : ∃ r, o.getD ⟨0, 0, 0, 0, 0⟩ = r := ⟨_, rfl⟩
        rw [hr] at hlk
        obtain ⟨th, hth⟩ : ∃ th, o.isSome = th := ⟨_, rfl⟩
        rw [hth] at hlk
        have HTH := Lib.hid hth
        clear ho hr hth
        simp only [rowV] at hlk
        obtain ⟨d0, d1, d2, d3, d4⟩ := HX5.out.row
        simp only [] at d0 d1 d2 d3 d4
        go_upto_region 6 with (fail)
        clear hlk d0 d1 d2 d3 d4
        have kc := keep_cells W5 (rowC ⟨r0, r1, r2, r3, r4⟩).toArray 67
        have HX6 := Lib.hid (HX5.out.kept kc)
        have HQ6 := Lib.hid (HQ5.out.kept kc)
        have HK6 := Lib.hid (HK5.out.trans (kc.mono (fun _ h => h.elim)))
        have HMR6 := Lib.hid (HMR5.out.of_heap (kc.block _ HMR5.out.lt (fun h => h)))
        have e1 : W5.alloc (.cells #[.int .i64 r0, .int .i64 r1, .int .i64 r2, .int .i64 r3, .int .i64 r4] 67) = W5.alloc (.cells (rowC ⟨r0, r1, r2, r3, r4⟩).toArray 67) := rfl
        rw [e1]
        clear e1 kc HX5 HQ5 HK5 HMR5
        generalize W5.alloc (.cells (rowC ⟨r0, r1, r2, r3, r4⟩).toArray 67) = W6 at *
        generalize W5.heap.size = zy at *
        obtain ⟨d0, d1, d2, d3, d4⟩ := HX6.out.row
        obtain ⟨-, -, -, -, -, -, c6⟩ := HQ6.out.cells
        simp only [] at d0 d1 d2 d3 d4 c6
        by_cases hx0 : x0 = q6
        · have hxb : (x0 == q6) = true := by simpa using hx0
          cases th with
          | true =>
            have HOL : Hid (∀ k v, jRel q6 (others.take (i + 1)) k v ↔ jRel q6 (others.take i) k v) := Lib.hid (fun k v => by
              rw [HTK.out]
              exact HOLD.out (fun _ => Option.isSome_iff_exists.1 (by rw [show R5.ky ⟨x0, x1, x2, x3, x4⟩ = x1 from rfl, HO2.out]; exact HTH.out)) k v)
            clear hx0
            go_wp2_with fail
            go_roundg (gk - 1)
            case rel => exact ⟨i + 1, by omega, by go_num, HMR6.out.congr HOL.out, HK6.out⟩
            case measure => omega
          | false =>
            obtain ⟨es, ck, hup, hmr7⟩ := HMR6.out.update intKeyedE Tryz.underlying151 (keyI HXF.out.2.1) (rowV ⟨x0, x1, x2, x3, x4⟩)
            have hmr8 := hmr7.congr (R' := jRel q6 (others.take (i + 1))) (fun k v => by
              rw [HTK.out]
              refine HPUT.out hx0 ?_ k v
              have h1 := HTH.out
              rw [show R5.ky ⟨x0, x1, x2, x3, x4⟩ = x1 from rfl, HO2.out]
              cases o with
              | none => rfl
              | some _ => cases h1)
            have HMR8 := Lib.hid hmr8
            have HK8 := Lib.hid (HK6.out.putObj (.map es ck) (.inl rfl))
            clear hmr7 hmr8 hx0
            simp only [rowV] at hup
            go_wp2_with fail
            clear hup
            go_roundg (gk - 1)
            case rel => exact ⟨i + 1, by omega, by go_num, HMR8.out, HK8.out⟩
            case measure => omega
        · have hxb : (x0 == q6) = false := by simpa using hx0
          have HOL : Hid (∀ k v, jRel q6 (others.take (i + 1)) k v ↔ jRel q6 (others.take i) k v) := Lib.hid (fun k v => by
            rw [HTK.out]
            exact HOLD.out (fun h => absurd h hx0) k v)
          clear hx0
          go_wp2_with fail
          go_roundg (gk - 1)
          case rel => exact ⟨i + 1, by omega, by go_num, HMR6.out.congr HOL.out, HK6.out⟩
          case measure => omega
      · have hinz : ¬ (i : Int) < (m : Int) := by omega
        have HTK : Hid (others.take i = others) := Lib.hid (List.take_of_length_le (by have := HM.out; omega))
        have HMRF : Hid (MapRel Tryz.prog 3 wr mb (jRel q6 others)) := Lib.hid (by have h1 := HMR.out; rw [HTK.out] at h1; exact h1)
        obtain ⟨e0, e1, e2, e3, e4, e5, e6⟩ := HQW.out.cells
        simp only [] at e0 e1 e2 e3 e4 e5 e6
        have HMS := Lib.hid (meas_any ⟨q0, q1, q2, q3, q4, q5, q6⟩ (.slice a1 n c1) rows wr (HR.out.kept HKW.out) (by have := HNR.out; have := HN1.out; omega) HF1.out)
        go_wp2_with fail
        clear e0 e1 e2 e3 e4 e5 e6 hinz hin
        generalize wr = WR at *
        with_reducible refine HMS.out.mono ?_
        rintro e W3 ⟨vm, rfl, hits, k3⟩
        obtain ⟨a3, c3, b3, off3, rfl, hc3, ha3, hcell3⟩ := hits.at_
        have HML : Hid ((measR ⟨q0, q1, q2, q3, q4, q5, q6⟩ rows).length = n) := Lib.hid (by rw [measR, List.length_map, HNR.out])
        have HBD := Lib.hid hits.bd
        rw [HML.out] at hc3 ha3 ⊢
        have HA3 := Lib.hid ha3
        have HC3 := Lib.hid hcell3
        have HK3 := Lib.hid (HKW.out.trans k3)
        have HM3 := Lib.hid (HMRF.out.of_heap (k3.block _ HMRF.out.lt (fun h => h)))
        clear hits ha3 hcell3 k3 HMS
        go_wp2_with fail
        go_loopg [6, 48] n (fun gh v6 v48 wr => ∃ i : Nat, gh + i = n ∧ v48 = .int .i64 i ∧ wr.ownsRow W3.heap.size 67 5 v6 (joinR ⟨q0, q1, q2, q3, q4, q5, q6⟩ (rows.take i) others).length (flatR (joinR ⟨q0, q1, q2, q3, q4, q5, q6⟩ (rows.take i) others)) ∧ Keep (fun _ => False) W3 wr)
        case atStart => exact ⟨0, by omega, rfl, by simpa [joinR, flatR] using World.ownsRow_nil W3 W3.heap.size 67 5, Keep.refl _ _⟩
        case round =>
          as_aux_lemma =>
            obtain ⟨i2, hg2, rfl, hown, hk⟩ := hrel
            have HOW := Lib.hid hown
            have HK := Lib.hid hk
            have HKX := Lib.hid (HK3.out.trans hk)
            have HMX := Lib.hid (HM3.out.of_heap (hk.block _ HM3.out.lt (fun h => h)))
            have HVN : Hid (∀ b, u6.ownBlock = some b → W3.heap.size ≤ b) := Lib.hid (fun b hb => (hown.lt b hb).1)
            have hnb := HN1.out
            clear hown hk
            by_cases hin : i2 < n
            · have hinz : (i2 : Int) < (n : Int) := by omega
              have hi0 : (0 : Int) ≤ (i2 : Int) := by omega
              obtain ⟨x, hx⟩ : ∃ x, rows[i2]? = some x := ⟨_, List.getElem?_eq_getElem (by have := HNR.out; omega)⟩
              have hxm : (measR ⟨q0, q1, q2, q3, q4, q5, q6⟩ rows)[i2]? = some (x.val q5) := by rw [measR, List.getElem?_map, hx]; rfl
              obtain rfl := HA3.out (by omega)
              have hmc := HK.out.cell (HC3.out i2 _ hxm) (fun h => h)
              have hyb := HBD.out _ (List.mem_of_getElem? hxm)
              have HJT : Hid (joinR ⟨q0, q1, q2, q3, q4, q5, q6⟩ (rows.take (i2 + 1)) others = joinR ⟨q0, q1, q2, q3, q4, q5, q6⟩ (rows.take i2) others ++ pairR ⟨q0, q1, q2, q3, q4, q5, q6⟩ others x) := Lib.hid (by
                rw [List.take_add_one, hx, joinR, List.flatMap_append]
                simp [joinR])
              have HPR : Hid (pairR ⟨q0, q1, q2, q3, q4, q5, q6⟩ others x = match partR q6 others (x.val q5) with | some r => [x, r] | none => []) := Lib.hid rfl
              have HJL : Hid ((joinR ⟨q0, q1, q2, q3, q4, q5, q6⟩ (rows.take i2) others).length ≤ 2 * i2) := Lib.hid (by
                refine Nat.le_trans (joinR_len _ _ _) ?_
                rw [List.length_take]
                omega)
              obtain ⟨b, off, rfl, hcell⟩ := HR.out.at_row hx
              have HXC := Lib.hid hcell
              have hlk := jRel_look HMX.out hyb
              generalize R5.val x q5 = y at *
              rw [lookV_tuple] at hlk
              obtain ⟨o, ho⟩ : ∃ o, partR q6 others y = o := ⟨_, rfl⟩
              rw [ho] at hlk HPR
              obtain ⟨⟨r0, r1, r2, r3, r4⟩, hr⟩ : ∃ r, o.getD ⟨0, 0, 0, 0, 0⟩ = r := ⟨_, rfl⟩
              rw [hr] at hlk
              obtain ⟨th, hth⟩ : ∃ th, o.isSome = th := ⟨_, rfl⟩
              rw [hth] at hlk
              have HTH := Lib.hid hth
              have HRR := Lib.hid hr
              clear ho hr hth hx hxm hyb hcell
              simp only [rowV] at hlk
              go_upto_region 13 with (fail)
              clear hlk hmc
              have kb := keep_cells wr (rowC ⟨r0, r1, r2, r3, r4⟩).toArray 67
              have HX5 := Lib.hid (BoxL.new wr (rowC ⟨r0, r1, r2, r3, r4⟩) 67)
              have HK5 := Lib.hid (HK.out.trans kb)
              have HKX5 := Lib.hid (HKX.out.trans kb)
              have HOW5 := Lib.hid (ownsRow_keep HOW.out kb (fun _ _ h => h))
              have e1 : wr.alloc (.cells #[.int .i64 r0, .int .i64 r1, .int .i64 r2, .int .i64 r3, .int .i64 r4] 67) = wr.alloc (.cells (rowC ⟨r0, r1, r2, r3, r4⟩).toArray 67) := rfl
              rw [e1]
              clear e1 kb HOW
              generalize wr.alloc (.cells (rowC ⟨r0, r1, r2, r3, r4⟩).toArray 67) = W5 at *
              generalize wr.heap.size = zx at *
              cases th with
              | false =>
                have HJ2 : Hid (joinR ⟨q0, q1, q2, q3, q4, q5, q6⟩ (rows.take (i2 + 1)) others = joinR ⟨q0, q1, q2, q3, q4, q5, q6⟩ (rows.take i2) others) := Lib.hid (by
                  have h1 := HTH.out
                  rw [HJT.out, HPR.out]
                  cases o with
                  | none => simp
                  | some _ => cases h1)
                go_wp2_with fail
                go_roundg (gk - 1)
                case rel => exact ⟨i2 + 1, by omega, by go_num, by rw [HJ2.out]; exact HOW5.out, HK5.out⟩
                case measure => omega
              | true =>
                have HJ2 : Hid (joinR ⟨q0, q1, q2, q3, q4, q5, q6⟩ (rows.take (i2 + 1)) others = joinR ⟨q0, q1, q2, q3, q4, q5, q6⟩ (rows.take i2) others ++ [x, ⟨r0, r1, r2, r3, r4⟩]) := Lib.hid (by
                  have h1 := HTH.out
                  have h2 := HRR.out
                  rw [HJT.out, HPR.out]
                  cases o with
                  | none => cases h1
                  | some r => rw [← h2]; rfl)
                obtain ⟨x0, x1, x2, x3, x4⟩ := x
                have HB0 : Hid (¬ W3.heap.size ≤ b) := Lib.hid (by have h1 := World.block_lt_of_cell? _ _ (HXC.out 0 _ rfl); have h2 := HK3.out.size; simp only [] at h1; omega)
                have a0 : ∀ u : KA (fun j => W3.heap.size ≤ j) W5, u.val.cell? ⟨b, off + i2 * 5, none⟩ = some (.int .i64 x0) := fun u => u.k.cell (HKX5.out.cell (HXC.out 0 _ rfl) (fun h => h)) HB0.out
                have a1 : ∀ u : KA (fun j => W3.heap.size ≤ j) W5, u.val.cell? ⟨b, off + i2 * 5 + 1, none⟩ = some (.int .i64 x1) := fun u => u.k.cell (HKX5.out.cell (HXC.out 1 _ rfl) (fun h => h)) HB0.out
                have a2' : ∀ u : KA (fun j => W3.heap.size ≤ j) W5, u.val.cell? ⟨b, off + i2 * 5 + 2, none⟩ = some (.int .i64 x2) := fun u => u.k.cell (HKX5.out.cell (HXC.out 2 _ rfl) (fun h => h)) HB0.out
                have a3 : ∀ u : KA (fun j => W3.heap.size ≤ j) W5, u.val.cell? ⟨b, off + i2 * 5 + 3, none⟩ = some (.int .i64 x3) := fun u => u.k.cell (HKX5.out.cell (HXC.out 3 _ rfl) (fun h => h)) HB0.out
                have a4 : ∀ u : KA (fun j => W3.heap.size ≤ j) W5, u.val.cell? ⟨b, off + i2 * 5 + 4, none⟩ = some (.int .i64 x4) := fun u => u.k.cell (HKX5.out.cell (HXC.out 4 _ rfl) (fun h => h)) HB0.out
                have b0 := (HX5.out.kept (Keep.refl _ W5).drew).row
                simp only [] at b0
                obtain ⟨b0, b1, b2, b3', b4⟩ := b0
                go_upto_region 14 with (fail)
                refine wp_region_walk [(true, 0), (true, 1), (true, 2), (true, 3), (true, 4), (false, 5), (false, 6), (false, 7), (false, 8)] (inKA (fun j => W3.heap.size ≤ j) W5) (by decide +kernel) (by decide +kernel) ?_
                iterate 5 (refine walkW_read rfl (fun K hK => ?_); go_simp; refine hK _ ?_; clear hK K)
                clear a0 a1 a2' a3 a4
                have HKD1 : Hid (Keep (fun j => W3.heap.size ≤ j) W5 W5.drew) := Lib.hid (Keep.refl _ W5).drew
                refine walkW_do rfl (inKA.of HKD1.out) (fun K hK => ?_)
                go_simp
                refine hK _ _ ?_
                clear hK K b0 b1 b2 b3' b4
                have HKC0 := Lib.hid ((Keep.refl (fun _ => False) W5).drew.trans (keep_cells W5.drew (rowC ⟨x0, x1, x2, x3, x4⟩ ++ rowC ⟨r0, r1, r2, r3, r4⟩).toArray 67))
                have HW5 : Hid (W5.drew.heap.size = W5.heap.size) := Lib.hid rfl
                generalize W5.drew = WD at *
                have HKC := Lib.hid (HKD1.out.trans ((keep_cells WD (rowC ⟨x0, x1, x2, x3, x4⟩ ++ rowC ⟨r0, r1, r2, r3, r4⟩).toArray 67).mono (fun _ h => h.elim)))
                have HRW := Lib.hid (rwc_two WD ⟨x0, x1, x2, x3, x4⟩ ⟨r0, r1, r2, r3, r4⟩)
                refine walkW_do rfl (inKA.of HKD1.out) (fun K hK => ?_)
                rw [if_pos (by simp [Region.wanted])]
                refine wp_build2 rfl rfl rfl (run_build_two WD ⟨x0, x1, x2, x3, x4⟩ ⟨r0, r1, r2, r3, r4⟩) (hK _ _ ?_)
                clear hK K
                generalize WD.alloc (.cells (rowC ⟨x0, x1, x2, x3, x4⟩ ++ rowC ⟨r0, r1, r2, r3, r4⟩).toArray 67) = W6 at *
                have HOW6 := Lib.hid (ownsRow_keep HOW5.out HKC0.out (fun _ _ h => h))
                obtain ⟨v', W7, r1', r2', r3'⟩ := app_rows W6 40 W3.heap.size u6 (.slice (some ⟨WD.heap.size, 0, none⟩) 2 2) _ [⟨x0, x1, x2, x3, x4⟩, ⟨r0, r1, r2, r3, r4⟩] HOW6.out HRW.out (by have h1 := HJL.out; simp only [List.length_cons, List.length_nil]; omega) (by have h1 := HK5.out.size; have h2 := HKC0.out.size; omega)
                have HOW7 := Lib.hid r2'
                have HK7 := Lib.hid ((HK5.out.trans HKC0.out).trans' r3' (fun j hj => .inr (HVN.out j hj)))
                have HK57 := Lib.hid (Keep.trans' (A := fun j => W3.heap.size ≤ j) HKC.out r3' (fun j hj => .inl (HVN.out j hj)))
                have HRA := Lib.hid r1'
                clear r1' r2' r3'
                refine walkW_do rfl (inKA.of HKC.out) (fun K hK => ?_)
                rw [if_pos (by simp [Region.wanted])]
                refine wp_app (.tmp 60) (.tmp 66) 40 rfl rfl rfl HRA.out (hK _ _ ?_); clear hK K
                refine walkW_do rfl (inKA.of HK57.out) (fun K hK => ?_)
                go_simp
                refine hK _ _ ?_; clear hK K
                refine ⟨inKA.of HK57.out, ?_⟩
                go_wp2_with fail
                go_roundg (gk - 1)
                case rel => exact ⟨i2 + 1, by omega, by go_num, by rw [HJ2.out]; exact HOW7.out, HK7.out⟩
                case measure => omega
            · have hinz : ¬ (i2 : Int) < (n : Int) := by omega
              have HTK : Hid (rows.take i2 = rows) := Lib.hid (List.take_of_length_le (by have := HNR.out; omega))
              go_wp2_with fail
              go_ret
              exact ⟨_, rfl, by
                have h1 := HOW.out
                rw [HTK.out] at h1
                exact (rwc_own h1).1.rws (by have h2 := joinR_len ⟨q0, q1, q2, q3, q4, q5, q6⟩ rows others; have := HNR.out; have := HN1.out; omega), HKX.out, fun b hb => Nat.le_trans HK3.out.size (HVN.out b hb)⟩
end Go.Proofs.YtcnpncndecjahaaGreatDoor

/-
  within, Valid of package query and of the reference.
-/
namespace Go.Proofs.YtcnpncndecjahaaGreatDoor
open Go.RowKit Go.Shelf

set_option maxRecDepth 100000 in
set_option maxHeartbeats 1000000 in
theorem within_any (n a b : Int) (w : World) : Calls Tryz.prog 54 #[.int .i64 n, .int .i64 a, .int .i64 b] w fun e w' => e = .returned (.bool (decide (a ≤ n ∧ n ≤ b))) ∧ w = w' := by
  obtain ⟨r, hr⟩ : ∃ r, decide (a ≤ n ∧ n ≤ b) = r := ⟨_, rfl⟩
  have HR := Lib.hid hr
  rw [hr]
  clear hr
  go_enter Tryz.func54, Tryz.ntmps54
  by_cases h1 : a ≤ n
  · by_cases h2 : n ≤ b
    · go_wp2_with fail
      go_ret
      exact ⟨by rw [← HR.out, decide_eq_true (⟨h1, h2⟩ : a ≤ n ∧ n ≤ b)]; rfl, rfl⟩
    · go_wp2_with fail
      go_ret
      exact ⟨by rw [← HR.out, decide_eq_false (by omega : ¬ (a ≤ n ∧ n ≤ b))]; rfl, rfl⟩
  · go_wp2_with fail
    go_ret
    exact ⟨by rw [← HR.out, decide_eq_false (by omega : ¬ (a ≤ n ∧ n ≤ b))]; rfl, rfl⟩
set_option maxRecDepth 100000 in
set_option maxHeartbeats 16000000 in
theorem valid_any (q : Qy) (w : World) : Calls Tryz.prog 30 #[qV q] w fun e w' => e = .returned (.bool (decide q.ok)) ∧ Keep (fun _ => False) w w' := by
  obtain ⟨r, hr⟩ : ∃ r, decide q.ok = r := ⟨_, rfl⟩
  have HR := Lib.hid hr
  rw [hr]
  clear hr
  obtain ⟨kd, tb, cl, lo, hi, bb, ot⟩ := q
  have HH : Hid True := Lib.hid trivial
  have K0 : Keep (fun _ => False) w (w.alloc (.cells #[.int .i64 kd, .int .i64 tb, .int .i64 cl, .int .i64 lo, .int .i64 hi, .int .i64 bb, .int .i64 ot] 37)) := (Keep.refl _ w).alloc _
  have HQ := QBox.new w ⟨kd, tb, cl, lo, hi, bb, ot⟩ 37
  have hz0 : w.heap.size ≤ w.heap.size := Nat.le_refl _
  go_enter Tryz.func30, Tryz.ntmps30
  go_upto_region 1 with (fail)
  obtain ⟨W0, hW0⟩ : ∃ W, w.alloc (.cells #[.int .i64 kd, .int .i64 tb, .int .i64 cl, .int .i64 lo, .int .i64 hi, .int .i64 bb, .int .i64 ot] 37) = W := ⟨_, rfl⟩
  rw [hW0] at K0 HQ ⊢
  clear hW0
  obtain ⟨z, hz⟩ : ∃ z, w.heap.size = z := ⟨_, rfl⟩
  rw [hz] at HQ ⊢
  have hz0 : w.heap.size ≤ z := by omega
  clear hz
  obtain ⟨c0, c1, c2, c3, c4, c5, c6⟩ := HQ.cells
  have hfz := HQ.2
  simp only at c0 c1 c2 c3 c4 c5 c6
  clear HQ
  rcases (by omega : kd = 1 ∨ kd = 2 ∨ kd = 3 ∨ kd = 4 ∨ kd = 5 ∨ kd = 6 ∨ kd = 7 ∨ (¬ kd = 1 ∧ ¬ kd = 2 ∧ ¬ kd = 3 ∧ ¬ kd = 4 ∧ ¬ kd = 5 ∧ ¬ kd = 6 ∧ ¬ kd = 7)) with rfl | rfl | rfl | rfl | rfl | rfl | rfl | hk
  · have HK : Hid ((1 : Int) = 1) := Lib.hid rfl
    go_wp2_with fail
    with_reducible refine (within_any ..).mono ?_
    rintro e W5 ⟨rfl, rfl⟩
    by_cases hc : 0 ≤ tb ∧ tb ≤ 3
    · rw [decide_eq_true hc]
      replace HH := Lib.hid (And.intro HH.out hc)
      clear hc
      go_wp2_with fail
      with_reducible refine (within_any ..).mono ?_
      rintro e W5 ⟨rfl, rfl⟩
      by_cases hc : 0 ≤ cl ∧ cl ≤ 3
      · rw [decide_eq_true hc]
        replace HH := Lib.hid (And.intro HH.out hc)
        clear hc
        go_wp2_with fail
        with_reducible refine (within_any ..).mono ?_
        rintro e W5 ⟨rfl, rfl⟩
        by_cases hc : -1000000000 ≤ lo ∧ lo ≤ hi
        · rw [decide_eq_true hc]
          replace HH := Lib.hid (And.intro HH.out hc)
          clear hc
          by_cases hc : hi ≤ 1000000000
          · have hb := hc
            replace HH := Lib.hid (And.intro HH.out hc)
            by_cases hc : cl = 0
            · have hb : (cl == 0) = true := by simpa using hc
              replace HH := Lib.hid (And.intro HH.out hc)
              clear hc
              by_cases hc : lo = hi
              · have hb : (lo == hi) = true := by simpa using hc
                replace HH := Lib.hid (And.intro HH.out hc)
                clear hc
                go_wp2_with fail
                with_reducible refine (within_any ..).mono ?_
                rintro e W5 ⟨rfl, rfl⟩
                by_cases hc : 1 ≤ lo ∧ lo ≤ 1000000
                · rw [decide_eq_true hc]
                  replace HH := Lib.hid (And.intro HH.out hc)
                  clear hc
                  by_cases hc : bb = 0
                  · have hb : (bb == 0) = true := by simpa using hc
                    replace HH := Lib.hid (And.intro HH.out hc)
                    clear hc
                    by_cases hc : ot = 0
                    · have hb : (ot == 0) = true := by simpa using hc
                      replace HH := Lib.hid (And.intro HH.out hc)
                      clear hc
                      go_wp2_with fail
                      first | go_ret | skip
                      have hval : r = true := HR.out.symm.trans (decide_eq_true (by have hk := HK.out; have hh := HH.out; unfold Qy.ok Qy.base Qy.form; dsimp only; omega))
                      refine ⟨by rw [hval]; rfl, ?_⟩
                      first | exact K0 | exact keep0 K0 hz0 ((Keep.refl (fun j => j = z) W0).setCell (p := ⟨z, 5, none⟩) _ (.inl rfl)) | exact keep0 K0 hz0 (((Keep.refl (fun j => j = z) W0).setCell (p := ⟨z, 6, none⟩) _ (.inl rfl)).setCell (p := ⟨z, 5, none⟩) _ (.inl rfl))
                    · have hb : (ot == 0) = false := by simpa using hc
                      replace HH := Lib.hid (And.intro HH.out hc)
                      clear hc
                      go_wp2_with fail
                      first | go_ret | skip
                      have hval : r = false := HR.out.symm.trans (decide_eq_false (by have hk := HK.out; have hh := HH.out; unfold Qy.ok Qy.base Qy.form; dsimp only; omega))
                      refine ⟨by rw [hval]; rfl, ?_⟩
                      first | exact K0 | exact keep0 K0 hz0 ((Keep.refl (fun j => j = z) W0).setCell (p := ⟨z, 5, none⟩) _ (.inl rfl)) | exact keep0 K0 hz0 (((Keep.refl (fun j => j = z) W0).setCell (p := ⟨z, 6, none⟩) _ (.inl rfl)).setCell (p := ⟨z, 5, none⟩) _ (.inl rfl))
                  · have hb : (bb == 0) = false := by simpa using hc
                    replace HH := Lib.hid (And.intro HH.out hc)
                    clear hc
                    go_wp2_with fail
                    first | go_ret | skip
                    have hval : r = false := HR.out.symm.trans (decide_eq_false (by have hk := HK.out; have hh := HH.out; unfold Qy.ok Qy.base Qy.form; dsimp only; omega))
                    refine ⟨by rw [hval]; rfl, ?_⟩
                    first | exact K0 | exact keep0 K0 hz0 ((Keep.refl (fun j => j = z) W0).setCell (p := ⟨z, 5, none⟩) _ (.inl rfl)) | exact keep0 K0 hz0 (((Keep.refl (fun j => j = z) W0).setCell (p := ⟨z, 6, none⟩) _ (.inl rfl)).setCell (p := ⟨z, 5, none⟩) _ (.inl rfl))
                · rw [decide_eq_false hc]
                  replace HH := Lib.hid (And.intro HH.out hc)
                  clear hc
                  go_wp2_with fail
                  first | go_ret | skip
                  have hval : r = false := HR.out.symm.trans (decide_eq_false (by have hk := HK.out; have hh := HH.out; unfold Qy.ok Qy.base Qy.form; dsimp only; omega))
                  refine ⟨by rw [hval]; rfl, ?_⟩
                  first | exact K0 | exact keep0 K0 hz0 ((Keep.refl (fun j => j = z) W0).setCell (p := ⟨z, 5, none⟩) _ (.inl rfl)) | exact keep0 K0 hz0 (((Keep.refl (fun j => j = z) W0).setCell (p := ⟨z, 6, none⟩) _ (.inl rfl)).setCell (p := ⟨z, 5, none⟩) _ (.inl rfl))
              · have hb : (lo == hi) = false := by simpa using hc
                replace HH := Lib.hid (And.intro HH.out hc)
                clear hc
                go_wp2_with fail
                first | go_ret | skip
                have hval : r = false := HR.out.symm.trans (decide_eq_false (by have hk := HK.out; have hh := HH.out; unfold Qy.ok Qy.base Qy.form; dsimp only; omega))
                refine ⟨by rw [hval]; rfl, ?_⟩
                first | exact K0 | exact keep0 K0 hz0 ((Keep.refl (fun j => j = z) W0).setCell (p := ⟨z, 5, none⟩) _ (.inl rfl)) | exact keep0 K0 hz0 (((Keep.refl (fun j => j = z) W0).setCell (p := ⟨z, 6, none⟩) _ (.inl rfl)).setCell (p := ⟨z, 5, none⟩) _ (.inl rfl))
            · have hb : (cl == 0) = false := by simpa using hc
              replace HH := Lib.hid (And.intro HH.out hc)
              clear hc
              go_wp2_with fail
              first | go_ret | skip
              have hval : r = false := HR.out.symm.trans (decide_eq_false (by have hk := HK.out; have hh := HH.out; unfold Qy.ok Qy.base Qy.form; dsimp only; omega))
              refine ⟨by rw [hval]; rfl, ?_⟩
              first | exact K0 | exact keep0 K0 hz0 ((Keep.refl (fun j => j = z) W0).setCell (p := ⟨z, 5, none⟩) _ (.inl rfl)) | exact keep0 K0 hz0 (((Keep.refl (fun j => j = z) W0).setCell (p := ⟨z, 6, none⟩) _ (.inl rfl)).setCell (p := ⟨z, 5, none⟩) _ (.inl rfl))
          · have hb := hc
            replace HH := Lib.hid (And.intro HH.out hc)
            go_wp2_with fail
            first | go_ret | skip
            have hval : r = false := HR.out.symm.trans (decide_eq_false (by have hk := HK.out; have hh := HH.out; unfold Qy.ok Qy.base Qy.form; dsimp only; omega))
            refine ⟨by rw [hval]; rfl, ?_⟩
            first | exact K0 | exact keep0 K0 hz0 ((Keep.refl (fun j => j = z) W0).setCell (p := ⟨z, 5, none⟩) _ (.inl rfl)) | exact keep0 K0 hz0 (((Keep.refl (fun j => j = z) W0).setCell (p := ⟨z, 6, none⟩) _ (.inl rfl)).setCell (p := ⟨z, 5, none⟩) _ (.inl rfl))
        · rw [decide_eq_false hc]
          replace HH := Lib.hid (And.intro HH.out hc)
          clear hc
          go_wp2_with fail
          first | go_ret | skip
          have hval : r = false := HR.out.symm.trans (decide_eq_false (by have hk := HK.out; have hh := HH.out; unfold Qy.ok Qy.base Qy.form; dsimp only; omega))
          refine ⟨by rw [hval]; rfl, ?_⟩
          first | exact K0 | exact keep0 K0 hz0 ((Keep.refl (fun j => j = z) W0).setCell (p := ⟨z, 5, none⟩) _ (.inl rfl)) | exact keep0 K0 hz0 (((Keep.refl (fun j => j = z) W0).setCell (p := ⟨z, 6, none⟩) _ (.inl rfl)).setCell (p := ⟨z, 5, none⟩) _ (.inl rfl))
      · rw [decide_eq_false hc]
        replace HH := Lib.hid (And.intro HH.out hc)
        clear hc
        go_wp2_with fail
        first | go_ret | skip
        have hval : r = false := HR.out.symm.trans (decide_eq_false (by have hk := HK.out; have hh := HH.out; unfold Qy.ok Qy.base Qy.form; dsimp only; omega))
        refine ⟨by rw [hval]; rfl, ?_⟩
        first | exact K0 | exact keep0 K0 hz0 ((Keep.refl (fun j => j = z) W0).setCell (p := ⟨z, 5, none⟩) _ (.inl rfl)) | exact keep0 K0 hz0 (((Keep.refl (fun j => j = z) W0).setCell (p := ⟨z, 6, none⟩) _ (.inl rfl)).setCell (p := ⟨z, 5, none⟩) _ (.inl rfl))
    · rw [decide_eq_false hc]
      replace HH := Lib.hid (And.intro HH.out hc)
      clear hc
      go_wp2_with fail
      first | go_ret | skip
      have hval : r = false := HR.out.symm.trans (decide_eq_false (by have hk := HK.out; have hh := HH.out; unfold Qy.ok Qy.base Qy.form; dsimp only; omega))
      refine ⟨by rw [hval]; rfl, ?_⟩
      first | exact K0 | exact keep0 K0 hz0 ((Keep.refl (fun j => j = z) W0).setCell (p := ⟨z, 5, none⟩) _ (.inl rfl)) | exact keep0 K0 hz0 (((Keep.refl (fun j => j = z) W0).setCell (p := ⟨z, 6, none⟩) _ (.inl rfl)).setCell (p := ⟨z, 5, none⟩) _ (.inl rfl))
  · have HK : Hid ((2 : Int) = 2) := Lib.hid rfl
    go_wp2_with fail
    with_reducible refine (within_any ..).mono ?_
    rintro e W5 ⟨rfl, rfl⟩
    by_cases hc : 0 ≤ tb ∧ tb ≤ 3
    · rw [decide_eq_true hc]
      replace HH := Lib.hid (And.intro HH.out hc)
      clear hc
      go_wp2_with fail
      with_reducible refine (within_any ..).mono ?_
      rintro e W5 ⟨rfl, rfl⟩
      by_cases hc : 0 ≤ cl ∧ cl ≤ 3
      · rw [decide_eq_true hc]
        replace HH := Lib.hid (And.intro HH.out hc)
        clear hc
        go_wp2_with fail
        with_reducible refine (within_any ..).mono ?_
        rintro e W5 ⟨rfl, rfl⟩
        by_cases hc : -1000000000 ≤ lo ∧ lo ≤ hi
        · rw [decide_eq_true hc]
          replace HH := Lib.hid (And.intro HH.out hc)
          clear hc
          by_cases hc : hi ≤ 1000000000
          · have hb := hc
            replace HH := Lib.hid (And.intro HH.out hc)
            by_cases hc : bb = 0
            · have hb : (bb == 0) = true := by simpa using hc
              replace HH := Lib.hid (And.intro HH.out hc)
              clear hc
              by_cases hc : ot = 0
              · have hb : (ot == 0) = true := by simpa using hc
                replace HH := Lib.hid (And.intro HH.out hc)
                clear hc
                go_wp2_with fail
                first | go_ret | skip
                have hval : r = true := HR.out.symm.trans (decide_eq_true (by have hk := HK.out; have hh := HH.out; unfold Qy.ok Qy.base Qy.form; dsimp only; omega))
                refine ⟨by rw [hval]; rfl, ?_⟩
                first | exact K0 | exact keep0 K0 hz0 ((Keep.refl (fun j => j = z) W0).setCell (p := ⟨z, 5, none⟩) _ (.inl rfl)) | exact keep0 K0 hz0 (((Keep.refl (fun j => j = z) W0).setCell (p := ⟨z, 6, none⟩) _ (.inl rfl)).setCell (p := ⟨z, 5, none⟩) _ (.inl rfl))
              · have hb : (ot == 0) = false := by simpa using hc
                replace HH := Lib.hid (And.intro HH.out hc)
                clear hc
                go_wp2_with fail
                first | go_ret | skip
                have hval : r = false := HR.out.symm.trans (decide_eq_false (by have hk := HK.out; have hh := HH.out; unfold Qy.ok Qy.base Qy.form; dsimp only; omega))
                refine ⟨by rw [hval]; rfl, ?_⟩
                first | exact K0 | exact keep0 K0 hz0 ((Keep.refl (fun j => j = z) W0).setCell (p := ⟨z, 5, none⟩) _ (.inl rfl)) | exact keep0 K0 hz0 (((Keep.refl (fun j => j = z) W0).setCell (p := ⟨z, 6, none⟩) _ (.inl rfl)).setCell (p := ⟨z, 5, none⟩) _ (.inl rfl))
            · have hb : (bb == 0) = false := by simpa using hc
              replace HH := Lib.hid (And.intro HH.out hc)
              clear hc
              go_wp2_with fail
              first | go_ret | skip
              have hval : r = false := HR.out.symm.trans (decide_eq_false (by have hk := HK.out; have hh := HH.out; unfold Qy.ok Qy.base Qy.form; dsimp only; omega))
              refine ⟨by rw [hval]; rfl, ?_⟩
              first | exact K0 | exact keep0 K0 hz0 ((Keep.refl (fun j => j = z) W0).setCell (p := ⟨z, 5, none⟩) _ (.inl rfl)) | exact keep0 K0 hz0 (((Keep.refl (fun j => j = z) W0).setCell (p := ⟨z, 6, none⟩) _ (.inl rfl)).setCell (p := ⟨z, 5, none⟩) _ (.inl rfl))
          · have hb := hc
            replace HH := Lib.hid (And.intro HH.out hc)
            go_wp2_with fail
            first | go_ret | skip
            have hval : r = false := HR.out.symm.trans (decide_eq_false (by have hk := HK.out; have hh := HH.out; unfold Qy.ok Qy.base Qy.form; dsimp only; omega))
            refine ⟨by rw [hval]; rfl, ?_⟩
            first | exact K0 | exact keep0 K0 hz0 ((Keep.refl (fun j => j = z) W0).setCell (p := ⟨z, 5, none⟩) _ (.inl rfl)) | exact keep0 K0 hz0 (((Keep.refl (fun j => j = z) W0).setCell (p := ⟨z, 6, none⟩) _ (.inl rfl)).setCell (p := ⟨z, 5, none⟩) _ (.inl rfl))
        · rw [decide_eq_false hc]
          replace HH := Lib.hid (And.intro HH.out hc)
          clear hc
          go_wp2_with fail
          first | go_ret | skip
          have hval : r = false := HR.out.symm.trans (decide_eq_false (by have hk := HK.out; have hh := HH.out; unfold Qy.ok Qy.base Qy.form; dsimp only; omega))
          refine ⟨by rw [hval]; rfl, ?_⟩
          first | exact K0 | exact keep0 K0 hz0 ((Keep.refl (fun j => j = z) W0).setCell (p := ⟨z, 5, none⟩) _ (.inl rfl)) | exact keep0 K0 hz0 (((Keep.refl (fun j => j = z) W0).setCell (p := ⟨z, 6, none⟩) _ (.inl rfl)).setCell (p := ⟨z, 5, none⟩) _ (.inl rfl))
      · rw [decide_eq_false hc]
        replace HH := Lib.hid (And.intro HH.out hc)
        clear hc
        go_wp2_with fail
        first | go_ret | skip
        have hval : r = false := HR.out.symm.trans (decide_eq_false (by have hk := HK.out; have hh := HH.out; unfold Qy.ok Qy.base Qy.form; dsimp only; omega))
        refine ⟨by rw [hval]; rfl, ?_⟩
        first | exact K0 | exact keep0 K0 hz0 ((Keep.refl (fun j => j = z) W0).setCell (p := ⟨z, 5, none⟩) _ (.inl rfl)) | exact keep0 K0 hz0 (((Keep.refl (fun j => j = z) W0).setCell (p := ⟨z, 6, none⟩) _ (.inl rfl)).setCell (p := ⟨z, 5, none⟩) _ (.inl rfl))
    · rw [decide_eq_false hc]
      replace HH := Lib.hid (And.intro HH.out hc)
      clear hc
      go_wp2_with fail
      first | go_ret | skip
      have hval : r = false := HR.out.symm.trans (decide_eq_false (by have hk := HK.out; have hh := HH.out; unfold Qy.ok Qy.base Qy.form; dsimp only; omega))
      refine ⟨by rw [hval]; rfl, ?_⟩
      first | exact K0 | exact keep0 K0 hz0 ((Keep.refl (fun j => j = z) W0).setCell (p := ⟨z, 5, none⟩) _ (.inl rfl)) | exact keep0 K0 hz0 (((Keep.refl (fun j => j = z) W0).setCell (p := ⟨z, 6, none⟩) _ (.inl rfl)).setCell (p := ⟨z, 5, none⟩) _ (.inl rfl))
  · have HK : Hid ((3 : Int) = 3) := Lib.hid rfl
    go_wp2_with fail
    with_reducible refine (within_any ..).mono ?_
    rintro e W5 ⟨rfl, rfl⟩
    by_cases hc : 0 ≤ tb ∧ tb ≤ 3
    · rw [decide_eq_true hc]
      replace HH := Lib.hid (And.intro HH.out hc)
      clear hc
      go_wp2_with fail
      with_reducible refine (within_any ..).mono ?_
      rintro e W5 ⟨rfl, rfl⟩
      by_cases hc : 0 ≤ cl ∧ cl ≤ 3
      · rw [decide_eq_true hc]
        replace HH := Lib.hid (And.intro HH.out hc)
        clear hc
        go_wp2_with fail
        with_reducible refine (within_any ..).mono ?_
        rintro e W5 ⟨rfl, rfl⟩
        by_cases hc : -1000000000 ≤ lo ∧ lo ≤ hi
        · rw [decide_eq_true hc]
          replace HH := Lib.hid (And.intro HH.out hc)
          clear hc
          by_cases hc : hi ≤ 1000000000
          · have hb := hc
            replace HH := Lib.hid (And.intro HH.out hc)
            by_cases hc : bb = 0
            · have hb : (bb == 0) = true := by simpa using hc
              replace HH := Lib.hid (And.intro HH.out hc)
              clear hc
              by_cases hc : ot = 0
              · have hb : (ot == 0) = true := by simpa using hc
                replace HH := Lib.hid (And.intro HH.out hc)
                clear hc
                go_wp2_with fail
                first | go_ret | skip
                have hval : r = true := HR.out.symm.trans (decide_eq_true (by have hk := HK.out; have hh := HH.out; unfold Qy.ok Qy.base Qy.form; dsimp only; omega))
                refine ⟨by rw [hval]; rfl, ?_⟩
                first | exact K0 | exact keep0 K0 hz0 ((Keep.refl (fun j => j = z) W0).setCell (p := ⟨z, 5, none⟩) _ (.inl rfl)) | exact keep0 K0 hz0 (((Keep.refl (fun j => j = z) W0).setCell (p := ⟨z, 6, none⟩) _ (.inl rfl)).setCell (p := ⟨z, 5, none⟩) _ (.inl rfl))
              · have hb : (ot == 0) = false := by simpa using hc
                replace HH := Lib.hid (And.intro HH.out hc)
                clear hc
                go_wp2_with fail
                first | go_ret | skip
                have hval : r = false := HR.out.symm.trans (decide_eq_false (by have hk := HK.out; have hh := HH.out; unfold Qy.ok Qy.base Qy.form; dsimp only; omega))
                refine ⟨by rw [hval]; rfl, ?_⟩
                first | exact K0 | exact keep0 K0 hz0 ((Keep.refl (fun j => j = z) W0).setCell (p := ⟨z, 5, none⟩) _ (.inl rfl)) | exact keep0 K0 hz0 (((Keep.refl (fun j => j = z) W0).setCell (p := ⟨z, 6, none⟩) _ (.inl rfl)).setCell (p := ⟨z, 5, none⟩) _ (.inl rfl))
            · have hb : (bb == 0) = false := by simpa using hc
              replace HH := Lib.hid (And.intro HH.out hc)
              clear hc
              go_wp2_with fail
              first | go_ret | skip
              have hval : r = false := HR.out.symm.trans (decide_eq_false (by have hk := HK.out; have hh := HH.out; unfold Qy.ok Qy.base Qy.form; dsimp only; omega))
              refine ⟨by rw [hval]; rfl, ?_⟩
              first | exact K0 | exact keep0 K0 hz0 ((Keep.refl (fun j => j = z) W0).setCell (p := ⟨z, 5, none⟩) _ (.inl rfl)) | exact keep0 K0 hz0 (((Keep.refl (fun j => j = z) W0).setCell (p := ⟨z, 6, none⟩) _ (.inl rfl)).setCell (p := ⟨z, 5, none⟩) _ (.inl rfl))
          · have hb := hc
            replace HH := Lib.hid (And.intro HH.out hc)
            go_wp2_with fail
            first | go_ret | skip
            have hval : r = false := HR.out.symm.trans (decide_eq_false (by have hk := HK.out; have hh := HH.out; unfold Qy.ok Qy.base Qy.form; dsimp only; omega))
            refine ⟨by rw [hval]; rfl, ?_⟩
            first | exact K0 | exact keep0 K0 hz0 ((Keep.refl (fun j => j = z) W0).setCell (p := ⟨z, 5, none⟩) _ (.inl rfl)) | exact keep0 K0 hz0 (((Keep.refl (fun j => j = z) W0).setCell (p := ⟨z, 6, none⟩) _ (.inl rfl)).setCell (p := ⟨z, 5, none⟩) _ (.inl rfl))
        · rw [decide_eq_false hc]
          replace HH := Lib.hid (And.intro HH.out hc)
          clear hc
          go_wp2_with fail
          first | go_ret | skip
          have hval : r = false := HR.out.symm.trans (decide_eq_false (by have hk := HK.out; have hh := HH.out; unfold Qy.ok Qy.base Qy.form; dsimp only; omega))
          refine ⟨by rw [hval]; rfl, ?_⟩
          first | exact K0 | exact keep0 K0 hz0 ((Keep.refl (fun j => j = z) W0).setCell (p := ⟨z, 5, none⟩) _ (.inl rfl)) | exact keep0 K0 hz0 (((Keep.refl (fun j => j = z) W0).setCell (p := ⟨z, 6, none⟩) _ (.inl rfl)).setCell (p := ⟨z, 5, none⟩) _ (.inl rfl))
      · rw [decide_eq_false hc]
        replace HH := Lib.hid (And.intro HH.out hc)
        clear hc
        go_wp2_with fail
        first | go_ret | skip
        have hval : r = false := HR.out.symm.trans (decide_eq_false (by have hk := HK.out; have hh := HH.out; unfold Qy.ok Qy.base Qy.form; dsimp only; omega))
        refine ⟨by rw [hval]; rfl, ?_⟩
        first | exact K0 | exact keep0 K0 hz0 ((Keep.refl (fun j => j = z) W0).setCell (p := ⟨z, 5, none⟩) _ (.inl rfl)) | exact keep0 K0 hz0 (((Keep.refl (fun j => j = z) W0).setCell (p := ⟨z, 6, none⟩) _ (.inl rfl)).setCell (p := ⟨z, 5, none⟩) _ (.inl rfl))
    · rw [decide_eq_false hc]
      replace HH := Lib.hid (And.intro HH.out hc)
      clear hc
      go_wp2_with fail
      first | go_ret | skip
      have hval : r = false := HR.out.symm.trans (decide_eq_false (by have hk := HK.out; have hh := HH.out; unfold Qy.ok Qy.base Qy.form; dsimp only; omega))
      refine ⟨by rw [hval]; rfl, ?_⟩
      first | exact K0 | exact keep0 K0 hz0 ((Keep.refl (fun j => j = z) W0).setCell (p := ⟨z, 5, none⟩) _ (.inl rfl)) | exact keep0 K0 hz0 (((Keep.refl (fun j => j = z) W0).setCell (p := ⟨z, 6, none⟩) _ (.inl rfl)).setCell (p := ⟨z, 5, none⟩) _ (.inl rfl))
  · have HK : Hid ((4 : Int) = 4) := Lib.hid rfl
    go_wp2_with fail
    with_reducible refine (within_any ..).mono ?_
    rintro e W5 ⟨rfl, rfl⟩
    by_cases hc : 0 ≤ tb ∧ tb ≤ 3
    · rw [decide_eq_true hc]
      replace HH := Lib.hid (And.intro HH.out hc)
      clear hc
      go_wp2_with fail
      with_reducible refine (within_any ..).mono ?_
      rintro e W5 ⟨rfl, rfl⟩
      by_cases hc : 0 ≤ cl ∧ cl ≤ 3
      · rw [decide_eq_true hc]
        replace HH := Lib.hid (And.intro HH.out hc)
        clear hc
        go_wp2_with fail
        with_reducible refine (within_any ..).mono ?_
        rintro e W5 ⟨rfl, rfl⟩
        by_cases hc : -1000000000 ≤ lo ∧ lo ≤ hi
        · rw [decide_eq_true hc]
          replace HH := Lib.hid (And.intro HH.out hc)
          clear hc
          by_cases hc : hi ≤ 1000000000
          · have hb := hc
            replace HH := Lib.hid (And.intro HH.out hc)
            go_wp2_with fail
            with_reducible refine (within_any ..).mono ?_
            rintro e W5 ⟨rfl, rfl⟩
            by_cases hc : 1 ≤ bb ∧ bb ≤ 3
            · rw [decide_eq_true hc]
              replace HH := Lib.hid (And.intro HH.out hc)
              clear hc
              by_cases hc : ot = 0
              · have hb : (ot == 0) = true := by simpa using hc
                replace HH := Lib.hid (And.intro HH.out hc)
                clear hc
                go_wp2_with fail
                first | go_ret | skip
                have hval : r = true := HR.out.symm.trans (decide_eq_true (by have hk := HK.out; have hh := HH.out; unfold Qy.ok Qy.base Qy.form; dsimp only; omega))
                refine ⟨by rw [hval]; rfl, ?_⟩
                first | exact K0 | exact keep0 K0 hz0 ((Keep.refl (fun j => j = z) W0).setCell (p := ⟨z, 5, none⟩) _ (.inl rfl)) | exact keep0 K0 hz0 (((Keep.refl (fun j => j = z) W0).setCell (p := ⟨z, 6, none⟩) _ (.inl rfl)).setCell (p := ⟨z, 5, none⟩) _ (.inl rfl))
              · have hb : (ot == 0) = false := by simpa using hc
                replace HH := Lib.hid (And.intro HH.out hc)
                clear hc
                go_wp2_with fail
                first | go_ret | skip
                have hval : r = false := HR.out.symm.trans (decide_eq_false (by have hk := HK.out; have hh := HH.out; unfold Qy.ok Qy.base Qy.form; dsimp only; omega))
                refine ⟨by rw [hval]; rfl, ?_⟩
                first | exact K0 | exact keep0 K0 hz0 ((Keep.refl (fun j => j = z) W0).setCell (p := ⟨z, 5, none⟩) _ (.inl rfl)) | exact keep0 K0 hz0 (((Keep.refl (fun j => j = z) W0).setCell (p := ⟨z, 6, none⟩) _ (.inl rfl)).setCell (p := ⟨z, 5, none⟩) _ (.inl rfl))
            · rw [decide_eq_false hc]
              replace HH := Lib.hid (And.intro HH.out hc)
              clear hc
              go_wp2_with fail
              first | go_ret | skip
              have hval : r = false := HR.out.symm.trans (decide_eq_false (by have hk := HK.out; have hh := HH.out; unfold Qy.ok Qy.base Qy.form; dsimp only; omega))
              refine ⟨by rw [hval]; rfl, ?_⟩
              first | exact K0 | exact keep0 K0 hz0 ((Keep.refl (fun j => j = z) W0).setCell (p := ⟨z, 5, none⟩) _ (.inl rfl)) | exact keep0 K0 hz0 (((Keep.refl (fun j => j = z) W0).setCell (p := ⟨z, 6, none⟩) _ (.inl rfl)).setCell (p := ⟨z, 5, none⟩) _ (.inl rfl))
          · have hb := hc
            replace HH := Lib.hid (And.intro HH.out hc)
            go_wp2_with fail
            first | go_ret | skip
            have hval : r = false := HR.out.symm.trans (decide_eq_false (by have hk := HK.out; have hh := HH.out; unfold Qy.ok Qy.base Qy.form; dsimp only; omega))
            refine ⟨by rw [hval]; rfl, ?_⟩
            first | exact K0 | exact keep0 K0 hz0 ((Keep.refl (fun j => j = z) W0).setCell (p := ⟨z, 5, none⟩) _ (.inl rfl)) | exact keep0 K0 hz0 (((Keep.refl (fun j => j = z) W0).setCell (p := ⟨z, 6, none⟩) _ (.inl rfl)).setCell (p := ⟨z, 5, none⟩) _ (.inl rfl))
        · rw [decide_eq_false hc]
          replace HH := Lib.hid (And.intro HH.out hc)
          clear hc
          go_wp2_with fail
          first | go_ret | skip
          have hval : r = false := HR.out.symm.trans (decide_eq_false (by have hk := HK.out; have hh := HH.out; unfold Qy.ok Qy.base Qy.form; dsimp only; omega))
          refine ⟨by rw [hval]; rfl, ?_⟩
          first | exact K0 | exact keep0 K0 hz0 ((Keep.refl (fun j => j = z) W0).setCell (p := ⟨z, 5, none⟩) _ (.inl rfl)) | exact keep0 K0 hz0 (((Keep.refl (fun j => j = z) W0).setCell (p := ⟨z, 6, none⟩) _ (.inl rfl)).setCell (p := ⟨z, 5, none⟩) _ (.inl rfl))
      · rw [decide_eq_false hc]
        replace HH := Lib.hid (And.intro HH.out hc)
        clear hc
        go_wp2_with fail
        first | go_ret | skip
        have hval : r = false := HR.out.symm.trans (decide_eq_false (by have hk := HK.out; have hh := HH.out; unfold Qy.ok Qy.base Qy.form; dsimp only; omega))
        refine ⟨by rw [hval]; rfl, ?_⟩
        first | exact K0 | exact keep0 K0 hz0 ((Keep.refl (fun j => j = z) W0).setCell (p := ⟨z, 5, none⟩) _ (.inl rfl)) | exact keep0 K0 hz0 (((Keep.refl (fun j => j = z) W0).setCell (p := ⟨z, 6, none⟩) _ (.inl rfl)).setCell (p := ⟨z, 5, none⟩) _ (.inl rfl))
    · rw [decide_eq_false hc]
      replace HH := Lib.hid (And.intro HH.out hc)
      clear hc
      go_wp2_with fail
      first | go_ret | skip
      have hval : r = false := HR.out.symm.trans (decide_eq_false (by have hk := HK.out; have hh := HH.out; unfold Qy.ok Qy.base Qy.form; dsimp only; omega))
      refine ⟨by rw [hval]; rfl, ?_⟩
      first | exact K0 | exact keep0 K0 hz0 ((Keep.refl (fun j => j = z) W0).setCell (p := ⟨z, 5, none⟩) _ (.inl rfl)) | exact keep0 K0 hz0 (((Keep.refl (fun j => j = z) W0).setCell (p := ⟨z, 6, none⟩) _ (.inl rfl)).setCell (p := ⟨z, 5, none⟩) _ (.inl rfl))
  · have HK : Hid ((5 : Int) = 5) := Lib.hid rfl
    go_wp2_with fail
    with_reducible refine (within_any ..).mono ?_
    rintro e W5 ⟨rfl, rfl⟩
    by_cases hc : 0 ≤ tb ∧ tb ≤ 3
    · rw [decide_eq_true hc]
      replace HH := Lib.hid (And.intro HH.out hc)
      clear hc
      go_wp2_with fail
      with_reducible refine (within_any ..).mono ?_
      rintro e W5 ⟨rfl, rfl⟩
      by_cases hc : 0 ≤ cl ∧ cl ≤ 3
      · rw [decide_eq_true hc]
        replace HH := Lib.hid (And.intro HH.out hc)
        clear hc
        go_wp2_with fail
        with_reducible refine (within_any ..).mono ?_
        rintro e W5 ⟨rfl, rfl⟩
        by_cases hc : -1000000000 ≤ lo ∧ lo ≤ hi
        · rw [decide_eq_true hc]
          replace HH := Lib.hid (And.intro HH.out hc)
          clear hc
          by_cases hc : hi ≤ 1000000000
          · have hb := hc
            replace HH := Lib.hid (And.intro HH.out hc)
            go_wp2_with fail
            with_reducible refine (within_any ..).mono ?_
            rintro e W5 ⟨rfl, rfl⟩
            by_cases hc : 1 ≤ bb ∧ bb ≤ 3
            · rw [decide_eq_true hc]
              replace HH := Lib.hid (And.intro HH.out hc)
              clear hc
              by_cases hc : ot = 0
              · have hb : (ot == 0) = true := by simpa using hc
                replace HH := Lib.hid (And.intro HH.out hc)
                clear hc
                go_wp2_with fail
                first | go_ret | skip
                have hval : r = true := HR.out.symm.trans (decide_eq_true (by have hk := HK.out; have hh := HH.out; unfold Qy.ok Qy.base Qy.form; dsimp only; omega))
                refine ⟨by rw [hval]; rfl, ?_⟩
                first | exact K0 | exact keep0 K0 hz0 ((Keep.refl (fun j => j = z) W0).setCell (p := ⟨z, 5, none⟩) _ (.inl rfl)) | exact keep0 K0 hz0 (((Keep.refl (fun j => j = z) W0).setCell (p := ⟨z, 6, none⟩) _ (.inl rfl)).setCell (p := ⟨z, 5, none⟩) _ (.inl rfl))
              · have hb : (ot == 0) = false := by simpa using hc
                replace HH := Lib.hid (And.intro HH.out hc)
                clear hc
                go_wp2_with fail
                first | go_ret | skip
                have hval : r = false := HR.out.symm.trans (decide_eq_false (by have hk := HK.out; have hh := HH.out; unfold Qy.ok Qy.base Qy.form; dsimp only; omega))
                refine ⟨by rw [hval]; rfl, ?_⟩
                first | exact K0 | exact keep0 K0 hz0 ((Keep.refl (fun j => j = z) W0).setCell (p := ⟨z, 5, none⟩) _ (.inl rfl)) | exact keep0 K0 hz0 (((Keep.refl (fun j => j = z) W0).setCell (p := ⟨z, 6, none⟩) _ (.inl rfl)).setCell (p := ⟨z, 5, none⟩) _ (.inl rfl))
            · rw [decide_eq_false hc]
              replace HH := Lib.hid (And.intro HH.out hc)
              clear hc
              go_wp2_with fail
              first | go_ret | skip
              have hval : r = false := HR.out.symm.trans (decide_eq_false (by have hk := HK.out; have hh := HH.out; unfold Qy.ok Qy.base Qy.form; dsimp only; omega))
              refine ⟨by rw [hval]; rfl, ?_⟩
              first | exact K0 | exact keep0 K0 hz0 ((Keep.refl (fun j => j = z) W0).setCell (p := ⟨z, 5, none⟩) _ (.inl rfl)) | exact keep0 K0 hz0 (((Keep.refl (fun j => j = z) W0).setCell (p := ⟨z, 6, none⟩) _ (.inl rfl)).setCell (p := ⟨z, 5, none⟩) _ (.inl rfl))
          · have hb := hc
            replace HH := Lib.hid (And.intro HH.out hc)
            go_wp2_with fail
            first | go_ret | skip
            have hval : r = false := HR.out.symm.trans (decide_eq_false (by have hk := HK.out; have hh := HH.out; unfold Qy.ok Qy.base Qy.form; dsimp only; omega))
            refine ⟨by rw [hval]; rfl, ?_⟩
            first | exact K0 | exact keep0 K0 hz0 ((Keep.refl (fun j => j = z) W0).setCell (p := ⟨z, 5, none⟩) _ (.inl rfl)) | exact keep0 K0 hz0 (((Keep.refl (fun j => j = z) W0).setCell (p := ⟨z, 6, none⟩) _ (.inl rfl)).setCell (p := ⟨z, 5, none⟩) _ (.inl rfl))
        · rw [decide_eq_false hc]
          replace HH := Lib.hid (And.intro HH.out hc)
          clear hc
          go_wp2_with fail
          first | go_ret | skip
          have hval : r = false := HR.out.symm.trans (decide_eq_false (by have hk := HK.out; have hh := HH.out; unfold Qy.ok Qy.base Qy.form; dsimp only; omega))
          refine ⟨by rw [hval]; rfl, ?_⟩
          first | exact K0 | exact keep0 K0 hz0 ((Keep.refl (fun j => j = z) W0).setCell (p := ⟨z, 5, none⟩) _ (.inl rfl)) | exact keep0 K0 hz0 (((Keep.refl (fun j => j = z) W0).setCell (p := ⟨z, 6, none⟩) _ (.inl rfl)).setCell (p := ⟨z, 5, none⟩) _ (.inl rfl))
      · rw [decide_eq_false hc]
        replace HH := Lib.hid (And.intro HH.out hc)
        clear hc
        go_wp2_with fail
        first | go_ret | skip
        have hval : r = false := HR.out.symm.trans (decide_eq_false (by have hk := HK.out; have hh := HH.out; unfold Qy.ok Qy.base Qy.form; dsimp only; omega))
        refine ⟨by rw [hval]; rfl, ?_⟩
        first | exact K0 | exact keep0 K0 hz0 ((Keep.refl (fun j => j = z) W0).setCell (p := ⟨z, 5, none⟩) _ (.inl rfl)) | exact keep0 K0 hz0 (((Keep.refl (fun j => j = z) W0).setCell (p := ⟨z, 6, none⟩) _ (.inl rfl)).setCell (p := ⟨z, 5, none⟩) _ (.inl rfl))
    · rw [decide_eq_false hc]
      replace HH := Lib.hid (And.intro HH.out hc)
      clear hc
      go_wp2_with fail
      first | go_ret | skip
      have hval : r = false := HR.out.symm.trans (decide_eq_false (by have hk := HK.out; have hh := HH.out; unfold Qy.ok Qy.base Qy.form; dsimp only; omega))
      refine ⟨by rw [hval]; rfl, ?_⟩
      first | exact K0 | exact keep0 K0 hz0 ((Keep.refl (fun j => j = z) W0).setCell (p := ⟨z, 5, none⟩) _ (.inl rfl)) | exact keep0 K0 hz0 (((Keep.refl (fun j => j = z) W0).setCell (p := ⟨z, 6, none⟩) _ (.inl rfl)).setCell (p := ⟨z, 5, none⟩) _ (.inl rfl))
  · have HK : Hid ((6 : Int) = 6) := Lib.hid rfl
    go_wp2_with fail
    with_reducible refine (within_any ..).mono ?_
    rintro e W5 ⟨rfl, rfl⟩
    by_cases hc : 0 ≤ tb ∧ tb ≤ 3
    · rw [decide_eq_true hc]
      replace HH := Lib.hid (And.intro HH.out hc)
      clear hc
      go_wp2_with fail
      with_reducible refine (within_any ..).mono ?_
      rintro e W5 ⟨rfl, rfl⟩
      by_cases hc : 0 ≤ cl ∧ cl ≤ 3
      · rw [decide_eq_true hc]
        replace HH := Lib.hid (And.intro HH.out hc)
        clear hc
        go_wp2_with fail
        with_reducible refine (within_any ..).mono ?_
        rintro e W5 ⟨rfl, rfl⟩
        by_cases hc : -1000000000 ≤ lo ∧ lo ≤ hi
        · rw [decide_eq_true hc]
          replace HH := Lib.hid (And.intro HH.out hc)
          clear hc
          by_cases hc : hi ≤ 1000000000
          · have hb := hc
            replace HH := Lib.hid (And.intro HH.out hc)
            go_wp2_with fail
            with_reducible refine (within_any ..).mono ?_
            rintro e W5 ⟨rfl, rfl⟩
            by_cases hc : 1 ≤ bb ∧ bb ≤ 3
            · rw [decide_eq_true hc]
              replace HH := Lib.hid (And.intro HH.out hc)
              clear hc
              by_cases hc : ot = 0
              · have hb : (ot == 0) = true := by simpa using hc
                replace HH := Lib.hid (And.intro HH.out hc)
                clear hc
                go_wp2_with fail
                first | go_ret | skip
                have hval : r = true := HR.out.symm.trans (decide_eq_true (by have hk := HK.out; have hh := HH.out; unfold Qy.ok Qy.base Qy.form; dsimp only; omega))
                refine ⟨by rw [hval]; rfl, ?_⟩
                first | exact K0 | exact keep0 K0 hz0 ((Keep.refl (fun j => j = z) W0).setCell (p := ⟨z, 5, none⟩) _ (.inl rfl)) | exact keep0 K0 hz0 (((Keep.refl (fun j => j = z) W0).setCell (p := ⟨z, 6, none⟩) _ (.inl rfl)).setCell (p := ⟨z, 5, none⟩) _ (.inl rfl))
              · have hb : (ot == 0) = false := by simpa using hc
                replace HH := Lib.hid (And.intro HH.out hc)
                clear hc
                go_wp2_with fail
                first | go_ret | skip
                have hval : r = false := HR.out.symm.trans (decide_eq_false (by have hk := HK.out; have hh := HH.out; unfold Qy.ok Qy.base Qy.form; dsimp only; omega))
                refine ⟨by rw [hval]; rfl, ?_⟩
                first | exact K0 | exact keep0 K0 hz0 ((Keep.refl (fun j => j = z) W0).setCell (p := ⟨z, 5, none⟩) _ (.inl rfl)) | exact keep0 K0 hz0 (((Keep.refl (fun j => j = z) W0).setCell (p := ⟨z, 6, none⟩) _ (.inl rfl)).setCell (p := ⟨z, 5, none⟩) _ (.inl rfl))
            · rw [decide_eq_false hc]
              replace HH := Lib.hid (And.intro HH.out hc)
              clear hc
              go_wp2_with fail
              first | go_ret | skip
              have hval : r = false := HR.out.symm.trans (decide_eq_false (by have hk := HK.out; have hh := HH.out; unfold Qy.ok Qy.base Qy.form; dsimp only; omega))
              refine ⟨by rw [hval]; rfl, ?_⟩
              first | exact K0 | exact keep0 K0 hz0 ((Keep.refl (fun j => j = z) W0).setCell (p := ⟨z, 5, none⟩) _ (.inl rfl)) | exact keep0 K0 hz0 (((Keep.refl (fun j => j = z) W0).setCell (p := ⟨z, 6, none⟩) _ (.inl rfl)).setCell (p := ⟨z, 5, none⟩) _ (.inl rfl))
          · have hb := hc
            replace HH := Lib.hid (And.intro HH.out hc)
            go_wp2_with fail
            first | go_ret | skip
            have hval : r = false := HR.out.symm.trans (decide_eq_false (by have hk := HK.out; have hh := HH.out; unfold Qy.ok Qy.base Qy.form; dsimp only; omega))
            refine ⟨by rw [hval]; rfl, ?_⟩
            first | exact K0 | exact keep0 K0 hz0 ((Keep.refl (fun j => j = z) W0).setCell (p := ⟨z, 5, none⟩) _ (.inl rfl)) | exact keep0 K0 hz0 (((Keep.refl (fun j => j = z) W0).setCell (p := ⟨z, 6, none⟩) _ (.inl rfl)).setCell (p := ⟨z, 5, none⟩) _ (.inl rfl))
        · rw [decide_eq_false hc]
          replace HH := Lib.hid (And.intro HH.out hc)
          clear hc
          go_wp2_with fail
          first | go_ret | skip
          have hval : r = false := HR.out.symm.trans (decide_eq_false (by have hk := HK.out; have hh := HH.out; unfold Qy.ok Qy.base Qy.form; dsimp only; omega))
          refine ⟨by rw [hval]; rfl, ?_⟩
          first | exact K0 | exact keep0 K0 hz0 ((Keep.refl (fun j => j = z) W0).setCell (p := ⟨z, 5, none⟩) _ (.inl rfl)) | exact keep0 K0 hz0 (((Keep.refl (fun j => j = z) W0).setCell (p := ⟨z, 6, none⟩) _ (.inl rfl)).setCell (p := ⟨z, 5, none⟩) _ (.inl rfl))
      · rw [decide_eq_false hc]
        replace HH := Lib.hid (And.intro HH.out hc)
        clear hc
        go_wp2_with fail
        first | go_ret | skip
        have hval : r = false := HR.out.symm.trans (decide_eq_false (by have hk := HK.out; have hh := HH.out; unfold Qy.ok Qy.base Qy.form; dsimp only; omega))
        refine ⟨by rw [hval]; rfl, ?_⟩
        first | exact K0 | exact keep0 K0 hz0 ((Keep.refl (fun j => j = z) W0).setCell (p := ⟨z, 5, none⟩) _ (.inl rfl)) | exact keep0 K0 hz0 (((Keep.refl (fun j => j = z) W0).setCell (p := ⟨z, 6, none⟩) _ (.inl rfl)).setCell (p := ⟨z, 5, none⟩) _ (.inl rfl))
    · rw [decide_eq_false hc]
      replace HH := Lib.hid (And.intro HH.out hc)
      clear hc
      go_wp2_with fail
      first | go_ret | skip
      have hval : r = false := HR.out.symm.trans (decide_eq_false (by have hk := HK.out; have hh := HH.out; unfold Qy.ok Qy.base Qy.form; dsimp only; omega))
      refine ⟨by rw [hval]; rfl, ?_⟩
      first | exact K0 | exact keep0 K0 hz0 ((Keep.refl (fun j => j = z) W0).setCell (p := ⟨z, 5, none⟩) _ (.inl rfl)) | exact keep0 K0 hz0 (((Keep.refl (fun j => j = z) W0).setCell (p := ⟨z, 6, none⟩) _ (.inl rfl)).setCell (p := ⟨z, 5, none⟩) _ (.inl rfl))
  · have HK : Hid ((7 : Int) = 7) := Lib.hid rfl
    go_wp2_with fail
    with_reducible refine (within_any ..).mono ?_
    rintro e W5 ⟨rfl, rfl⟩
    by_cases hc : 0 ≤ tb ∧ tb ≤ 3
    · rw [decide_eq_true hc]
      replace HH := Lib.hid (And.intro HH.out hc)
      clear hc
      go_wp2_with fail
      with_reducible refine (within_any ..).mono ?_
      rintro e W5 ⟨rfl, rfl⟩
      by_cases hc : 0 ≤ cl ∧ cl ≤ 3
      · rw [decide_eq_true hc]
        replace HH := Lib.hid (And.intro HH.out hc)
        clear hc
        go_wp2_with fail
        with_reducible refine (within_any ..).mono ?_
        rintro e W5 ⟨rfl, rfl⟩
        by_cases hc : -1000000000 ≤ lo ∧ lo ≤ hi
        · rw [decide_eq_true hc]
          replace HH := Lib.hid (And.intro HH.out hc)
          clear hc
          by_cases hc : hi ≤ 1000000000
          · have hb := hc
            replace HH := Lib.hid (And.intro HH.out hc)
            go_wp2_with fail
            with_reducible refine (within_any ..).mono ?_
            rintro e W5 ⟨rfl, rfl⟩
            by_cases hc : 0 ≤ ot ∧ ot ≤ 3
            · rw [decide_eq_true hc]
              replace HH := Lib.hid (And.intro HH.out hc)
              clear hc
              go_wp2_with fail
              with_reducible refine (within_any ..).mono ?_
              rintro e W5 ⟨rfl, rfl⟩
              by_cases hc : 1 ≤ bb ∧ bb ≤ 3
              · rw [decide_eq_true hc]
                replace HH := Lib.hid (And.intro HH.out hc)
                clear hc
                go_wp2_with fail
                first | go_ret | skip
                have hval : r = true := HR.out.symm.trans (decide_eq_true (by have hk := HK.out; have hh := HH.out; unfold Qy.ok Qy.base Qy.form; dsimp only; omega))
                refine ⟨by rw [hval]; rfl, ?_⟩
                first | exact K0 | exact keep0 K0 hz0 ((Keep.refl (fun j => j = z) W0).setCell (p := ⟨z, 5, none⟩) _ (.inl rfl)) | exact keep0 K0 hz0 (((Keep.refl (fun j => j = z) W0).setCell (p := ⟨z, 6, none⟩) _ (.inl rfl)).setCell (p := ⟨z, 5, none⟩) _ (.inl rfl))
              · rw [decide_eq_false hc]
                replace HH := Lib.hid (And.intro HH.out hc)
                clear hc
                go_wp2_with fail
                first | go_ret | skip
                have hval : r = false := HR.out.symm.trans (decide_eq_false (by have hk := HK.out; have hh := HH.out; unfold Qy.ok Qy.base Qy.form; dsimp only; omega))
                refine ⟨by rw [hval]; rfl, ?_⟩
                first | exact K0 | exact keep0 K0 hz0 ((Keep.refl (fun j => j = z) W0).setCell (p := ⟨z, 5, none⟩) _ (.inl rfl)) | exact keep0 K0 hz0 (((Keep.refl (fun j => j = z) W0).setCell (p := ⟨z, 6, none⟩) _ (.inl rfl)).setCell (p := ⟨z, 5, none⟩) _ (.inl rfl))
            · rw [decide_eq_false hc]
              replace HH := Lib.hid (And.intro HH.out hc)
              clear hc
              go_wp2_with fail
              first | go_ret | skip
              have hval : r = false := HR.out.symm.trans (decide_eq_false (by have hk := HK.out; have hh := HH.out; unfold Qy.ok Qy.base Qy.form; dsimp only; omega))
              refine ⟨by rw [hval]; rfl, ?_⟩
              first | exact K0 | exact keep0 K0 hz0 ((Keep.refl (fun j => j = z) W0).setCell (p := ⟨z, 5, none⟩) _ (.inl rfl)) | exact keep0 K0 hz0 (((Keep.refl (fun j => j = z) W0).setCell (p := ⟨z, 6, none⟩) _ (.inl rfl)).setCell (p := ⟨z, 5, none⟩) _ (.inl rfl))
          · have hb := hc
            replace HH := Lib.hid (And.intro HH.out hc)
            go_wp2_with fail
            first | go_ret | skip
            have hval : r = false := HR.out.symm.trans (decide_eq_false (by have hk := HK.out; have hh := HH.out; unfold Qy.ok Qy.base Qy.form; dsimp only; omega))
            refine ⟨by rw [hval]; rfl, ?_⟩
            first | exact K0 | exact keep0 K0 hz0 ((Keep.refl (fun j => j = z) W0).setCell (p := ⟨z, 5, none⟩) _ (.inl rfl)) | exact keep0 K0 hz0 (((Keep.refl (fun j => j = z) W0).setCell (p := ⟨z, 6, none⟩) _ (.inl rfl)).setCell (p := ⟨z, 5, none⟩) _ (.inl rfl))
        · rw [decide_eq_false hc]
          replace HH := Lib.hid (And.intro HH.out hc)
          clear hc
          go_wp2_with fail
          first | go_ret | skip
          have hval : r = false := HR.out.symm.trans (decide_eq_false (by have hk := HK.out; have hh := HH.out; unfold Qy.ok Qy.base Qy.form; dsimp only; omega))
          refine ⟨by rw [hval]; rfl, ?_⟩
          first | exact K0 | exact keep0 K0 hz0 ((Keep.refl (fun j => j = z) W0).setCell (p := ⟨z, 5, none⟩) _ (.inl rfl)) | exact keep0 K0 hz0 (((Keep.refl (fun j => j = z) W0).setCell (p := ⟨z, 6, none⟩) _ (.inl rfl)).setCell (p := ⟨z, 5, none⟩) _ (.inl rfl))
      · rw [decide_eq_false hc]
        replace HH := Lib.hid (And.intro HH.out hc)
        clear hc
        go_wp2_with fail
        first | go_ret | skip
        have hval : r = false := HR.out.symm.trans (decide_eq_false (by have hk := HK.out; have hh := HH.out; unfold Qy.ok Qy.base Qy.form; dsimp only; omega))
        refine ⟨by rw [hval]; rfl, ?_⟩
        first | exact K0 | exact keep0 K0 hz0 ((Keep.refl (fun j => j = z) W0).setCell (p := ⟨z, 5, none⟩) _ (.inl rfl)) | exact keep0 K0 hz0 (((Keep.refl (fun j => j = z) W0).setCell (p := ⟨z, 6, none⟩) _ (.inl rfl)).setCell (p := ⟨z, 5, none⟩) _ (.inl rfl))
    · rw [decide_eq_false hc]
      replace HH := Lib.hid (And.intro HH.out hc)
      clear hc
      go_wp2_with fail
      first | go_ret | skip
      have hval : r = false := HR.out.symm.trans (decide_eq_false (by have hk := HK.out; have hh := HH.out; unfold Qy.ok Qy.base Qy.form; dsimp only; omega))
      refine ⟨by rw [hval]; rfl, ?_⟩
      first | exact K0 | exact keep0 K0 hz0 ((Keep.refl (fun j => j = z) W0).setCell (p := ⟨z, 5, none⟩) _ (.inl rfl)) | exact keep0 K0 hz0 (((Keep.refl (fun j => j = z) W0).setCell (p := ⟨z, 6, none⟩) _ (.inl rfl)).setCell (p := ⟨z, 5, none⟩) _ (.inl rfl))
  · have HK := Lib.hid hk
    have hb1 : (kd == 1) = false := by simpa using hk.1
    have hb2 : (kd == 2) = false := by simpa using hk.2.1
    have hb3 : (kd == 3) = false := by simpa using hk.2.2.1
    have hb4 : (kd == 4) = false := by simpa using hk.2.2.2.1
    have hb5 : (kd == 5) = false := by simpa using hk.2.2.2.2.1
    have hb6 : (kd == 6) = false := by simpa using hk.2.2.2.2.2.1
    have hb7 : (kd == 7) = false := by simpa using hk.2.2.2.2.2.2
    clear hk
    go_wp2_with fail
    with_reducible refine (within_any ..).mono ?_
    rintro e W5 ⟨rfl, rfl⟩
    by_cases hc : 0 ≤ tb ∧ tb ≤ 3
    · rw [decide_eq_true hc]
      replace HH := Lib.hid (And.intro HH.out hc)
      clear hc
      go_wp2_with fail
      with_reducible refine (within_any ..).mono ?_
      rintro e W5 ⟨rfl, rfl⟩
      by_cases hc : 0 ≤ cl ∧ cl ≤ 3
      · rw [decide_eq_true hc]
        replace HH := Lib.hid (And.intro HH.out hc)
        clear hc
        go_wp2_with fail
        with_reducible refine (within_any ..).mono ?_
        rintro e W5 ⟨rfl, rfl⟩
        by_cases hc : -1000000000 ≤ lo ∧ lo ≤ hi
        · rw [decide_eq_true hc]
          replace HH := Lib.hid (And.intro HH.out hc)
          clear hc
          by_cases hc : hi ≤ 1000000000
          · have hb := hc
            replace HH := Lib.hid (And.intro HH.out hc)
            go_wp2_with fail
            first | go_ret | skip
            have hval : r = false := HR.out.symm.trans (decide_eq_false (by have hk := HK.out; have hh := HH.out; unfold Qy.ok Qy.base Qy.form; dsimp only; omega))
            refine ⟨by rw [hval]; rfl, ?_⟩
            first | exact K0 | exact keep0 K0 hz0 ((Keep.refl (fun j => j = z) W0).setCell (p := ⟨z, 5, none⟩) _ (.inl rfl)) | exact keep0 K0 hz0 (((Keep.refl (fun j => j = z) W0).setCell (p := ⟨z, 6, none⟩) _ (.inl rfl)).setCell (p := ⟨z, 5, none⟩) _ (.inl rfl))
          · have hb := hc
            replace HH := Lib.hid (And.intro HH.out hc)
            go_wp2_with fail
            first | go_ret | skip
            have hval : r = false := HR.out.symm.trans (decide_eq_false (by have hk := HK.out; have hh := HH.out; unfold Qy.ok Qy.base Qy.form; dsimp only; omega))
            refine ⟨by rw [hval]; rfl, ?_⟩
            first | exact K0 | exact keep0 K0 hz0 ((Keep.refl (fun j => j = z) W0).setCell (p := ⟨z, 5, none⟩) _ (.inl rfl)) | exact keep0 K0 hz0 (((Keep.refl (fun j => j = z) W0).setCell (p := ⟨z, 6, none⟩) _ (.inl rfl)).setCell (p := ⟨z, 5, none⟩) _ (.inl rfl))
        · rw [decide_eq_false hc]
          replace HH := Lib.hid (And.intro HH.out hc)
          clear hc
          go_wp2_with fail
          first | go_ret | skip
          have hval : r = false := HR.out.symm.trans (decide_eq_false (by have hk := HK.out; have hh := HH.out; unfold Qy.ok Qy.base Qy.form; dsimp only; omega))
          refine ⟨by rw [hval]; rfl, ?_⟩
          first | exact K0 | exact keep0 K0 hz0 ((Keep.refl (fun j => j = z) W0).setCell (p := ⟨z, 5, none⟩) _ (.inl rfl)) | exact keep0 K0 hz0 (((Keep.refl (fun j => j = z) W0).setCell (p := ⟨z, 6, none⟩) _ (.inl rfl)).setCell (p := ⟨z, 5, none⟩) _ (.inl rfl))
      · rw [decide_eq_false hc]
        replace HH := Lib.hid (And.intro HH.out hc)
        clear hc
        go_wp2_with fail
        first | go_ret | skip
        have hval : r = false := HR.out.symm.trans (decide_eq_false (by have hk := HK.out; have hh := HH.out; unfold Qy.ok Qy.base Qy.form; dsimp only; omega))
        refine ⟨by rw [hval]; rfl, ?_⟩
        first | exact K0 | exact keep0 K0 hz0 ((Keep.refl (fun j => j = z) W0).setCell (p := ⟨z, 5, none⟩) _ (.inl rfl)) | exact keep0 K0 hz0 (((Keep.refl (fun j => j = z) W0).setCell (p := ⟨z, 6, none⟩) _ (.inl rfl)).setCell (p := ⟨z, 5, none⟩) _ (.inl rfl))
    · rw [decide_eq_false hc]
      replace HH := Lib.hid (And.intro HH.out hc)
      clear hc
      go_wp2_with fail
      first | go_ret | skip
      have hval : r = false := HR.out.symm.trans (decide_eq_false (by have hk := HK.out; have hh := HH.out; unfold Qy.ok Qy.base Qy.form; dsimp only; omega))
      refine ⟨by rw [hval]; rfl, ?_⟩
      first | exact K0 | exact keep0 K0 hz0 ((Keep.refl (fun j => j = z) W0).setCell (p := ⟨z, 5, none⟩) _ (.inl rfl)) | exact keep0 K0 hz0 (((Keep.refl (fun j => j = z) W0).setCell (p := ⟨z, 6, none⟩) _ (.inl rfl)).setCell (p := ⟨z, 5, none⟩) _ (.inl rfl))
end Go.Proofs.YtcnpncndecjahaaGreatDoor

/-
  Results of queries: From, Of, Size of package eval.
-/
namespace Go.Proofs.YtcnpncndecjahaaGreatDoor
open Go.RowKit Go.Shelf

theorem run_append_owned_cap {P : Program} (w : World) (base : Nat) (t ty e : TypeId) (i : TypeInfo) (size : Nat) (ht : P.underlying t = some (.slice e)) (hi : P.info? e = some i)
    (v : Value) (n : Nat) (xs : List Value) (hown : w.ownsRow base e size v n xs) (c : Nat) :
    (Builtin.append_ #[t, t] ty #[v, .slice none 0 c]).run P w = .ok v w := by
  rcases hown.2 with ⟨rfl, rfl⟩ | ⟨g, cap, cur, rfl, _, _, hnc, _⟩
  · simp [Builtin.append_, run_underlying ht, sizeOf, typeInfo, hi, Builtin.lenOf, Builtin.firstCells]
  · simp [Builtin.append_, run_underlying ht, sizeOf, typeInfo, hi, Builtin.lenOf, Builtin.firstCells, hnc, storeCells]
/-- A copy of rows of its own: append to an empty literal. -/
theorem lit_rws (W : World) (v : Value) (l : List R5) (h : Rws W v l) (hl : l.length ≤ 1000000) :
    ∃ v' W', (Builtin.append_ #[40, 40] 40 #[.slice (some ⟨W.heap.size, 0, none⟩) 0 0, v]).run Tryz.prog (W.alloc (.cells #[] 67)) = .ok v' W' ∧ Keep (fun _ => False) W W' ∧ W'.ownsRow W.heap.size 67 5 v' l.length (flatR l) := by
  have k1 : Keep (fun _ => False) W (W.alloc (.cells #[] 67)) := (Keep.refl _ W).alloc _
  have ho : (W.alloc (.cells #[] 67)).ownsRow W.heap.size 67 5 (.slice (some ⟨W.heap.size, 0, none⟩) 0 0) 0 [] := World.ownsRow_lit W #[] 0 (Nat.le_refl _) (by decide) rfl
  obtain ⟨hn2, a, c, b, off, rfl, hc, ha, hcell⟩ := h.kept k1
  obtain ⟨i0, hi, hz0, hz1, hz2⟩ := info_parts infoRow
  cases a with
  | none =>
    have : l = [] := by
      apply List.eq_nil_of_length_eq_zero
      rcases Nat.eq_zero_or_pos l.length with h | h
      · exact h
      · exact absurd (ha h) (by simp)
    subst this
    exact ⟨_, _, run_append_owned_cap _ W.heap.size 40 40 67 i0 5 Tryz.underlying40 hi _ 0 _ ho c, k1, ho⟩
  | some ad =>
    obtain ⟨v', w', r1, r2, r3, r4, r5⟩ := run_append_own_at (P := Tryz.prog) (W.alloc (.cells #[] 67)) W.heap.size 40 40 67 i0 _ 5 40 Tryz.underlying40 hi hz0 hz1 hz2 rfl (by decide) _ 0 _ ho ad l.length c (flatR l) (flatR_len l)
      (by
        intro j u hj
        have hlen : j < l.length * 5 := by rw [← flatR_len]; exact (List.getElem?_eq_some_iff.1 hj).1
        have e := ha (by omega)
        cases e
        rw [Addr.add_lit]
        exact Rwc.flat hcell j u hj) (flatR_cell l) (by unfold maxLen; omega) (by omega) (by rw [World.size_alloc]; omega)
    refine ⟨v', w', r1, k1.trans' (Keep.of_grown r3) (fun j e => by cases e; exact .inr (Nat.le_refl _)), ?_⟩
    rw [List.nil_append, Nat.zero_add] at r2
    exact r2
def CloneP (l : List R5) (w : World) (e : Ending) (w' : World) : Prop := ∃ v, e = .returned v ∧ w'.ownsRow w.heap.size 67 5 v l.length (flatR l) ∧ Keep (fun _ => False) w w'
set_option maxRecDepth 100000 in
set_option maxHeartbeats 1000000 in
theorem cloneR_any (v : Value) (l : List R5) (w : World) (h : Rws w v l) (hl : l.length ≤ 1000000) : Calls Tryz.prog 64 #[v] w (CloneP l w) := by
  obtain ⟨v', W2, hr, k, hown⟩ := lit_rws w v l h hl
  obtain ⟨-, a, c, b, off, rfl, -, ha, -⟩ := h
  cases a with
  | none =>
    have hx : l = [] := by
      apply List.eq_nil_of_length_eq_zero
      rcases Nat.eq_zero_or_pos l.length with h | h
      · exact h
      · exact absurd (ha h) (by simp)
    subst hx
    have heq : (binOp BinOp.eql 40 (.slice none 0 c) (.slice none 0 0)).run Tryz.prog w = .ok (.bool true) w := by
      simp only [binOp]
      simp [Op.equal, Op.maxDepth, Lib.run_equalIn_slice_nil w 9999 40 67 none 0 c 0 0 Tryz.underlying40]
    clear hr k hown ha
    go_enter Tryz.func64, Tryz.ntmps64
    go_wp2_with fail
    go_ret
    exact ⟨_, rfl, World.ownsRow_nil w w.heap.size 67 5, Keep.refl _ w⟩
  | some ad =>
    have heq : (binOp BinOp.eql 40 (.slice (some ad) l.length c) (.slice none 0 0)).run Tryz.prog w = .ok (.bool false) w := by
      simp only [binOp]
      simp [Op.equal, Op.maxDepth, Lib.run_equalIn_slice_nil w 9999 40 67 (some ad) l.length c 0 0 Tryz.underlying40]
    have HP : Hid (CloneP l w (.returned v') W2) := Lib.hid ⟨v', rfl, hown, k⟩
    have HR := Lib.hid hr
    clear hr k hown ha
    go_enter Tryz.func64, Tryz.ntmps64
    go_wp2_with (at_builtin; refine wpList_app rfl (.tmp 5) (.tmp 6) 40 rfl rfl rfl HR.out ?_)
    go_ret
    exact HP.out
/-- A result's value. -/
def FromP (z : Rz) (w : World) (e : Ending) (w' : World) : Prop := ∃ v, e = .returned (.agg #[v, .int .i64 z.v, .bool z.f]) ∧ Rws w' v z.rows ∧ Keep (fun _ => False) w w' ∧ ∀ b, v.ownBlock = some b → w.heap.size ≤ b
theorem rws_nil (W : World) : Rws W (.slice none 0 0) [] := ⟨by simp, none, 0, 0, 0, rfl, by simp, by simp, by simp⟩
theorem kd_cases {q : Qy} (h : q.ok) : q.kd = 1 ∨ q.kd = 2 ∨ q.kd = 3 ∨ q.kd = 4 ∨ q.kd = 5 ∨ q.kd = 6 ∨ q.kd = 7 := by
  have := h.2
  unfold Qy.form at this
  omega
set_option maxRecDepth 100000 in
set_option maxHeartbeats 4000000 in
theorem from_any (q : Qy) (v1 v2 : Value) (rows others : List R5) (w : World) (h1 : Rws w v1 rows) (h2 : Rws w v2 others) (hn1 : rows.length ≤ 100000) (hn2 : others.length ≤ 100000) (hf1 : ∀ r ∈ rows, r.fine) (hf2 : ∀ r ∈ others, r.fine) :
    Calls Tryz.prog 31 #[qV q, v1, v2] w (FromP (fromR q rows others) w) := by
  have HR := Lib.hid h1
  have HO := Lib.hid h2
  have HF1 := Lib.hid hf1
  have HF2 := Lib.hid hf2
  have HN1 := Lib.hid hn1
  have HN2 := Lib.hid hn2
  have HQ := Lib.hid ((QBox.new w q 37).kept (keep_cells _ #[.slice none 0 0, .int .i64 0, .bool false] 42))
  have HKQ := Lib.hid ((keep_cells w #[.int .i64 q.kd, .int .i64 q.tb, .int .i64 q.cl, .int .i64 q.lo, .int .i64 q.hi, .int .i64 q.bb, .int .i64 q.ot] 37).trans (keep_cells _ #[.slice none 0 0, .int .i64 0, .bool false] 42))
  have hb := BoxL.new (w.alloc (.cells #[.int .i64 q.kd, .int .i64 q.tb, .int .i64 q.cl, .int .i64 q.lo, .int .i64 q.hi, .int .i64 q.bb, .int .i64 q.ot] 37)) [.slice none 0 0, .int .i64 0, .bool false] 42
  rw [World.size_alloc] at hb
  have HB := Lib.hid hb
  have HFR : Hid (fromR q rows others = fromR q rows others) := Lib.hid rfl
  clear h1 h2 hf1 hf2 hn1 hn2 hb
  have HV := Lib.hid (valid_any q)
  go_enter Tryz.func31, Tryz.ntmps31
  go_upto_region 1 with (fail)
  generalize (w.alloc (.cells #[.int .i64 q.kd, .int .i64 q.tb, .int .i64 q.cl, .int .i64 q.lo, .int .i64 q.hi, .int .i64 q.bb, .int .i64 q.ot] 37)).alloc (.cells #[.slice none 0 0, .int .i64 0, .bool false] 42) = W1 at *
  obtain ⟨zq, hzq⟩ : ∃ z, w.heap.size = z := ⟨_, rfl⟩
  have HZQ := Lib.hid hzq
  rw [hzq] at HQ HB ⊢
  clear hzq
  obtain ⟨e0, e1, e2, e3, e4, e5, e6⟩ := HQ.out.cells
  go_wp2_with fail
  clear e0 e1 e2 e3 e4 e5 e6
  with_reducible refine (HV.out W1).mono ?_
  rintro e W2 ⟨rfl, k2⟩
  have HK2 := Lib.hid (HKQ.out.trans k2)
  have HB2 := Lib.hid (HB.out.kept k2)
  have HQ2 := Lib.hid (HQ.out.kept k2)
  clear k2 HV HB HQ HKQ
  by_cases hok : q.ok
  · have hokd : decide q.ok = true := decide_eq_true hok
    rw [hokd]
    have HKD := Lib.hid (kd_cases hok)
    have HFX : Hid (fromR q rows others = if q.kd = 3 then rzP (rows.foldl cntS (0, false))
      else if q.kd = 4 then rzP ((measR q rows).foldl sumS (0, false))
      else if q.kd = 5 then rzP ((measR q rows).foldl (extS ltB) (0, false))
      else if q.kd = 6 then rzP ((measR q rows).foldl (extS gtB) (0, false))
      else if q.kd = 7 then ⟨0, false, joinR q rows others⟩
      else ⟨0, false, rows⟩) := Lib.hid (by unfold fromR; rw [if_pos hok])
    clear hok hokd
    go_upto_region 4 with (fail)
    have kc := keep_cells W2 #[.slice none 0 0, .int .i64 0, .bool false] 42
    have HN3 := Lib.hid (BoxL.new W2 [.slice none 0 0, .int .i64 0, .bool false] 42)
    have HB3 := Lib.hid (HB2.out.kept kc)
    have HQ3 := Lib.hid (HQ2.out.kept kc)
    have HK3 := Lib.hid (HK2.out.trans kc)
    have HZN0 : Hid (zq + 1 < W2.heap.size) := Lib.hid HB2.out.lt
    clear kc HB2 HQ2 HK2
    generalize W2.alloc (.cells #[.slice none 0 0, .int .i64 0, .bool false] 42) = W3 at *
    generalize W2.heap.size = zn at *
    have HR3 := Lib.hid (HR.out.kept HK3.out)
    have HO3 := Lib.hid (HO.out.kept HK3.out)
    obtain ⟨q0, q1, q2, q3, q4, q5, q6⟩ := q
    obtain ⟨e0, e1, e2, e3, e4, e5, e6⟩ := HQ3.out.cells
    simp only [] at e0 e1 e2 e3 e4 e5 e6
    obtain ⟨n0, n1, n2⟩ := HN3.out.three
    have HZN : Hid (¬ zn = zq + 1) := Lib.hid (by have := HZN0.out; omega)
    have HZ6 : Hid (w.heap.size ≤ zq + 1) := Lib.hid (by have := HZQ.out; omega)
    rcases HKD.out with h | h | h | h | h | h | h <;> simp only [] at h <;> subst h
    · have HCL := Lib.hid (cloneR_any v1 rows W3 HR3.out (by have := HN1.out; omega))
      go_wp2_with fail
      clear e0 e1 e2 e3 e4 e5 e6 n0 n1 n2
      with_reducible refine HCL.out.mono ?_
      rintro e W5 ⟨vc, rfl, hoc, k5⟩
      have hrc := (rwc_own hoc).1
      have HOB := Lib.hid (rwc_own hoc).2
      obtain ⟨ac, cc, rfl⟩ := own_form hoc
      have HRC := Lib.hid (hrc.rws (by have := HN1.out; omega))
      clear hrc hoc
      have hb := HB3.out.kept k5
      obtain ⟨W9, hW9, hb9, k9⟩ := hb.put3 (.slice ac rows.length cc) (.int .i64 0) (.bool false)
      have fr := hb.soft
      obtain ⟨c0, c1, c2⟩ := hb.three
      obtain ⟨d0, d1, d2⟩ := hb9.three
      have HK9 := Lib.hid ((HK3.out.trans k5).trans' k9 (fun j hj => .inr (by have h1 : j = zq + 1 := hj; have := HZ6.out; omega)))
      have HRC9 := Lib.hid (HRC.out.keep k9 (fun b hb h => by have h1 : b = zq + 1 := h; have h2 := HOB.out b hb; have := HB3.out.lt; omega))
      clear hb hb9 k9
      clear k5 HRC
      go_wp2_with fail
      clear c0 c1 c2 fr
      try simp only [Exit.inBlock, Exit.then]
      refine bodyPost_ret (v := .agg #[.slice ac rows.length cc, .int .i64 0, .bool false]) (by simp [results, Tryz.results31, go_sem, d0, d1, d2]) rfl ?_
      exact ⟨.slice ac rows.length cc, by rw [HFX.out]; rfl, by rw [HFX.out]; exact HRC9.out, HK9.out, fun b hb => Nat.le_trans HK3.out.size (HOB.out b hb)⟩
    · have HCL := Lib.hid (cloneR_any v1 rows W3 HR3.out (by have := HN1.out; omega))
      go_wp2_with fail
      clear e0 e1 e2 e3 e4 e5 e6 n0 n1 n2
      with_reducible refine HCL.out.mono ?_
      rintro e W5 ⟨vc, rfl, hoc, k5⟩
      have hrc := (rwc_own hoc).1
      have HOB := Lib.hid (rwc_own hoc).2
      obtain ⟨ac, cc, rfl⟩ := own_form hoc
      have HRC := Lib.hid (hrc.rws (by have := HN1.out; omega))
      clear hrc hoc
      have hb := HB3.out.kept k5
      obtain ⟨W9, hW9, hb9, k9⟩ := hb.put3 (.slice ac rows.length cc) (.int .i64 0) (.bool false)
      have fr := hb.soft
      obtain ⟨c0, c1, c2⟩ := hb.three
      obtain ⟨d0, d1, d2⟩ := hb9.three
      have HK9 := Lib.hid ((HK3.out.trans k5).trans' k9 (fun j hj => .inr (by have h1 : j = zq + 1 := hj; have := HZ6.out; omega)))
      have HRC9 := Lib.hid (HRC.out.keep k9 (fun b hb h => by have h1 : b = zq + 1 := h; have h2 := HOB.out b hb; have := HB3.out.lt; omega))
      clear hb hb9 k9
      clear k5 HRC
      go_wp2_with fail
      clear c0 c1 c2 fr
      try simp only [Exit.inBlock, Exit.then]
      refine bodyPost_ret (v := .agg #[.slice ac rows.length cc, .int .i64 0, .bool false]) (by simp [results, Tryz.results31, go_sem, d0, d1, d2]) rfl ?_
      exact ⟨.slice ac rows.length cc, by rw [HFX.out]; rfl, by rw [HFX.out]; exact HRC9.out, HK9.out, fun b hb => Nat.le_trans HK3.out.size (HOB.out b hb)⟩
    · have HFO := Lib.hid (foldR_any 56 #[] cntS v1 rows W3 HR3.out (by have := HN1.out; omega) enters_cnt (fun p x W _ => by simpa using cntF_any p.1 p.2 x W))
      obtain ⟨⟨pn, pb⟩, hp⟩ : ∃ p, rows.foldl cntS (0, false) = p := ⟨_, rfl⟩
      rw [hp] at HFO HFX
      clear hp
      go_wp2_with fail
      clear e0 e1 e2 e3 e4 e5 e6 n0 n1 n2
      with_reducible refine HFO.out.mono ?_
      rintro e W5 ⟨rfl, k5⟩
      have hb := HB3.out.kept k5
      obtain ⟨W9, hW9, hb9, k9⟩ := hb.put3 (.slice none 0 0) (.int .i64 pn) (.bool pb)
      have fr := hb.soft
      obtain ⟨c0, c1, c2⟩ := hb.three
      obtain ⟨d0, d1, d2⟩ := hb9.three
      have HK9 := Lib.hid ((HK3.out.trans k5).trans' k9 (fun j hj => .inr (by have h1 : j = zq + 1 := hj; have := HZ6.out; omega)))
      skip
      clear hb hb9 k9
      go_wp2_with fail
      clear c0 c1 c2 fr
      try simp only [Exit.inBlock, Exit.then]
      refine bodyPost_ret (v := .agg #[.slice none 0 0, .int .i64 pn, .bool pb]) (by simp [results, Tryz.results31, go_sem, d0, d1, d2]) rfl ?_
      exact ⟨.slice none 0 0, by rw [HFX.out]; rfl, by rw [HFX.out]; exact rws_nil _, HK9.out, fun b h => by cases h⟩
    · have HMS := Lib.hid (fun W (k : Keep (fun _ => False) W3 W) => meas_any ⟨4, q1, q2, q3, q4, q5, q6⟩ v1 rows W (HR3.out.kept k) (by have := HN1.out; omega) HF1.out)
      obtain ⟨⟨pn, pb⟩, hp⟩ : ∃ p, (measR ⟨4, q1, q2, q3, q4, q5, q6⟩ rows).foldl sumS (0, false) = p := ⟨_, rfl⟩
      have HP := Lib.hid hp
      clear hp
      have HFX2 : Hid (fromR ⟨4, q1, q2, q3, q4, q5, q6⟩ rows others = rzP (pn, pb)) := Lib.hid (by rw [HFX.out, ← HP.out]; rfl)
      go_upto_region 8 with (fail)
      clear e0 e1 e2 e3 e4 e5 e6 n0 n1 n2
      have e0 : ∀ u : KA (fun j => j = zq + 1) W3, u.val.cell? ⟨zq, 0, none⟩ = some (.int .i64 4) := fun u => (HQ3.out.keep u.k (by show ¬ zq = zq + 1; omega)).1 0 (by decide)
      have e1 : ∀ u : KA (fun j => j = zq + 1) W3, u.val.cell? ⟨zq, 1, none⟩ = some (.int .i64 q1) := fun u => (HQ3.out.keep u.k (by show ¬ zq = zq + 1; omega)).1 1 (by decide)
      have e2 : ∀ u : KA (fun j => j = zq + 1) W3, u.val.cell? ⟨zq, 2, none⟩ = some (.int .i64 q2) := fun u => (HQ3.out.keep u.k (by show ¬ zq = zq + 1; omega)).1 2 (by decide)
      have e3 : ∀ u : KA (fun j => j = zq + 1) W3, u.val.cell? ⟨zq, 3, none⟩ = some (.int .i64 q3) := fun u => (HQ3.out.keep u.k (by show ¬ zq = zq + 1; omega)).1 3 (by decide)
      have e4 : ∀ u : KA (fun j => j = zq + 1) W3, u.val.cell? ⟨zq, 4, none⟩ = some (.int .i64 q4) := fun u => (HQ3.out.keep u.k (by show ¬ zq = zq + 1; omega)).1 4 (by decide)
      have e5 : ∀ u : KA (fun j => j = zq + 1) W3, u.val.cell? ⟨zq, 5, none⟩ = some (.int .i64 q5) := fun u => (HQ3.out.keep u.k (by show ¬ zq = zq + 1; omega)).1 5 (by decide)
      have e6 : ∀ u : KA (fun j => j = zq + 1) W3, u.val.cell? ⟨zq, 6, none⟩ = some (.int .i64 q6) := fun u => (HQ3.out.keep u.k (by show ¬ zq = zq + 1; omega)).1 6 (by decide)
      have n0 : ∀ u : KA (fun j => j = zq + 1) W3, u.val.cell? ⟨zn, 0, none⟩ = some (.slice none 0 0) := fun u => (HN3.out.keep u.k HZN.out).three.1
      have n1 : ∀ u : KA (fun j => j = zq + 1) W3, u.val.cell? ⟨zn, 1, none⟩ = some (.int .i64 0) := fun u => (HN3.out.keep u.k HZN.out).three.2.1
      have n2 : ∀ u : KA (fun j => j = zq + 1) W3, u.val.cell? ⟨zn, 2, none⟩ = some (.bool false) := fun u => (HN3.out.keep u.k HZN.out).three.2.2
      refine wp_region_walk [(true, 0), (true, 1), (true, 3), (false, 2), (false, 4), (false, 5)] (inKA (fun j => j = zq + 1) W3) (by decide +kernel) (by decide +kernel) ?_
      iterate 3 (refine walkW_read rfl (fun K hK => ?_); go_simp; refine hK _ ?_; clear hK K)
      clear e0 e1 e2 e3 e4 e5 e6 n0 n1 n2
      have HD0 : Hid (Keep (fun j => j = zq + 1) W3 W3.drew) := Lib.hid (Keep.refl _ W3).drew
      have HD : Hid (Keep (fun _ => False) W3 W3.drew) := Lib.hid (Keep.refl _ W3).drew
      refine walkW_do rfl (inKA.of HD0.out) (fun K hK => ?_)
      go_simp
      with_reducible refine (HMS.out _ HD.out).mono ?_
      rintro e W5 ⟨vm, rfl, hits, k5⟩
      have HI5 := Lib.hid hits
      have HK5 := Lib.hid (HD.out.trans k5)
      have HK50 := Lib.hid (HK5.out.mono (B := fun j => j = zq + 1) (fun _ h => h.elim))
      clear hits k5
      refine hK _ _ ?_
      clear hK K
      have HFO := Lib.hid (foldI_any 59 #[] sumS vm _ W5 HI5.out enters_sum (fun p x W _ => by simpa using sumF_any p.1 p.2 x W))
      rw [HP.out] at HFO
      refine walkW_do rfl (inKA.of HK50.out) (fun K hK => ?_)
      go_simp
      with_reducible refine HFO.out.mono ?_
      rintro e W7 ⟨rfl, k7⟩
      have k8 := HK5.out.trans k7
      have k80 := k8.mono (B := fun j => j = zq + 1) (fun _ h => h.elim)
      have HK8 := Lib.hid k8
      have HK80 := Lib.hid k80
      clear k7 k80
      refine hK _ _ ?_
      clear hK K
      have hb := HB3.out.kept k8
      obtain ⟨W9, hW9, hb9, k9⟩ := hb.put3 (.slice none 0 0) (.int .i64 pn) (.bool pb)
      have fr := hb.soft
      obtain ⟨c0, c1, c2⟩ := hb.three
      obtain ⟨d0, d1, d2⟩ := hb9.three
      have HK9 := Lib.hid ((HK3.out.trans k8).trans' k9 (fun j hj => .inr (by have h1 : j = zq + 1 := hj; have := HZ6.out; omega)))
      have HK90 := Lib.hid (HK80.out.trans k9)
      clear hb hb9 k9
      refine walkW_do rfl (inKA.of HK80.out) (fun K hK => ?_)
      go_simp
      refine hK _ _ ?_
      clear hK K k8
      refine ⟨inKA.of HK90.out, ?_⟩
      go_wp2_with fail
      clear c0 c1 c2 fr
      try simp only [Exit.inBlock, Exit.then]
      refine bodyPost_ret (v := .agg #[.slice none 0 0, .int .i64 pn, .bool pb]) (by simp [results, Tryz.results31, go_sem, d0, d1, d2]) rfl ?_
      exact ⟨.slice none 0 0, by rw [HFX2.out]; rfl, by rw [HFX2.out]; exact rws_nil _, HK9.out, fun b h => by cases h⟩
    · have HMS := Lib.hid (fun W (k : Keep (fun _ => False) W3 W) => meas_any ⟨5, q1, q2, q3, q4, q5, q6⟩ v1 rows W (HR3.out.kept k) (by have := HN1.out; omega) HF1.out)
      obtain ⟨⟨pn, pb⟩, hp⟩ : ∃ p, (measR ⟨5, q1, q2, q3, q4, q5, q6⟩ rows).foldl (extS ltB) (0, false) = p := ⟨_, rfl⟩
      have HP := Lib.hid hp
      clear hp
      have HFX2 : Hid (fromR ⟨5, q1, q2, q3, q4, q5, q6⟩ rows others = rzP (pn, pb)) := Lib.hid (by rw [HFX.out, ← HP.out]; rfl)
      go_upto_region 10 with (fail)
      clear e0 e1 e2 e3 e4 e5 e6 n0 n1 n2
      have e0 : ∀ u : KA (fun j => j = zq + 1) W3, u.val.cell? ⟨zq, 0, none⟩ = some (.int .i64 5) := fun u => (HQ3.out.keep u.k (by show ¬ zq = zq + 1; omega)).1 0 (by decide)
      have e1 : ∀ u : KA (fun j => j = zq + 1) W3, u.val.cell? ⟨zq, 1, none⟩ = some (.int .i64 q1) := fun u => (HQ3.out.keep u.k (by show ¬ zq = zq + 1; omega)).1 1 (by decide)
      have e2 : ∀ u : KA (fun j => j = zq + 1) W3, u.val.cell? ⟨zq, 2, none⟩ = some (.int .i64 q2) := fun u => (HQ3.out.keep u.k (by show ¬ zq = zq + 1; omega)).1 2 (by decide)
      have e3 : ∀ u : KA (fun j => j = zq + 1) W3, u.val.cell? ⟨zq, 3, none⟩ = some (.int .i64 q3) := fun u => (HQ3.out.keep u.k (by show ¬ zq = zq + 1; omega)).1 3 (by decide)
      have e4 : ∀ u : KA (fun j => j = zq + 1) W3, u.val.cell? ⟨zq, 4, none⟩ = some (.int .i64 q4) := fun u => (HQ3.out.keep u.k (by show ¬ zq = zq + 1; omega)).1 4 (by decide)
      have e5 : ∀ u : KA (fun j => j = zq + 1) W3, u.val.cell? ⟨zq, 5, none⟩ = some (.int .i64 q5) := fun u => (HQ3.out.keep u.k (by show ¬ zq = zq + 1; omega)).1 5 (by decide)
      have e6 : ∀ u : KA (fun j => j = zq + 1) W3, u.val.cell? ⟨zq, 6, none⟩ = some (.int .i64 q6) := fun u => (HQ3.out.keep u.k (by show ¬ zq = zq + 1; omega)).1 6 (by decide)
      have n0 : ∀ u : KA (fun j => j = zq + 1) W3, u.val.cell? ⟨zn, 0, none⟩ = some (.slice none 0 0) := fun u => (HN3.out.keep u.k HZN.out).three.1
      have n1 : ∀ u : KA (fun j => j = zq + 1) W3, u.val.cell? ⟨zn, 1, none⟩ = some (.int .i64 0) := fun u => (HN3.out.keep u.k HZN.out).three.2.1
      have n2 : ∀ u : KA (fun j => j = zq + 1) W3, u.val.cell? ⟨zn, 2, none⟩ = some (.bool false) := fun u => (HN3.out.keep u.k HZN.out).three.2.2
      refine wp_region_walk [(true, 0), (true, 1), (true, 3), (false, 2), (false, 4), (false, 5), (false, 6)] (inKA (fun j => j = zq + 1) W3) (by decide +kernel) (by decide +kernel) ?_
      iterate 3 (refine walkW_read rfl (fun K hK => ?_); go_simp; refine hK _ ?_; clear hK K)
      clear e0 e1 e2 e3 e4 e5 e6 n0 n1 n2
      have HD0 : Hid (Keep (fun j => j = zq + 1) W3 W3.drew) := Lib.hid (Keep.refl _ W3).drew
      have HD : Hid (Keep (fun _ => False) W3 W3.drew) := Lib.hid (Keep.refl _ W3).drew
      refine walkW_do rfl (inKA.of HD0.out) (fun K hK => ?_)
      go_simp
      with_reducible refine (HMS.out _ HD.out).mono ?_
      rintro e W5 ⟨vm, rfl, hits, k5⟩
      have HI5 := Lib.hid hits
      have HK5 := Lib.hid (HD.out.trans k5)
      have HK50 := Lib.hid (HK5.out.mono (B := fun j => j = zq + 1) (fun _ h => h.elim))
      clear hits k5
      refine hK _ _ ?_
      clear hK K
      refine walkW_do rfl (inKA.of HK50.out) (fun K hK => ?_)
      go_simp
      with_reducible refine (ext_any 61 W5).mono ?_
      rintro e W6 ⟨ze, rfl, hze, k6⟩
      have HFO := Lib.hid (foldI_any 85 #[ptr ze] (extS ltB) vm _ W6 (HI5.out.keep k6 (fun _ _ h => h)) enters_ext (fun p x W k => by simpa using extF_any 61 ltB ze p.1 p.2 x W enters_lt ltF_any (k.cell hze (fun h => h))))
      rw [HP.out] at HFO
      have HK6 := Lib.hid (HK5.out.trans k6)
      have HK60 := Lib.hid (HK6.out.mono (B := fun j => j = zq + 1) (fun _ h => h.elim))
      clear hze k6
      refine hK _ _ ?_
      clear hK K
      refine walkW_do rfl (inKA.of HK60.out) (fun K hK => ?_)
      go_simp
      with_reducible refine HFO.out.mono ?_
      rintro e W7 ⟨rfl, k7⟩
      have k8 := HK6.out.trans k7
      have k80 := k8.mono (B := fun j => j = zq + 1) (fun _ h => h.elim)
      have HK8 := Lib.hid k8
      have HK80 := Lib.hid k80
      clear k7 k80
      refine hK _ _ ?_
      clear hK K
      have hb := HB3.out.kept k8
      obtain ⟨W9, hW9, hb9, k9⟩ := hb.put3 (.slice none 0 0) (.int .i64 pn) (.bool pb)
      have fr := hb.soft
      obtain ⟨c0, c1, c2⟩ := hb.three
      obtain ⟨d0, d1, d2⟩ := hb9.three
      have HK9 := Lib.hid ((HK3.out.trans k8).trans' k9 (fun j hj => .inr (by have h1 : j = zq + 1 := hj; have := HZ6.out; omega)))
      have HK90 := Lib.hid (HK80.out.trans k9)
      clear hb hb9 k9
      refine walkW_do rfl (inKA.of HK80.out) (fun K hK => ?_)
      go_simp
      refine hK _ _ ?_
      clear hK K k8
      refine ⟨inKA.of HK90.out, ?_⟩
      go_wp2_with fail
      clear c0 c1 c2 fr
      try simp only [Exit.inBlock, Exit.then]
      refine bodyPost_ret (v := .agg #[.slice none 0 0, .int .i64 pn, .bool pb]) (by simp [results, Tryz.results31, go_sem, d0, d1, d2]) rfl ?_
      exact ⟨.slice none 0 0, by rw [HFX2.out]; rfl, by rw [HFX2.out]; exact rws_nil _, HK9.out, fun b h => by cases h⟩
    · have HMS := Lib.hid (fun W (k : Keep (fun _ => False) W3 W) => meas_any ⟨6, q1, q2, q3, q4, q5, q6⟩ v1 rows W (HR3.out.kept k) (by have := HN1.out; omega) HF1.out)
      obtain ⟨⟨pn, pb⟩, hp⟩ : ∃ p, (measR ⟨6, q1, q2, q3, q4, q5, q6⟩ rows).foldl (extS gtB) (0, false) = p := ⟨_, rfl⟩
      have HP := Lib.hid hp
      clear hp
      have HFX2 : Hid (fromR ⟨6, q1, q2, q3, q4, q5, q6⟩ rows others = rzP (pn, pb)) := Lib.hid (by rw [HFX.out, ← HP.out]; rfl)
      go_upto_region 12 with (fail)
      clear e0 e1 e2 e3 e4 e5 e6 n0 n1 n2
      have e0 : ∀ u : KA (fun j => j = zq + 1) W3, u.val.cell? ⟨zq, 0, none⟩ = some (.int .i64 6) := fun u => (HQ3.out.keep u.k (by show ¬ zq = zq + 1; omega)).1 0 (by decide)
      have e1 : ∀ u : KA (fun j => j = zq + 1) W3, u.val.cell? ⟨zq, 1, none⟩ = some (.int .i64 q1) := fun u => (HQ3.out.keep u.k (by show ¬ zq = zq + 1; omega)).1 1 (by decide)
      have e2 : ∀ u : KA (fun j => j = zq + 1) W3, u.val.cell? ⟨zq, 2, none⟩ = some (.int .i64 q2) := fun u => (HQ3.out.keep u.k (by show ¬ zq = zq + 1; omega)).1 2 (by decide)
      have e3 : ∀ u : KA (fun j => j = zq + 1) W3, u.val.cell? ⟨zq, 3, none⟩ = some (.int .i64 q3) := fun u => (HQ3.out.keep u.k (by show ¬ zq = zq + 1; omega)).1 3 (by decide)
      have e4 : ∀ u : KA (fun j => j = zq + 1) W3, u.val.cell? ⟨zq, 4, none⟩ = some (.int .i64 q4) := fun u => (HQ3.out.keep u.k (by show ¬ zq = zq + 1; omega)).1 4 (by decide)
      have e5 : ∀ u : KA (fun j => j = zq + 1) W3, u.val.cell? ⟨zq, 5, none⟩ = some (.int .i64 q5) := fun u => (HQ3.out.keep u.k (by show ¬ zq = zq + 1; omega)).1 5 (by decide)
      have e6 : ∀ u : KA (fun j => j = zq + 1) W3, u.val.cell? ⟨zq, 6, none⟩ = some (.int .i64 q6) := fun u => (HQ3.out.keep u.k (by show ¬ zq = zq + 1; omega)).1 6 (by decide)
      have n0 : ∀ u : KA (fun j => j = zq + 1) W3, u.val.cell? ⟨zn, 0, none⟩ = some (.slice none 0 0) := fun u => (HN3.out.keep u.k HZN.out).three.1
      have n1 : ∀ u : KA (fun j => j = zq + 1) W3, u.val.cell? ⟨zn, 1, none⟩ = some (.int .i64 0) := fun u => (HN3.out.keep u.k HZN.out).three.2.1
      have n2 : ∀ u : KA (fun j => j = zq + 1) W3, u.val.cell? ⟨zn, 2, none⟩ = some (.bool false) := fun u => (HN3.out.keep u.k HZN.out).three.2.2
      refine wp_region_walk [(true, 0), (true, 1), (true, 3), (false, 2), (false, 4), (false, 5), (false, 6)] (inKA (fun j => j = zq + 1) W3) (by decide +kernel) (by decide +kernel) ?_
      iterate 3 (refine walkW_read rfl (fun K hK => ?_); go_simp; refine hK _ ?_; clear hK K)
      clear e0 e1 e2 e3 e4 e5 e6 n0 n1 n2
      have HD0 : Hid (Keep (fun j => j = zq + 1) W3 W3.drew) := Lib.hid (Keep.refl _ W3).drew
      have HD : Hid (Keep (fun _ => False) W3 W3.drew) := Lib.hid (Keep.refl _ W3).drew
      refine walkW_do rfl (inKA.of HD0.out) (fun K hK => ?_)
      go_simp
      with_reducible refine (HMS.out _ HD.out).mono ?_
      rintro e W5 ⟨vm, rfl, hits, k5⟩
      have HI5 := Lib.hid hits
      have HK5 := Lib.hid (HD.out.trans k5)
      have HK50 := Lib.hid (HK5.out.mono (B := fun j => j = zq + 1) (fun _ h => h.elim))
      clear hits k5
      refine hK _ _ ?_
      clear hK K
      refine walkW_do rfl (inKA.of HK50.out) (fun K hK => ?_)
      go_simp
      with_reducible refine (ext_any 62 W5).mono ?_
      rintro e W6 ⟨ze, rfl, hze, k6⟩
      have HFO := Lib.hid (foldI_any 85 #[ptr ze] (extS gtB) vm _ W6 (HI5.out.keep k6 (fun _ _ h => h)) enters_ext (fun p x W k => by simpa using extF_any 62 gtB ze p.1 p.2 x W enters_gt gtF_any (k.cell hze (fun h => h))))
      rw [HP.out] at HFO
      have HK6 := Lib.hid (HK5.out.trans k6)
      have HK60 := Lib.hid (HK6.out.mono (B := fun j => j = zq + 1) (fun _ h => h.elim))
      clear hze k6
      refine hK _ _ ?_
      clear hK K
      refine walkW_do rfl (inKA.of HK60.out) (fun K hK => ?_)
      go_simp
      with_reducible refine HFO.out.mono ?_
      rintro e W7 ⟨rfl, k7⟩
      have k8 := HK6.out.trans k7
      have k80 := k8.mono (B := fun j => j = zq + 1) (fun _ h => h.elim)
      have HK8 := Lib.hid k8
      have HK80 := Lib.hid k80
      clear k7 k80
      refine hK _ _ ?_
      clear hK K
      have hb := HB3.out.kept k8
      obtain ⟨W9, hW9, hb9, k9⟩ := hb.put3 (.slice none 0 0) (.int .i64 pn) (.bool pb)
      have fr := hb.soft
      obtain ⟨c0, c1, c2⟩ := hb.three
      obtain ⟨d0, d1, d2⟩ := hb9.three
      have HK9 := Lib.hid ((HK3.out.trans k8).trans' k9 (fun j hj => .inr (by have h1 : j = zq + 1 := hj; have := HZ6.out; omega)))
      have HK90 := Lib.hid (HK80.out.trans k9)
      clear hb hb9 k9
      refine walkW_do rfl (inKA.of HK80.out) (fun K hK => ?_)
      go_simp
      refine hK _ _ ?_
      clear hK K k8
      refine ⟨inKA.of HK90.out, ?_⟩
      go_wp2_with fail
      clear c0 c1 c2 fr
      try simp only [Exit.inBlock, Exit.then]
      refine bodyPost_ret (v := .agg #[.slice none 0 0, .int .i64 pn, .bool pb]) (by simp [results, Tryz.results31, go_sem, d0, d1, d2]) rfl ?_
      exact ⟨.slice none 0 0, by rw [HFX2.out]; rfl, by rw [HFX2.out]; exact rws_nil _, HK9.out, fun b h => by cases h⟩
    · have HJ := Lib.hid (joined_any ⟨7, q1, q2, q3, q4, q5, q6⟩ v1 v2 rows others W3 HR3.out HO3.out HN1.out HN2.out HF1.out HF2.out)
      go_wp2_with fail
      clear e0 e1 e2 e3 e4 e5 e6 n0 n1 n2
      with_reducible refine HJ.out.mono ?_
      rintro e W5 ⟨vc, rfl, hrc, k5, hob⟩
      have HRC := Lib.hid hrc
      have HOB := Lib.hid hob
      obtain ⟨ac, cc, rfl, -⟩ := hrc.form'
      clear hrc hob
      have hb := HB3.out.kept k5
      obtain ⟨W9, hW9, hb9, k9⟩ := hb.put3 (.slice ac (joinR ⟨7, q1, q2, q3, q4, q5, q6⟩ rows others).length cc) (.int .i64 0) (.bool false)
      have fr := hb.soft
      obtain ⟨c0, c1, c2⟩ := hb.three
      obtain ⟨d0, d1, d2⟩ := hb9.three
      have HK9 := Lib.hid ((HK3.out.trans k5).trans' k9 (fun j hj => .inr (by have h1 : j = zq + 1 := hj; have := HZ6.out; omega)))
      have HRC9 := Lib.hid (HRC.out.keep k9 (fun b hb h => by have h1 : b = zq + 1 := h; have h2 := HOB.out b hb; have := HB3.out.lt; omega))
      clear hb hb9 k9
      clear k5 HRC
      go_wp2_with fail
      clear c0 c1 c2 fr
      try simp only [Exit.inBlock, Exit.then]
      refine bodyPost_ret (v := .agg #[.slice ac (joinR ⟨7, q1, q2, q3, q4, q5, q6⟩ rows others).length cc, .int .i64 0, .bool false]) (by simp [results, Tryz.results31, go_sem, d0, d1, d2]) rfl ?_
      exact ⟨.slice ac (joinR ⟨7, q1, q2, q3, q4, q5, q6⟩ rows others).length cc, by rw [HFX.out]; rfl, by rw [HFX.out]; exact HRC9.out, HK9.out, fun b hb => Nat.le_trans HK3.out.size (HOB.out b hb)⟩
  · have hokd : decide q.ok = false := decide_eq_false hok
    rw [hokd]
    have HFX : Hid (fromR q rows others = ⟨0, false, []⟩) := Lib.hid (by unfold fromR; rw [if_neg hok])
    clear hok hokd
    have hb := HB2.out
    obtain ⟨W9, hW9, hb9, k9⟩ := hb.put3 (.slice none 0 0) (.int .i64 0) (.bool false)
    have fr := hb.soft
    obtain ⟨c0, c1, c2⟩ := hb.three
    obtain ⟨d0, d1, d2⟩ := hb9.three
    have HK9 := Lib.hid (HK2.out.trans' k9 (fun j hj => .inr (by have h1 : j = zq + 1 := hj; have := HZQ.out; omega)))
    clear hb hb9 k9
    go_wp2_with fail
    clear c0 c1 c2 fr
    try simp only [Exit.inBlock, Exit.then]
    refine bodyPost_ret (v := .agg #[.slice none 0 0, .int .i64 0, .bool false]) (by simp [results, Tryz.results31, go_sem, d0, d1, d2]) rfl ?_
    exact ⟨.slice none 0 0, by rw [HFX.out], by rw [HFX.out]; exact rws_nil _, HK9.out, fun b h => by cases h⟩
/-- What Of answers on a state. -/
def OfP (q : Qy) (l : List R5) (w : World) (e : Ending) (w' : World) : Prop := ∃ R A v, R.Perm (l.filter (inR q.tb q.cl q.lo q.hi)) ∧ A.Perm (l.filter (ofT q.ot)) ∧ e = .returned (.tuple #[.agg #[v, .int .i64 (fromR q R A).v, .bool (fromR q R A).f], .int .i64 0]) ∧ Rws w' v (fromR q R A).rows ∧ Keep (fun _ => False) w w' ∧ ∀ b, v.ownBlock = some b → w.heap.size ≤ b
set_option maxRecDepth 100000 in
set_option maxHeartbeats 4000000 in
theorem of_any (z mb : Nat) (l : List R5) (p : Int) (q : Qy) (w : World) (h : StA w z mb l p) (hl : l.length ≤ 100000) (hq : q.ok) : Calls Tryz.prog 9 #[ptr z, qV q] w (OfP q l w) := by
  have HST := Lib.hid h
  have HL := Lib.hid hl
  have HOK : Hid (decide q.ok = true) := Lib.hid (decide_eq_true hq)
  have HC : Hid (0 ≤ q.cl ∧ q.cl < 4) := Lib.hid (by have := hq.1; unfold Qy.base at this; omega)
  have HV := Lib.hid (valid_any q)
  have HQ := Lib.hid ((QBox.new w q 37).kept (keep_cells _ #[.slice none 0 0, .int .i64 0, .bool false] 42))
  have HKQ := Lib.hid ((keep_cells w #[.int .i64 q.kd, .int .i64 q.tb, .int .i64 q.cl, .int .i64 q.lo, .int .i64 q.hi, .int .i64 q.bb, .int .i64 q.ot] 37).trans (keep_cells _ #[.slice none 0 0, .int .i64 0, .bool false] 42))
  have hb := BoxL.new (w.alloc (.cells #[.int .i64 q.kd, .int .i64 q.tb, .int .i64 q.cl, .int .i64 q.lo, .int .i64 q.hi, .int .i64 q.bb, .int .i64 q.ot] 37)) [.slice none 0 0, .int .i64 0, .bool false] 42
  rw [World.size_alloc] at hb
  have HB := Lib.hid hb
  clear h hl hq hb
  go_enter Tryz.func9, Tryz.ntmps9
  go_upto_region 1 with (fail)
  generalize (w.alloc (.cells #[.int .i64 q.kd, .int .i64 q.tb, .int .i64 q.cl, .int .i64 q.lo, .int .i64 q.hi, .int .i64 q.bb, .int .i64 q.ot] 37)).alloc (.cells #[.slice none 0 0, .int .i64 0, .bool false] 42) = W1 at *
  obtain ⟨zq, hzq⟩ : ∃ z, w.heap.size = z := ⟨_, rfl⟩
  have HZQ := Lib.hid hzq
  rw [hzq] at HQ HB ⊢
  clear hzq
  obtain ⟨e0, e1, e2, e3, e4, e5, e6⟩ := HQ.out.cells
  go_wp2_with fail
  clear e0 e1 e2 e3 e4 e5 e6
  with_reducible refine (HV.out W1).mono ?_
  rintro e W2 ⟨rfl, k2⟩
  rw [HOK.out]
  have HK2 := Lib.hid (HKQ.out.trans k2)
  have HB2 := Lib.hid (HB.out.kept k2)
  have HQ2 := Lib.hid (HQ.out.kept k2)
  have HS2 := Lib.hid (HST.out.kept HK2.out)
  clear k2 HV HB HQ HKQ
  go_upto_region 5 with (fail)
  have e0 : ∀ u : KA (fun j => j = zq + 1) W2, u.val.cell? ⟨zq, 0, none⟩ = some (.int .i64 q.kd) := fun u => (HQ2.out.keep u.k (by show ¬ zq = zq + 1; omega)).1 0 (by decide)
  have e1 : ∀ u : KA (fun j => j = zq + 1) W2, u.val.cell? ⟨zq, 1, none⟩ = some (.int .i64 q.tb) := fun u => (HQ2.out.keep u.k (by show ¬ zq = zq + 1; omega)).1 1 (by decide)
  have e2 : ∀ u : KA (fun j => j = zq + 1) W2, u.val.cell? ⟨zq, 2, none⟩ = some (.int .i64 q.cl) := fun u => (HQ2.out.keep u.k (by show ¬ zq = zq + 1; omega)).1 2 (by decide)
  have e3 : ∀ u : KA (fun j => j = zq + 1) W2, u.val.cell? ⟨zq, 3, none⟩ = some (.int .i64 q.lo) := fun u => (HQ2.out.keep u.k (by show ¬ zq = zq + 1; omega)).1 3 (by decide)
  have e4 : ∀ u : KA (fun j => j = zq + 1) W2, u.val.cell? ⟨zq, 4, none⟩ = some (.int .i64 q.hi) := fun u => (HQ2.out.keep u.k (by show ¬ zq = zq + 1; omega)).1 4 (by decide)
  have e5 : ∀ u : KA (fun j => j = zq + 1) W2, u.val.cell? ⟨zq, 5, none⟩ = some (.int .i64 q.bb) := fun u => (HQ2.out.keep u.k (by show ¬ zq = zq + 1; omega)).1 5 (by decide)
  have e6 : ∀ u : KA (fun j => j = zq + 1) W2, u.val.cell? ⟨zq, 6, none⟩ = some (.int .i64 q.ot) := fun u => (HQ2.out.keep u.k (by show ¬ zq = zq + 1; omega)).1 6 (by decide)
  have HPL : Hid (∀ (f : R5 → Bool) (R : List R5), R.Perm (l.filter f) → R.length ≤ 100000 ∧ ∀ r ∈ R, r.fine) := Lib.hid (fun f R hp => ⟨by
    have h1 := hp.length_eq
    have h2 := List.length_filter_le f l
    have h3 := HL.out
    omega, fun r hr => HST.out.fine r (List.mem_filter.1 (hp.mem_iff.1 hr)).1⟩)
  have HD0 : Hid (Keep (fun j => j = zq + 1) W2 W2.drew) := Lib.hid (Keep.refl _ W2).drew
  have HD : Hid (Keep (fun _ => False) W2 W2.drew) := Lib.hid (Keep.refl _ W2).drew
  refine wp_region_walk [(true, 0), (true, 1), (true, 2), (true, 3), (true, 4), (true, 5), (true, 6), (true, 7), (true, 8), (true, 9), (true, 11), (true, 12), (true, 13), (false, 10), (false, 14), (false, 15), (false, 16), (false, 17)] (inKA (fun j => j = zq + 1) W2) (by decide +kernel) (by decide +kernel) ?_
  iterate 13 (refine walkW_read rfl (fun K hK => ?_); go_simp; refine hK _ ?_; clear hK K)
  clear e0 e1 e2 e3 e4 e5 e6
  refine walkW_do rfl (inKA.of HD0.out) (fun K hK => ?_)
  go_simp
  with_reducible refine (range_any z mb l p q.tb q.cl q.lo q.hi W2.drew (HS2.out.kept HD.out) HL.out HC.out).mono ?_
  rintro e W5 ⟨R, v1, rfl, hp1, hr1, k5⟩
  have HP1 := Lib.hid hp1
  have HR1 := Lib.hid hr1
  have HK5 := Lib.hid (HD.out.trans k5)
  have HK50 := Lib.hid (HK5.out.mono (B := fun j => j = zq + 1) (fun _ h => h.elim))
  clear hp1 hr1 k5
  refine hK _ _ ?_
  clear hK K
  refine walkW_do rfl (inKA.of HK50.out) (fun K hK => ?_)
  go_simp
  with_reducible refine (rows_any z mb l p q.ot W5 (HS2.out.kept HK5.out) HL.out).mono ?_
  rintro e W6 ⟨A, v2, rfl, hp2, hr2, k6⟩
  have HP2 := Lib.hid hp2
  have HFM := Lib.hid (from_any q v1 v2 R A W6 (HR1.out.kept k6) hr2 (HPL.out _ _ HP1.out).1 (HPL.out _ _ hp2).1 (HPL.out _ _ HP1.out).2 (HPL.out _ _ hp2).2)
  have HK6 := Lib.hid (HK5.out.trans k6)
  have HK60 := Lib.hid (HK6.out.mono (B := fun j => j = zq + 1) (fun _ h => h.elim))
  clear hp2 hr2 k6
  refine hK _ _ ?_
  clear hK K
  refine walkW_do rfl (inKA.of HK60.out) (fun K hK => ?_)
  go_simp
  with_reducible refine HFM.out.mono ?_
  rintro e W7 ⟨vf, rfl, hrf, k7, hob⟩
  have HRF := Lib.hid hrf
  have HOB : Hid (∀ b, vf.ownBlock = some b → W2.heap.size ≤ b) := Lib.hid (fun b hb => Nat.le_trans HK6.out.size (hob b hb))
  obtain ⟨af, cf, rfl, -⟩ := hrf.form'
  have k8 := HK6.out.trans k7
  have HK8 := Lib.hid k8
  have HK80 := Lib.hid (k8.mono (B := fun j => j = zq + 1) (fun _ h => h.elim))
  clear hrf k7 hob
  generalize hF : fromR q R A = F at *
  have HFE := Lib.hid hF
  clear hF
  refine hK _ _ ?_
  clear hK K
  have hb := HB2.out.kept k8
  obtain ⟨W9, hW9, hb9, k9⟩ := hb.put3 (.slice af F.rows.length cf) (.int .i64 F.v) (.bool F.f)
  have fr := hb.soft
  obtain ⟨c0, c1, c2⟩ := hb.three
  obtain ⟨d0, d1, d2⟩ := hb9.three
  have HK9 := Lib.hid ((HK2.out.trans k8).trans' k9 (fun j hj => .inr (by have h1 : j = zq + 1 := hj; have := HZQ.out; omega)))
  have HK90 := Lib.hid (HK80.out.trans k9)
  have HRF9 := Lib.hid (HRF.out.keep k9 (fun b hb h => by have h1 : b = zq + 1 := h; have h2 := HOB.out b hb; have := HB2.out.lt; omega))
  clear hb hb9 k9 k8
  refine walkW_do rfl (inKA.of HK80.out) (fun K hK => ?_)
  go_simp
  refine hK _ _ ?_
  clear hK K
  refine walkW_do rfl (inKA.of HK90.out) (fun K hK => ?_)
  go_simp
  refine hK _ _ ?_
  clear hK K
  refine ⟨inKA.of HK90.out, ?_⟩
  go_wp2_with fail
  clear c0 c1 c2 fr
  try simp only [Exit.inBlock, Exit.then]
  refine bodyPost_ret (v := .tuple #[.agg #[.slice af F.rows.length cf, .int .i64 F.v, .bool F.f], .int .i64 0]) (by simp [results, Tryz.results9, go_sem, d0, d1, d2]) rfl ?_
  exact ⟨R, A, .slice af F.rows.length cf, HP1.out, HP2.out, by rw [HFE.out], by rw [HFE.out]; exact HRF9.out, HK9.out, fun b hb => Nat.le_trans HK2.out.size (HOB.out b hb)⟩
end Go.Proofs.YtcnpncndecjahaaGreatDoor
