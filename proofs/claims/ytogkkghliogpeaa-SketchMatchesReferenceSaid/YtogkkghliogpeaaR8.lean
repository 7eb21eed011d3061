/-
  The reference's Merge.
-/
import Derived.Test.YtogkkghliogpeaaR7
import Derived.Test.YtogkkghliogpeaaE2
namespace Go.Proofs.Ytogkkghliogpeaa
open Go.RowKit Go.Shelf

/-- A list of counters that is made here. -/
def OwnL (w : World) (X : List C) (v : Value) (W : World) : Prop := Keep (fun _ => False) w W ∧ W.ownsRow w.heap.size 37 3 v (X.map ctrOf).length (flat (X.map ctrOf))
theorem OwnL.nil (w : World) {W : World} (k : Keep (fun _ => False) w W) : OwnL w [] (.slice none 0 0) W := ⟨k, by simpa [flat] using World.ownsRow_nil W w.heap.size 37 3⟩
theorem OwnL.keep {w W W' : World} {X : List C} {v : Value} (h : OwnL w X v W) (k : Keep (fun _ => False) W W') : OwnL w X v W' := ⟨h.1.trans k, ownsRow_keep h.2 k (fun _ _ h => h)⟩
theorem OwnL.snoc {w W : World} {X : List C} {v : Value} (h : OwnL w X v W) (x : C) (hl : X.length ≤ 1000) :
    ∃ v' W', (Builtin.append_ #[34, 34] 34 #[v, .slice (some ⟨W.heap.size, 0, none⟩) 1 1]).run Try.prog (W.alloc (.cells #[.string (ctrOf x).key, .int .i64 (ctrOf x).n, .int .i64 (ctrOf x).e] 37)) = .ok v' W' ∧ OwnL w (X ++ [x]) v' W' := by
  obtain ⟨v', W', h1, h2, h3, _⟩ := app_ctr W 34 w.heap.size v (X.map ctrOf) (ctrOf x) h.2 (by rw [List.length_map]; omega) h.1.size
  refine ⟨v', W', h1, h.1.trans' h3 (fun j e => .inr (h.2.lt j e).1), ?_⟩
  rw [List.map_append]
  exact h2
/-- The sketch is given a part of new counters. -/
theorem rf_store' {w W W' : World} {r : Nat} {v0 v' : Value} {cap : Nat} {l0 : List K3} {Y : List C} (h : Rf W r v0 cap l0) (k0 : Keep (fun _ => False) w W) (k : Keep (fun _ => False) W W') (hcs : Cs W' v' (Y.map ctrOf)) (hb : ∀ b, v'.ownBlock = some b → W.heap.size ≤ b ∧ b < W'.heap.size) :
    RPost w r cap Y (.returned (.int .i64 0)) (W'.setCell ⟨r, 1, none⟩ v') := by
  have h' := h.kept k
  have hr : r < W.heap.size := World.block_lt_of_cell? _ _ h.c1
  have ks : Keep (fun k => k = r) W' (W'.setCell ⟨r, 1, none⟩ v') := (Keep.refl _ W').setCell (p := ⟨r, 1, none⟩) _ (.inl rfl)
  refine ⟨v', rfl, ⟨(cell_set_off (by decide)).trans h'.c0, cell_set_same h'.c1, by rw [World.frozen?_setCell]; exact h'.fr, hcs.keep ks (fun b e => ?_), fun b e => ⟨?_, ?_⟩⟩, ((k0.trans k).mono (fun _ h => h.elim)).setCell (p := ⟨r, 1, none⟩) _ (.inl rfl), fun b e => Nat.le_trans k0.size (hb b e).1⟩
  · have := (hb b e).1; omega
  · have := (hb b e).1; omega
  · rw [World.size_setCell]; exact (hb b e).2

theorem quiet_eq {P : Program} {f : Nat} {args : Array Value} {w : World} {x : Value} (h : Calls P f args w fun e w' => e = .returned x ∧ w = w') : Calls P f args w fun e w' => e = .returned x ∧ w' = w := h.mono fun _ _ ⟨a, b⟩ => ⟨a, b.symm⟩

set_option maxRecDepth 100000 in
set_option maxHeartbeats 2000000 in
theorem rmerge_bad {w : World} {r r' : Nat} {v v' : Value} {cap cap' : Nat} {L L' : List C} (h : Rf w r v cap (L.map ctrOf)) (ok : OkL cap L) (h' : Rf w r' v' cap' (L'.map ctrOf)) (ok' : OkL cap' L') (hb : mrgBad cap L cap' L') :
    Calls Try.prog 22 #[ptr r, ptr r'] w fun e w' => e = .returned (.int .i64 140) ∧ Keep (fun _ => False) w w' := by
  have HT : Hid (∀ W, Keep (fun _ => False) w W → Calls Try.prog 24 #[ptr r] W fun e w' => e = .returned (.int .i64 (sumH L)) ∧ W = w') := Lib.hid (fun W k => rtotal_sk (h.kept k) ok)
  have HT' : Hid (∀ W, Keep (fun _ => False) w W → Calls Try.prog 24 #[ptr r'] W fun e w' => e = .returned (.int .i64 (sumH L')) ∧ W = w') := Lib.hid (fun W k => rtotal_sk (h'.kept k) ok')
  have c0 := h.c0
  have c0' := h'.c0
  have h1 := ok.hi0 ⟨#[]⟩
  have h1' := ok'.hi0 ⟨#[]⟩
  have hs0 : 0 ≤ sumH L := by omega
  have hs0' : 0 ≤ sumH L' := by omega
  have hsm := ok.sum
  have hsm' := ok'.sum
  unfold mrgBad at hb
  clear h h' ok ok' h1 h1'
  by_cases q1 : cap' < cap
  · have q1z : (cap' : Int) < (cap : Int) := by omega
    clear hb
    go_enter Try.func22, Try.ntmps22
    go_wp2_with fail
    go_quiet (fail)
    go_wp2_with fail
    go_ret
    exact ⟨rfl, (Keep.refl _ w).drewN _⟩
  · have q1z : ¬ (cap' : Int) < (cap : Int) := by omega
    obtain ⟨m, hm⟩ : ∃ m, min (sumH L') 1000000000000000 = m := ⟨_, rfl⟩
    have hm2 : 0 ≤ m ∧ m ≤ 1000000000000000 := by omega
    have hw : IntKind.i64.wrap (1000000000000000 - m) = 1000000000000000 - m := by rw [IntKind.wrap_i64]; omega
    by_cases q3 : 1000000000000000 - m < sumH L
    · clear hb
      go_enter Try.func22, Try.ntmps22
      go_wp2_with fail
      go_quiet (first | (go_at_call 24; with_reducible exact Calls.quiet_of_same (quiet_eq (HT.out _ ((Keep.refl _ w).drewN _)))) | (go_at_call 24; with_reducible exact Calls.quiet_of_same (quiet_eq (HT'.out _ ((Keep.refl _ w).drewN _)))))
      go_wp2_with fail
      go_ret
      exact ⟨rfl, (Keep.refl _ w).drewN _⟩
    · have q2 : 1000000000000000 < sumH L' := by omega
      clear hb
      go_enter Try.func22, Try.ntmps22
      go_wp2_with fail
      go_quiet (first | (go_at_call 24; with_reducible exact Calls.quiet_of_same (quiet_eq (HT.out _ ((Keep.refl _ w).drewN _)))) | (go_at_call 24; with_reducible exact Calls.quiet_of_same (quiet_eq (HT'.out _ ((Keep.refl _ w).drewN _)))))
      go_wp2_with fail
      go_ret
      exact ⟨rfl, (Keep.refl _ w).drewN _⟩

theorem both_take {L : List C} {B : ByteArray → C} {i : Nat} {x : C} (h : L[i]? = some x) : (L.map (fun y => B y.key)).take i ++ [B x.key] = (L.map (fun y => B y.key)).take (i + 1) := by
  rw [List.take_add_one, List.getElem?_map, h]; rfl
/-- The second sketch's keys that the first one lacks. -/
def more (L L' : List C) (B : ByteArray → C) (i : Nat) : List C := L.map (fun y => B y.key) ++ ((L'.take i).filter (fun y => (atC L y.key).isNone)).map (fun y => B y.key)
theorem more_all (L L' : List C) (B : ByteArray → C) : more L L' B L'.length = (unionK L L').map B := by
  unfold more unionK
  rw [List.take_length, List.map_append, List.map_map, List.map_map]
  rfl
theorem more_some {L L' : List C} {B : ByteArray → C} {i : Nat} {x z : C} (h : L'[i]? = some x) (hz : atC L x.key = some z) : more L L' B (i + 1) = more L L' B i := by
  unfold more
  rw [List.take_add_one, h]
  simp [List.filter_append, hz]
theorem more_none {L L' : List C} {B : ByteArray → C} {i : Nat} {x : C} (h : L'[i]? = some x) (hz : atC L x.key = none) : more L L' B (i + 1) = more L L' B i ++ [B x.key] := by
  unfold more
  rw [List.take_add_one, h]
  simp [List.filter_append, hz]
theorem more_len (L L' : List C) (B : ByteArray → C) (i : Nat) : (more L L' B i).length ≤ L.length + L'.length := by
  unfold more
  rw [List.length_append, List.length_map, List.length_map]
  have h1 := List.length_filter_le (fun y => (atC L y.key).isNone) (L'.take i)
  have h2 : (L'.take i).length ≤ L'.length := by rw [List.length_take]; omega
  omega

end Go.Proofs.Ytogkkghliogpeaa
