/-
  The reference's Add.
-/
import Derived.Test.YtogkkghliogpeaaR3
namespace Go.Proofs.Ytogkkghliogpeaa
open Go.RowKit Go.Shelf

theorem ord_snoc {A : List C} {x : C} (hs : A.Pairwise BefC) (hk : ((A ++ [x]).map C.key).Nodup) : ordC (A ++ [x]) = insC x A := by
  have hp : (insC x A).Perm (A ++ [x]) := (insC_perm x A).trans (List.perm_append_singleton x A).symm
  have hne : ∀ y ∈ A, y.key ≠ x.key := fun y hy e => by
    rw [List.map_append, List.nodup_append] at hk
    exact hk.2.2 y.key (List.mem_map_of_mem hy) x.key (by simp) e
  exact (ordC_of_sorted hp (insC_sorted hs hne) ((hp.map C.key).nodup_iff.2 hk)).symm

theorem set_perm {L : List C} (hn : (L.map C.key).Nodup) {i : Nat} {x x' : C} (hx : L[i]? = some x) : (L.set i x').Perm (x' :: delC L x.key) := by
  have e : L = L.take i ++ x :: L.drop (i + 1) := by
    obtain ⟨h1, h2⟩ := List.getElem?_eq_some_iff.1 hx
    rw [← h2, List.getElem_cons_drop, List.take_append_drop]
  have hl : (L.take i).length = i := by have := (List.getElem?_eq_some_iff.1 hx).1; rw [List.length_take]; omega
  generalize L.take i = A at *
  generalize L.drop (i + 1) = B at *
  subst e
  have hA : delC (A ++ x :: B) x.key = A ++ B := by
    rw [List.map_append, List.map_cons, List.nodup_append, List.nodup_cons] at hn
    unfold delC
    rw [List.filter_append, List.filter_cons]
    simp only [ne_eq, not_true_eq_false, decide_false, Bool.false_eq_true, if_false]
    rw [List.filter_eq_self.2 (fun y hy => by
      rw [decide_eq_true_eq]; intro e
      exact hn.2.2 y.key (List.mem_map_of_mem hy) x.key (by simp) e), List.filter_eq_self.2 (fun y hy => by
      rw [decide_eq_true_eq]; intro e
      exact hn.2.1.1 (by rw [← e]; exact List.mem_map_of_mem hy))]
  rw [hA, List.set_append_right (h := by omega), hl, Nat.sub_self, List.set_cons_zero]
  exact List.perm_middle
theorem ord_set {L : List C} (hn : (L.map C.key).Nodup) (hs : L.Pairwise BefC) {i : Nat} {x x' : C} (hx : L[i]? = some x) (hk : x'.key = x.key) : ordC (L.set i x') = insC x' (delC L x.key) ∧ ((L.set i x').map C.key).Nodup := by
  have hp := set_perm hn hx (x' := x')
  have hd := delC_keys hn x.key
  have hnd : ((x' :: delC L x.key).map C.key).Nodup := by
    rw [List.map_cons, List.nodup_cons]
    exact ⟨fun hm => by obtain ⟨y, hy, e⟩ := List.mem_map.1 hm; exact (mem_delC.1 hy).2 (e.trans hk), hd⟩
  have hnd' := (hp.map C.key).nodup_iff.2 hnd
  refine ⟨(ordC_of_sorted ((insC_perm x' _).trans hp.symm) (insC_sorted (hs.sublist List.filter_sublist) (fun y hy e => (mem_delC.1 hy).2 (e.trans hk))) (((insC_perm x' _).map C.key).nodup_iff.2 hnd)).symm, hnd'⟩

theorem flat_set : ∀ (l : List K3) (i : Nat) (y : K3) (m : Int), l[i]? = some y → (flat l).set (i * 3 + 1) (.int .i64 m) = flat (l.set i ⟨y.key, m, y.e⟩)
  | [], i, y, m, h => by simp at h
  | z :: r, 0, y, m, h => by
    simp at h
    subst h
    simp [flat]
  | z :: r, i + 1, y, m, h => by
    have h' : r[i]? = some y := by simpa using h
    have e : (i + 1) * 3 + 1 = (i * 3 + 1) + 1 + 1 + 1 := by omega
    rw [e]
    simp only [flat, List.set_cons_succ]
    rw [flat_set r i y m h']

theorem owns_trunc {W : World} {lo : Nat} {g n cap m : Nat} {l : List K3} (h : W.ownsRow lo 37 3 (.slice (some ⟨g, 0, none⟩) n cap) n (flat l)) (hm : m ≤ n) (hl : l.length = n) : W.ownsRow lo 37 3 (.slice (some ⟨g, 0, none⟩) m cap) m (flat (l.take m)) := by
  rcases h.2 with ⟨h', _⟩ | ⟨g', cap', cur, h', hb, hg, hnc, hcm, hcs, htake⟩
  · simp at h'
  · simp only [Value.slice.injEq, Option.some.injEq, Addr.mk.injEq, and_true, true_and] at h'
    obtain ⟨rfl, rfl⟩ := h'
    refine ⟨by rw [flat_length, List.length_take]; omega, .inr ⟨g, cap, cur, rfl, hb, hg, by omega, hcm, hcs, ?_⟩⟩
    have e : flat l = flat (l.take m) ++ flat (l.drop m) := by rw [← flat_append, List.take_append_drop]
    have hlen : (flat (l.take m)).length = m * 3 := by rw [flat_length, List.length_take]; omega
    have e2 : (cur.toList.take (n * 3)).take (m * 3) = cur.toList.take (m * 3) := by rw [List.take_take]; congr 1; omega
    rw [← e2, htake, e, List.take_append_of_le_length (by omega), List.take_of_length_le (by omega)]

theorem owns_slice {W : World} {lo : Nat} {e : TypeId} {z : Nat} {v : Value} {n : Nat} {xs : List Value} (h : W.ownsRow lo e z v n xs) : ∃ a m c, v = .slice a m c := by
  rcases h.2 with ⟨rfl, _⟩ | ⟨g, cap, cur, rfl, _⟩
  · exact ⟨_, _, _, rfl⟩
  · exact ⟨_, _, _, rfl⟩

/-- The sketch is given its new counters. -/
theorem rf_store {W W' : World} {r : Nat} {v0 v' : Value} {cap lo : Nat} {l0 : List K3} {Y : List C} (h : Rf W r v0 cap l0) (k : Keep (fun _ => False) W W') (hlo : W.heap.size ≤ lo) (hown : W'.ownsRow lo 37 3 v' Y.length (flat (Y.map ctrOf))) :
    Rf (W'.setCell ⟨r, 1, none⟩ v') r v' cap (Y.map ctrOf) ∧ ∀ b, v'.ownBlock = some b → lo ≤ b := by
  have h' := h.kept k
  have hr : r < W.heap.size := World.block_lt_of_cell? _ _ h.c1
  have hb : ∀ b, v'.ownBlock = some b → lo ≤ b := fun b hb => (hown.lt b hb).1
  have ks : Keep (fun k => k = r) W' (W'.setCell ⟨r, 1, none⟩ v') := (Keep.refl _ W').setCell (p := ⟨r, 1, none⟩) _ (.inl rfl)
  refine ⟨⟨(cell_set_off (by decide)).trans h'.c0, cell_set_same h'.c1, by rw [World.frozen?_setCell]; exact h'.fr, (Cs.of_owns (by rw [List.length_map]; exact hown)).keep ks (fun b e => ?_), fun b e => ⟨?_, ?_⟩⟩, hb⟩
  · have := hb b e; omega
  · have := hb b e; omega
  · have := (hown.lt b e).2; simpa using this

def RPost (w : World) (r cap : Nat) (Y : List C) (e : Ending) (w' : World) : Prop := ∃ v', e = .returned (.int .i64 0) ∧ Rf w' r v' cap (Y.map ctrOf) ∧ Keep (fun k => k = r) w w' ∧ ∀ b, v'.ownBlock = some b → w.heap.size ≤ b

theorem rpost {w W W' : World} {r : Nat} {v0 v' : Value} {cap lo : Nat} {l0 : List K3} {Y : List C} (h : Rf W r v0 cap l0) (k0 : Keep (fun _ => False) w W) (k : Keep (fun _ => False) W W') (hlo : W.heap.size ≤ lo) (hown : W'.ownsRow lo 37 3 v' Y.length (flat (Y.map ctrOf))) :
    RPost w r cap Y (.returned (.int .i64 0)) (W'.setCell ⟨r, 1, none⟩ v') := by
  obtain ⟨h1, h2⟩ := rf_store h k hlo hown
  exact ⟨v', rfl, h1, ((k0.trans k).mono (fun _ h => h.elim)).setCell (p := ⟨r, 1, none⟩) _ (.inl rfl), fun b e => Nat.le_trans (Nat.le_trans k0.size hlo) (h2 b e)⟩

set_option maxRecDepth 100000 in
set_option maxHeartbeats 1000000 in
theorem radd_bad {w : World} {r : Nat} {v : Value} {cap : Nat} {L : List C} (h : Rf w r v cap (L.map ctrOf)) (ok : OkL cap L) (key : ByteArray) (n : Int) (hn : n < 1 ∨ 1000000000 < n ∨ 4611686018427387903 - n < sumH L) : Calls Try.prog 23 #[ptr r, .string key, .int .i64 n] w fun e w' => e = .returned (.int .i64 140) ∧ w = w' := by
  have HT := Lib.hid (rtotal_sk h ok)
  clear h ok
  by_cases h1 : n < 1
  · clear hn
    go_enter Try.func23, Try.ntmps23
    go_wp2_with fail
    go_ret
    exact ⟨rfl, rfl⟩
  · by_cases h2 : 1000000000 < n
    · clear hn
      go_enter Try.func23, Try.ntmps23
      go_wp2_with fail
      go_ret
      exact ⟨rfl, rfl⟩
    · have h3 : 4611686018427387903 - n < sumH L := by omega
      clear hn
      go_enter Try.func23, Try.ntmps23
      go_wp2_with fail
      with_reducible refine HT.out.mono ?_
      rintro e W ⟨rfl, rfl⟩
      go_wp2_with fail
      go_ret
      exact ⟨rfl, rfl⟩
end Go.Proofs.Ytogkkghliogpeaa
