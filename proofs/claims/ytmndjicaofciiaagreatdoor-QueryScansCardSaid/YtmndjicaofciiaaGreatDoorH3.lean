/-
  within of package row.
-/
import Derived.Test.YtmndjicaofciiaaGreatDoorH2
namespace Go.Proofs.YtmndjicaofciiaaGreatDoor
open Go.RowKit Go.Shelf

def outB (lo hi n : Int) : Bool := decide (n < lo) || decide (n > hi)
theorem wiB_eq (lo hi : Int) (l : List Int) : wiB lo hi l = !(l.any (outB lo hi)) := rfl
set_option maxRecDepth 100000 in
theorem rin1_any (n : Int) (b1 b2 : Nat) (lo hi : Int) (w : World) (h1 : w.cell? ⟨b1, 0, none⟩ = some (.int .i64 lo)) (h2 : w.cell? ⟨b2, 0, none⟩ = some (.int .i64 hi)) : Calls Tryz.prog 79 #[.int .i64 n, ptr b1, ptr b2] w fun e w' => e = .returned (.bool (outB lo hi n)) ∧ w = w' := by
  by_cases h : n < lo
  · have HO : Hid (outB lo hi n = true) := Lib.hid (by unfold outB; rw [decide_eq_true h]; rfl)
    go_enter Tryz.func79, Tryz.ntmps79
    go_wp2_with fail
    go_ret
    exact ⟨by rw [HO.out]; rfl, rfl⟩
  · have HO : Hid (outB lo hi n = decide (n > hi)) := Lib.hid (by unfold outB; rw [decide_eq_false h]; rfl)
    go_enter Tryz.func79, Tryz.ntmps79
    go_wp2_with fail
    go_ret
    exact ⟨by rw [HO.out]; rfl, rfl⟩
abbrev rinV (b1 b2 : Nat) : Value := .func (.func 79) #[] #[ptr b1, ptr b2]
set_option maxRecDepth 100000 in
set_option maxHeartbeats 1000000 in
theorem rindex_any (v : Value) (l : List Int) (b1 b2 : Nat) (lo hi : Int) (w : World) (h : Its w v l) (h1 : w.cell? ⟨b1, 0, none⟩ = some (.int .i64 lo)) (h2 : w.cell? ⟨b2, 0, none⟩ = some (.int .i64 hi)) : Calls Tryz.prog 99 #[v, rinV b1 b2] w fun e w' => (∃ r, e = .returned (.int .i64 r) ∧ decide (0 ≤ r) = l.any (outB lo hi)) ∧ w = w' := by
  obtain ⟨hn, -, a, c, bb, off, rfl, hc, ha, hcell⟩ := h
  have HC := Lib.hid hcell
  have HA := Lib.hid ha
  have HB : Hid (∀ n, Calls Tryz.prog 79 #[.int .i64 n, ptr b1, ptr b2] w fun e w' => e = .returned (.bool (outB lo hi n)) ∧ w = w') := Lib.hid (fun n => rin1_any n b1 b2 lo hi w h1 h2)
  clear hcell ha h1 h2
  obtain ⟨ln, hn'⟩ : ∃ n, l.length = n := ⟨_, rfl⟩
  have HL := Lib.hid hn'
  rw [hn'] at hc hn ⊢
  clear hn'
  go_enter Tryz.func99, Tryz.ntmps99
  go_wp2_with fail
  go_loopg [8] ln (fun gh v wr => ∃ k : Nat, gh + k = ln ∧ v = .int .i64 k ∧ Hid (∀ j m, j < k → l[j]? = some m → outB lo hi m = false) ∧ w = wr)
  case atStart => exact ⟨0, by omega, rfl, Lib.hid (fun j m h => by omega), rfl⟩
  case round =>
    obtain ⟨k, hk, rfl, HN, rfl⟩ := hrel
    by_cases hlt : k < ln
    · obtain ⟨m, hm⟩ : ∃ m, l[k]? = some m := ⟨_, List.getElem?_eq_getElem (by have := HL.out; omega)⟩
      obtain rfl := HA.out (by have := HL.out; omega)
      have c0 := HC.out k m hm
      have HM := Lib.hid hm
      have hkz : (k : Int) < (ln : Int) := by omega
      have hk0 : (0 : Int) ≤ (k : Int) := by omega
      clear hm
      go_wp2_with fail
      clear c0
      refine (HB.out m).mono ?_
      rintro e W2 ⟨rfl, rfl⟩
      cases hx : outB lo hi m with
      | true =>
        have HX := Lib.hid hx
        clear hx
        go_wp2_with fail
        go_ret
        exact ⟨⟨_, rfl, by rw [decide_eq_true (by omega), eq_comm, List.any_eq_true]; exact ⟨m, List.mem_of_getElem? HM.out, HX.out⟩⟩, rfl⟩
      | false =>
        have HNN : Hid (∀ j x, j < k + 1 → l[j]? = some x → outB lo hi x = false) := Lib.hid (fun j x hj hm => by
          by_cases e : j = k
          · subst e
            rw [HM.out] at hm
            cases hm
            exact hx
          · exact HN.out j x (by omega) hm)
        clear hx
        go_wp2_with fail
        go_roundg (gk - 1)
        case rel => exact ⟨k + 1, by omega, by go_num, HNN, rfl⟩
        case measure => omega
    · go_wp2_with fail
      go_ret
      exact ⟨⟨_, rfl, by
        rw [decide_eq_false (by decide), eq_comm, List.any_eq_false]
        intro m hm
        obtain ⟨j, hj⟩ := List.mem_iff_getElem?.1 hm
        rw [HN.out j m (by have := (List.getElem?_eq_some_iff.1 hj).1; have := HL.out; omega) hj]
        decide⟩, rfl⟩
set_option maxRecDepth 100000 in
set_option maxHeartbeats 1000000 in
theorem rcontains_any (v : Value) (l : List Int) (b1 b2 : Nat) (lo hi : Int) (w : World) (h : Its w v l) (h1 : w.cell? ⟨b1, 0, none⟩ = some (.int .i64 lo)) (h2 : w.cell? ⟨b2, 0, none⟩ = some (.int .i64 hi)) : Calls Tryz.prog 78 #[v, rinV b1 b2] w fun e w' => e = .returned (.bool (l.any (outB lo hi))) ∧ w = w' := by
  have HI := Lib.hid (rindex_any v l b1 b2 lo hi w h h1 h2)
  clear h h1 h2
  go_enter Tryz.func78, Tryz.ntmps78
  go_wp2_with fail
  with_reducible refine HI.out.mono ?_
  rintro e W1 ⟨⟨r, rfl, hr⟩, rfl⟩
  have HR := Lib.hid hr
  clear hr
  go_wp2_with fail
  go_ret
  exact ⟨by rw [← HR.out] <;> rfl, rfl⟩
theorem one_cell (W : World) (x : Value) (t : TypeId) : (W.alloc (.cells #[x] t)).cell? ⟨W.heap.size, 0, none⟩ = some x := (BoxL.new W [x] t).cell 0 x rfl
set_option maxRecDepth 100000 in
set_option maxHeartbeats 1000000 in
theorem rwithin_any (lo hi : Int) (v : Value) (l : List Int) (w : World) (h : Its w v l) : Calls Tryz.prog 57 #[.int .i64 lo, .int .i64 hi, v] w fun e w' => e = .returned (.bool (wiB lo hi l)) ∧ Keep (fun _ => False) w w' := by
  have k1 : Keep (fun _ => False) w (w.alloc (.cells #[.int .i64 lo] 3)) := (Keep.refl _ w).alloc _
  have k2 : Keep (fun _ => False) (w.alloc (.cells #[.int .i64 lo] 3)) ((w.alloc (.cells #[.int .i64 lo] 3)).alloc (.cells #[.int .i64 hi] 3)) := (Keep.refl _ _).alloc _
  have HK := Lib.hid (k1.trans k2)
  have HC := Lib.hid (rcontains_any v l w.heap.size (w.heap.size + 1) lo hi _ (h.kept HK.out) (k2.cell (one_cell _ _ _) (fun h => h)) (by have := one_cell (w.alloc (.cells #[.int .i64 lo] 3)) (.int .i64 hi) 3; rwa [World.size_alloc] at this))
  clear k1 k2 h
  go_enter Tryz.func57, Tryz.ntmps57
  go_wp2_with fail
  with_reducible refine HC.out.mono ?_
  rintro e W1 ⟨rfl, rfl⟩
  go_wp2_with fail
  go_ret
  exact ⟨by rw [wiB_eq] <;> rfl, HK.out⟩
end Go.Proofs.YtmndjicaofciiaaGreatDoor
