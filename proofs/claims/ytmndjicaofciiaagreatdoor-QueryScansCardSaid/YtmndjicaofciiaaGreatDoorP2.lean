/-
  cmp.Compare, cmp.Or, of numbers; numbers in a slice.
-/
import Derived.Test.YtmndjicaofciiaaGreatDoorW0
namespace Go.Proofs.YtmndjicaofciiaaGreatDoor
open Go.RowKit Go.Shelf

theorem Keep.drewN {A : Nat → Prop} {a w : World} (h : Keep A a w) (k : Nat) : Keep A a (w.drewN k) := ⟨h.os, h.tape, h.output, h.size, h.block⟩
theorem Keep.frozen {A : Nat → Prop} {w w' : World} (k : Keep A w w') {b : Nat} (hb : b < w.heap.size) (hA : ¬ A b) (o : Nat) : w'.frozen? ⟨b, o, none⟩ = w.frozen? ⟨b, o, none⟩ :=
  World.frozen?_of_block (w := w) (a := ⟨b, o, none⟩) (k.block _ hb hA)
theorem quiet_same {P : Program} {f : FuncId} {args : Array Value} {w : World} {n : Nat} {v : Value}
    (h : Calls P f args (w.drewN n) fun e w' => e = .returned v ∧ w.drewN n = w') : Calls P f args (w.drewN n) fun e w'' => e = .returned v ∧ ∃ m, w'' = w.drewN m :=
  h.mono fun _ _ ⟨he, hm⟩ => ⟨he, n, hm.symm⟩
def cmpI (a b : Int) : Int := if a < b then -1 else if b < a then 1 else 0
set_option maxHeartbeats 400000 in
theorem isNaN_int (a : Int) (w : World) : Calls Tryz.prog 50 #[.int .i64 a] w fun e w' => e = .returned (.bool false) ∧ w = w' := by
  have h : (a != a) = false := by simp
  go_enter Tryz.func50, Tryz.ntmps50
  go_wp2
  go_ret
  exact ⟨rfl, rfl⟩
set_option maxHeartbeats 400000 in
theorem cmp_int (a b : Int) (w : World) : Calls Tryz.prog 33 #[.int .i64 a, .int .i64 b] w fun e w' => e = .returned (.int .i64 (cmpI a b)) ∧ w = w' := by
  rcases Int.lt_trichotomy a b with h1 | h1 | h1
  · have HC : Hid (cmpI a b = -1) := Lib.hid (by unfold cmpI; rw [if_pos h1])
    go_enter Tryz.func33, Tryz.ntmps33
    go_wp2_with (go_at_call 50; refine (isNaN_int _ _).mono ?_; rintro e w' ⟨rfl, rfl⟩)
    go_ret
    exact ⟨by rw [HC.out]; rfl, rfl⟩
  · have HC : Hid (cmpI a b = 0) := Lib.hid (by unfold cmpI; rw [if_neg (by omega), if_neg (by omega)])
    have h2 : ¬ a < b := by omega
    have h3 : ¬ b < a := by omega
    clear h1
    go_enter Tryz.func33, Tryz.ntmps33
    go_wp2_with (go_at_call 50; refine (isNaN_int _ _).mono ?_; rintro e w' ⟨rfl, rfl⟩)
    go_ret
    exact ⟨by rw [HC.out]; rfl, rfl⟩
  · have HC : Hid (cmpI a b = 1) := Lib.hid (by unfold cmpI; rw [if_neg (by omega), if_pos h1])
    go_enter Tryz.func33, Tryz.ntmps33
    go_wp2_with (go_at_call 50; refine (isNaN_int _ _).mono ?_; rintro e w' ⟨rfl, rfl⟩)
    go_ret
    exact ⟨by rw [HC.out]; rfl, rfl⟩

/-- The first one that is not 0. -/
def orL : List Int → Int
  | [] => 0
  | x :: l => if x = 0 then orL l else x
theorem orL_drop {xs : List Int} {k : Nat} (h : ∀ y ∈ xs.take k, y = 0) : orL xs = orL (xs.drop k) := by
  induction xs generalizing k with
  | nil => simp [orL]
  | cons x xs ih =>
    cases k with
    | zero => rfl
    | succ k =>
      rw [List.take_succ_cons] at h
      have h0 := h x (by simp)
      rw [List.drop_succ_cons, ← ih (fun y hy => h y (by simp [hy]))]
      simp [orL, h0]
/-- Numbers in a slice. -/
structure Its (W : World) (v : Value) (xs : List Int) : Prop where
  n : xs.length ≤ 1000000000000000
  bd : ∀ x ∈ xs, I64 x
  at_ : ∃ a c b off, v = .slice a xs.length c ∧ xs.length ≤ c ∧ (0 < xs.length → a = some ⟨b, off, none⟩) ∧ ∀ j x, xs[j]? = some x → W.cell? ⟨b, off + j, none⟩ = some (.int .i64 x)
theorem Its.keep {W W' : World} {A : Nat → Prop} {v : Value} {xs : List Int} (h : Its W v xs) (k : Keep A W W') (hA : ∀ b, v.ownBlock = some b → ¬ A b) : Its W' v xs := by
  obtain ⟨a, c, b, off, rfl, hc, ha, h1⟩ := h.at_
  refine ⟨h.n, h.bd, a, c, b, off, rfl, hc, ha, fun j x hj => ?_⟩
  have hp : 0 < xs.length := by have := (List.getElem?_eq_some_iff.1 hj).1; omega
  refine k.cell (h1 j x hj) (hA b ?_)
  rw [ha hp]; rfl
theorem Its.kept {W W' : World} {v : Value} {xs : List Int} (h : Its W v xs) (k : Keep (fun _ => False) W W') : Its W' v xs := h.keep k (fun _ _ h => h)
theorem Its.nil (W : World) : Its W (.slice none 0 0) [] := ⟨by simp, by simp, none, 0, 0, 0, rfl, by simp, fun h => by simp at h, fun j x hj => by simp at hj⟩

set_option maxRecDepth 100000 in
set_option maxHeartbeats 400000 in
theorem cmp_or (v : Value) (xs : List Int) (w : World) (h : Its w v xs) : Calls Tryz.prog 32 #[v] w fun e w' => e = .returned (.int .i64 (orL xs)) ∧ w = w' := by
  obtain ⟨hn, -, a, c, b, off, rfl, hc, ha, hcell⟩ := h
  have HC := Lib.hid hcell
  have HA := Lib.hid ha
  clear hcell ha
  obtain ⟨n, hn'⟩ : ∃ n, xs.length = n := ⟨_, rfl⟩
  have HL := Lib.hid hn'
  rw [hn'] at hn hc ⊢
  clear hn'
  go_enter Tryz.func32, Tryz.ntmps32
  go_wp2_with fail
  go_loopg [8] n (fun gh v wr => ∃ k : Nat, gh + k = n ∧ v = .int .i64 k ∧ (∀ y ∈ xs.take k, y = 0) ∧ w = wr)
  case atStart => exact ⟨0, by omega, rfl, by simp, rfl⟩
  case round =>
    obtain ⟨k, hk, rfl, hz, rfl⟩ := hrel
    have HZ := Lib.hid hz
    clear hz
    by_cases hlt : k < n
    · obtain ⟨x, hx⟩ : ∃ x, xs[k]? = some x := ⟨_, List.getElem?_eq_getElem (by have := HL.out; omega)⟩
      obtain rfl := HA.out (by have := HL.out; omega)
      have c1 := HC.out k x hx
      have hkz : (k : Int) < (n : Int) := by omega
      have hk0 : (0 : Int) ≤ (k : Int) := by omega
      have HX := Lib.hid hx
      clear hx
      by_cases hx0 : x = 0
      · have hb : (x == 0) = true := by simpa using hx0
        have HX0 := Lib.hid hx0
        clear hx0
        go_wp2_with fail
        go_roundg (gk - 1)
        case rel => exact ⟨k + 1, by omega, by go_num, fun y hy => by
          rw [List.take_add_one, HX.out] at hy
          rcases List.mem_append.1 hy with hy | hy
          · exact HZ.out y hy
          · simp at hy; rw [hy]; exact HX0.out, rfl⟩
        case measure => omega
      · have hb : (x == 0) = false := by simpa using hx0
        have HO : Hid (orL xs = x) := Lib.hid (by
          rw [orL_drop HZ.out, List.drop_eq_getElem_cons (by have := HL.out; omega)]
          have := HX.out
          rw [List.getElem?_eq_getElem (by have := HL.out; omega)] at this
          simp only [Option.some.injEq] at this
          rw [this]
          simp [orL, hx0])
        clear hx0
        go_wp2_with fail
        go_ret
        exact ⟨by rw [HO.out]; rfl, rfl⟩
    · have HO : Hid (orL xs = 0) := Lib.hid (by
        rw [orL_drop HZ.out, List.drop_eq_nil_of_le (by have := HL.out; omega)]; rfl)
      go_wp2_with fail
      go_ret
      exact ⟨by rw [HO.out]; rfl, rfl⟩

/-! ### members -/
end Go.Proofs.YtmndjicaofciiaaGreatDoor
