/-
  MemoryOrder: the walk, whatever came in.
-/
import Derived.Test.YtigkhglgoabjaaaT2
import Derived.Test.YtigkhglgoabjaaaQ1
namespace Go.Proofs.Ytigkhglgoabjaaa
open Go.RowKit Go.Shelf

set_option maxRecDepth 100000 in
set_option maxHeartbeats 1000000 in
theorem order_none (c : Int) (la : Option Addr) (lc : Nat) (w : World) (h1 : -9223372036854775808 ≤ c) (h2 : c ≤ 9223372036854775807) :
    Calls Try.prog 7 #[.int .i64 c, .slice la 0 lc] w fun e w' => e = .returned (.bool true) ∧ Below w.heap.size w w' := by
  go_enter Try.func7, Try.ntmps7
  go_wp2_with fail
  with_reducible refine (sane_any _).mono ?_
  rintro e W1 ⟨rfl, k⟩
  have K1 := Lib.hid k
  clear k
  have hpb := pk_bd c 30 (by omega)
  go_wp2_with fail
  with_reducible refine (pick_any _ _ _ h1 h2 (by omega) (by omega)).mono ?_
  rintro e w' ⟨rfl, rfl⟩
  go_wp2_with fail
  obtain ⟨n, hn⟩ : ∃ n, 1 + pk c 30 = n := ⟨_, rfl⟩
  rw [hn]
  have hn1 : 1 ≤ n := by omega
  have hn2 : n ≤ 30 := by omega
  clear hn hpb
  with_reducible refine (new_ok n _ 0 1 1 [n] _ rfl (by omega) (by omega) (by decide) (by decide) (ints_new1 _ n) (by simp [sharesOk]; omega)).mono ?_
  rintro e W2 ⟨P, rfl, hP, e1, e2, e3, k2, hf⟩
  have HB := Lib.hid ((K1.out.alloc _).trans k2).low
  clear hP k2 hf e1 e2 e3
  generalize P.p = p at *
  clear P
  go_wp2_with fail
  go_loop [10] (fun i => i = .int .i64 0) (fun _ => 0)
  case atStart => rfl
  case round =>
    subst hrel
    go_wp2_with fail
    go_ret
    exact ⟨rfl, HB.out⟩

theorem memoryOrder_walk (c : Int) (la : Option Addr) (ln lc : Nat) (w : World) (hc : -9223372036854775808 ≤ c ∧ c ≤ 9223372036854775807) (hl : IsSteps w la ln) :
    Calls Try.prog 7 #[.int .i64 c, .slice la ln lc] w fun e w' => e = .returned (.bool true) ∧ Below w.heap.size w w' := by
  obtain ⟨l1, l2⟩ := hl
  by_cases h0 : ln = 0
  · subst h0
    exact order_none c la lc w hc.1 hc.2
  · obtain ⟨b, off, f, rfl, hs⟩ := l2 (by omega)
    exact order_some c b off ln lc f w hc.1 hc.2 l1 hs
end Go.Proofs.Ytigkhglgoabjaaa
