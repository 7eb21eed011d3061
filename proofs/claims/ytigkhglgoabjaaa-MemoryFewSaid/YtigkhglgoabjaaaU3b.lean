/-
  MemoryFew: the walk, whatever came in.
-/
import Derived.Test.YtigkhglgoabjaaaU3
import Derived.Test.YtigkhglgoabjaaaQ1
namespace Go.Proofs.Ytigkhglgoabjaaa
open Go.RowKit Go.Shelf

set_option maxRecDepth 100000 in
set_option maxHeartbeats 1000000 in
theorem few_none (c : Int) (a : Option Addr) (n cp : Nat) (xs : List Int) (la : Option Addr) (lc : Nat) (w : World) (h1 : -9223372036854775808 ≤ c) (h2 : c ≤ 9223372036854775807) (hn : xs.length = n) (hn2 : n ≤ 9223372036854775807) (hx : RowIn w a xs) (hw : ∀ x ∈ xs, -9223372036854775808 ≤ x ∧ x ≤ 9223372036854775807) :
    Calls Try.prog 6 #[.int .i64 c, .slice a n cp, .slice la 0 lc] w fun e w' => e = .returned (.bool true) ∧ Below w.heap.size w w' := by
  have HX := Lib.hid hx; clear hx
  have HN := Lib.hid hn; clear hn
  have HW := Lib.hid hw; clear hw
  go_enter Try.func6, Try.ntmps6
  go_wp2_with fail
  with_reducible refine (sane_any _).mono ?_
  rintro e W1 ⟨rfl, k⟩
  have K1 := Lib.hid k
  clear k
  go_wp2_with fail
  with_reducible refine (begin_any c a n cp xs _ h1 h2 HN.out hn2 (HX.out.keep K1.out) HW.out).mono ?_
  rintro e W2 hb
  obtain ⟨b, p, g, cp', rfl, hlw⟩ := hb.lw
  have HB := Lib.hid ((K1.out.trans hlw.k).alloc (.cells #[.int .i64 0, .int .i64 0, .int .i64 0, .int .i64 0, .int .i64 0, .int .i64 0, .int .i64 0, .int .i64 0, .int .i64 0, .int .i64 0, .int .i64 0, .int .i64 0] 46)).low
  clear hb hlw
  go_wp2_with fail
  go_loop [11] (fun i => i = .int .i64 0) (fun _ => 0)
  case atStart => rfl
  case round =>
    subst hrel
    go_wp2_with fail
    go_ret
    exact ⟨rfl, HB.out⟩

theorem memoryFew_walk (c : Int) (a : Option Addr) (n cp : Nat) (xs : List Int) (la : Option Addr) (ln lc : Nat) (w : World) (hc : -9223372036854775808 ≤ c ∧ c ≤ 9223372036854775807) (hx : IsInts w a n xs) (hl : IsSteps w la ln) :
    Calls Try.prog 6 #[.int .i64 c, .slice a n cp, .slice la ln lc] w fun e w' => e = .returned (.bool true) ∧ Below w.heap.size w w' := by
  obtain ⟨x1, x2, x3, x4⟩ := hx
  obtain ⟨l1, l2⟩ := hl
  by_cases h0 : ln = 0
  · subst h0
    exact few_none c a n cp xs la lc w hc.1 hc.2 x2 x1 x3 x4
  · obtain ⟨b, off, f, rfl, hs⟩ := l2 (by omega)
    exact few_some c a n cp xs b off ln lc f w hc.1 hc.2 x2 x1 x3 x4 l1 hs
end Go.Proofs.Ytigkhglgoabjaaa
