/-
  Low walks: pick, insert, unlink, link.
-/
import Derived.Test.YtigkhglgoabjaaaProg
import Derived.WalkKit
import Derived.WalkSpells
import Derived.WalkLawsBesides
import Derived.RegionTactic
import Derived.ChangeAlike
import Derived.BigRegion
import Derived.Deep.Draws
namespace Go.Proofs.Ytigkhglgoabjaaa
open Go.RowKit

def pk (c n : Int) : Int := (if c < 0 then -(c + 1) else c) % n

set_option maxHeartbeats 400000 in
theorem pick_any (c n : Int) (w : World) (h1 : -9223372036854775808 ≤ c) (h2 : c ≤ 9223372036854775807) (hn : 1 ≤ n) (hn2 : n ≤ 9223372036854775807) :
    Calls Try.prog 14 #[.int .i64 c, .int .i64 n] w fun e w' => e = .returned (.int .i64 (pk c n)) ∧ w = w' := by
  by_cases hc : c < 0
  · go_enter Try.func14, Try.ntmps14
    go_wp2
    go_ret
    refine ⟨?_, rfl⟩
    show Ending.returned (.int .i64 (-(c + 1).tmod n)) = _
    rw [pk, if_pos hc, ← Int.neg_tmod, Int.tmod_eq_emod_of_nonneg (by omega)]
  · have hc' : 0 ≤ c := by omega
    go_enter Try.func14, Try.ntmps14
    go_wp2
    go_ret
    refine ⟨?_, rfl⟩
    rw [pk, if_neg (by omega)]
    rfl

set_option maxHeartbeats 400000 in
theorem unlink_any (x p n : Nat) (vp vn : Value) (w : World)
    (hb : w.cell? ⟨x, 3, none⟩ = some (.pointer (some ⟨p, 0, none⟩))) (hn : w.cell? ⟨x, 4, none⟩ = some (.pointer (some ⟨n, 0, none⟩)))
    (hp : w.cell? ⟨p, 4, none⟩ = some vp) (hq : w.cell? ⟨n, 3, none⟩ = some vn) (fp : w.frozen? ⟨p, 4, none⟩ = false) (fn : w.frozen? ⟨n, 3, none⟩ = false) :
    Calls Try.prog 26 #[.pointer (some ⟨x, 0, none⟩)] w fun e w' => e = .returned (.tuple #[]) ∧ 
      ∃ k, w' = ((w.setCell ⟨p, 4, none⟩ (.pointer (some ⟨n, 0, none⟩))).setCell ⟨n, 3, none⟩ (.pointer (some ⟨p, 0, none⟩))).drewN k := by
  go_enter Try.func26, Try.ntmps26
  go_region
  all_goals (go_end0; exact ⟨rfl, 1, rfl⟩)

set_option maxHeartbeats 400000 in
theorem link_any (x p n : Nat) (vp vn : Value) (w : World)
    (hb : w.cell? ⟨x, 3, none⟩ = some (.pointer (some ⟨p, 0, none⟩))) (hn : w.cell? ⟨x, 4, none⟩ = some (.pointer (some ⟨n, 0, none⟩)))
    (hp : w.cell? ⟨p, 4, none⟩ = some vp) (hq : w.cell? ⟨n, 3, none⟩ = some vn) (fp : w.frozen? ⟨p, 4, none⟩ = false) (fn : w.frozen? ⟨n, 3, none⟩ = false) :
    Calls Try.prog 40 #[.pointer (some ⟨x, 0, none⟩)] w fun e w' => e = .returned (.tuple #[]) ∧ 
      ∃ k, w' = ((w.setCell ⟨p, 4, none⟩ (.pointer (some ⟨x, 0, none⟩))).setCell ⟨n, 3, none⟩ (.pointer (some ⟨x, 0, none⟩))).drewN k := by
  go_enter Try.func40, Try.ntmps40
  go_region
  all_goals (go_end0; exact ⟨rfl, 1, rfl⟩)

set_option maxHeartbeats 400000 in
theorem insert_any (x a l : Nat) (v3 v4 vl : Value) (w : World) (hxa : x ≠ a) (hxl : x ≠ l)
    (hb : w.cell? ⟨x, 3, none⟩ = some v3) (hn : w.cell? ⟨x, 4, none⟩ = some v4)
    (hp : w.cell? ⟨a, 3, none⟩ = some (.pointer (some ⟨l, 0, none⟩))) (hq : w.cell? ⟨l, 4, none⟩ = some vl) 
    (f1 : w.frozen? ⟨x, 3, none⟩ = false) (f2 : w.frozen? ⟨x, 4, none⟩ = false) (f3 : w.frozen? ⟨a, 3, none⟩ = false) (f4 : w.frozen? ⟨l, 4, none⟩ = false):
    Calls Try.prog 27 #[.pointer (some ⟨x, 0, none⟩), .pointer (some ⟨a, 0, none⟩)] w fun e w' => e = .returned (.tuple #[]) ∧ 
      w' = ((((w.setCell ⟨x, 3, none⟩ (.pointer (some ⟨l, 0, none⟩))).setCell ⟨x, 4, none⟩ (.pointer (some ⟨a, 0, none⟩))).setCell ⟨l, 4, none⟩ (.pointer (some ⟨x, 0, none⟩))).setCell ⟨a, 3, none⟩ (.pointer (some ⟨x, 0, none⟩))) := by
  go_enter Try.func27, Try.ntmps27
  go_wp2
  all_goals (go_end0; exact ⟨rfl, rfl⟩)

set_option maxHeartbeats 400000 in
theorem count_any (p x bu len cap : Nat) (t : Nat) (u f z s m u' f' : Int) (w : World) (ht : t < len)
    (h7 : w.cell? ⟨p, 7, none⟩ = some (.slice (some ⟨bu, 0, none⟩) len cap)) (h9 : w.cell? ⟨p, 9, none⟩ = some (.int .i64 f)) (f9 : w.frozen? ⟨p, 9, none⟩ = false)
    (h1 : w.cell? ⟨x, 1, none⟩ = some (.int .i64 t)) (h2 : w.cell? ⟨x, 2, none⟩ = some (.int .i64 z))
    (hu : w.cell? ⟨bu, t, none⟩ = some (.int .i64 u)) (fu : w.frozen? ⟨bu, t, none⟩ = false)
    (hpb : p ≠ bu) (hxb : x ≠ bu) (e1 : IntKind.i64.wrap (s * z) = m) (e2 : IntKind.i64.wrap (u + m) = u') (e3 : IntKind.i64.wrap (f - m) = f') :
    Calls Try.prog 32 #[.pointer (some ⟨p, 0, none⟩), .pointer (some ⟨x, 0, none⟩), .int .i64 s] w fun e w' => e = .returned (.tuple #[]) ∧ 
      ∃ k, w' = ((w.setCell ⟨bu, t, none⟩ (.int .i64 u')).setCell ⟨p, 9, none⟩ (.int .i64 f')).drewN k := by
  go_enter Try.func32, Try.ntmps32
  go_wp2
  go_region
  go_wp2
  go_region
  all_goals go_end0
  all_goals exact ⟨rfl, 2, rfl⟩
end Go.Proofs.Ytigkhglgoabjaaa
