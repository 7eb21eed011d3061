/-
  isOver and the two tests of victim.
-/
import Derived.Test.YtigkhglgoabjaaaD1
import Derived.Deep.QuietTactic
import Derived.BigQuiet
namespace Go.Proofs.Ytigkhglgoabjaaa
open Go.RowKit Go.Shelf

set_option maxHeartbeats 400000 in
theorem isOver_any (p bs bu n sc uc t : Nat) (s u m d : Int) (w : World) (ht : t < n)
    (h6 : w.cell? ⟨p, 6, none⟩ = some (.slice (some ⟨bs, 0, none⟩) n sc)) (h7 : w.cell? ⟨p, 7, none⟩ = some (.slice (some ⟨bu, 0, none⟩) n uc))
    (hs : w.cell? ⟨bs, t, none⟩ = some (.int .i64 s)) (hu : w.cell? ⟨bu, t, none⟩ = some (.int .i64 u)) (e1 : IntKind.i64.wrap (s - m) = d) :
    Calls Try.prog 37 #[ptr p, .int .i64 t, .int .i64 m] w fun e w' => e = .returned (.bool (decide (d < u))) ∧ ∃ k, w' = w.drewN k := by
  have hb : (0 : Int) ≤ (t : Int) := by omega
  have hb2 : (t : Int) < (n : Int) := by omega
  go_enter Try.func37, Try.ntmps37
  go_wp2
  go_quiet (fail)
  go_wp2
  go_ret
  exact ⟨rfl, _, rfl⟩

set_option maxHeartbeats 400000 in
theorem fits1_any (x bx t : Nat) (tt : Int) (w : World) (h1 : w.cell? ⟨x, 1, none⟩ = some (.int .i64 t)) (hb : w.cell? ⟨bx, 0, none⟩ = some (.int .i64 tt)) :
    Calls Try.prog 36 #[ptr x, .pointer (some ⟨bx, 0, none⟩)] w fun e w' => e = .returned (.bool ((t : Int) == tt)) ∧ ∃ k, w' = w.drewN k := by
  go_enter Try.func36, Try.ntmps36
  go_wp2
  go_quiet (fail)
  go_wp2
  go_ret
  exact ⟨rfl, _, rfl⟩

set_option maxHeartbeats 400000 in
theorem fits2_same (x bx bq t : Nat) (tt : Int) (w : World) (h1 : w.cell? ⟨x, 1, none⟩ = some (.int .i64 t)) (hb : w.cell? ⟨bx, 0, none⟩ = some (.int .i64 tt)) (he : ((t : Int) != tt) = false) :
    Calls Try.prog 38 #[ptr x, .pointer (some ⟨bx, 0, none⟩), .pointer (some ⟨bq, 0, none⟩)] w fun e w' => e = .returned (.bool false) ∧ ∃ k, w' = w.drewN k := by
  go_enter Try.func38, Try.ntmps38
  go_wp2
  go_quiet (fail)
  go_wp2
  go_ret
  exact ⟨rfl, _, rfl⟩

set_option maxHeartbeats 400000 in
theorem fits2_other (x bx bq p bs bu n sc uc t : Nat) (tt u z s d : Int) (w : World) (h1 : w.cell? ⟨x, 1, none⟩ = some (.int .i64 t)) (h2 : w.cell? ⟨x, 2, none⟩ = some (.int .i64 z)) (hb : w.cell? ⟨bx, 0, none⟩ = some (.int .i64 tt)) (hq : w.cell? ⟨bq, 0, none⟩ = some (ptr p)) (he : ((t : Int) != tt) = true)
    (ht : t < n) (h6 : w.cell? ⟨p, 6, none⟩ = some (.slice (some ⟨bs, 0, none⟩) n sc)) (h7 : w.cell? ⟨p, 7, none⟩ = some (.slice (some ⟨bu, 0, none⟩) n uc))
    (hs : w.cell? ⟨bs, t, none⟩ = some (.int .i64 s)) (hu : w.cell? ⟨bu, t, none⟩ = some (.int .i64 u)) (e1 : IntKind.i64.wrap (u - z) = d) :
    Calls Try.prog 38 #[ptr x, .pointer (some ⟨bx, 0, none⟩), .pointer (some ⟨bq, 0, none⟩)] w fun e w' => e = .returned (.bool (decide (s ≤ d))) ∧ ∃ k, w' = w.drewN k := by
  have hb0 : (0 : Int) ≤ (t : Int) := by omega
  have hb2 : (t : Int) < (n : Int) := by omega
  go_enter Try.func38, Try.ntmps38
  go_wp2
  go_quiet (fail)
  go_wp2
  go_ret
  exact ⟨rfl, _, rfl⟩
end Go.Proofs.Ytigkhglgoabjaaa
