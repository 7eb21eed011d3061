/-
  Put.
-/
import Derived.Test.YtigkhglgoabjaaaF1
import Derived.Deep.LoopGhost
import Derived.WalkMore
namespace Go.Proofs.Ytigkhglgoabjaaa
open Go.RowKit Go.Shelf
attribute [local go_sem] Oper.semAt_some

set_option maxRecDepth 100000 in
set_option maxHeartbeats 400000 in
theorem put_nil (t : Int) (key : ByteArray) (z : Int) (w : World) :
    Calls Try.prog 17 #[.pointer none, .int .i64 t, .string key, .int .i64 z] w fun e w' => e = .returned (.tuple #[.slice none 0 0, .bool false]) ∧ Keep (fun _ => False) w w' := by
  go_enter Try.func17, Try.ntmps17
  go_wp2
  go_step3
  go_wp2
  rw [Exit.noGoto_ret]
  go_ret2
  exact ⟨rfl, (Keep.refl _ w).alloc _⟩

set_option maxRecDepth 100000 in
set_option maxHeartbeats 400000 in
theorem put_neg (p : Nat) (t : Int) (key : ByteArray) (z : Int) (w : World) (ht : t < 0) :
    Calls Try.prog 17 #[ptr p, .int .i64 t, .string key, .int .i64 z] w fun e w' => e = .returned (.tuple #[.slice none 0 0, .bool false]) ∧ Keep (fun _ => False) w w' := by
  have hd : decide (t < 0) = true := by simpa using ht
  go_enter Try.func17, Try.ntmps17
  go_wp2
  go_step3
  go_wp2
  rw [Exit.noGoto_ret]
  go_ret2
  exact ⟨rfl, (Keep.refl _ w).alloc _⟩

set_option maxRecDepth 100000 in
set_option maxHeartbeats 400000 in
theorem put_big (p bs n c : Nat) (t : Int) (key : ByteArray) (z : Int) (w : World) (h6 : w.cell? ⟨p, 6, none⟩ = some (.slice (some ⟨bs, 0, none⟩) n c)) (h0 : 0 ≤ t) (ht : (n : Int) ≤ t) :
    Calls Try.prog 17 #[ptr p, .int .i64 t, .string key, .int .i64 z] w fun e w' => e = .returned (.tuple #[.slice none 0 0, .bool false]) ∧ Keep (fun _ => False) w w' := by
  have hd : decide (t < 0) = false := by simpa using h0
  have hd2 : decide ((n : Int) ≤ t) = true := by simpa using ht
  have hlt := blk_lt h6
  go_enter Try.func17, Try.ntmps17
  go_wp2
  go_step3
  go_wp2
  rw [Exit.noGoto_ret]
  go_ret2
  exact ⟨rfl, (Keep.refl _ w).alloc _⟩

set_option maxRecDepth 100000 in
set_option maxHeartbeats 400000 in
theorem put_small (p bs n c : Nat) (t : Int) (key : ByteArray) (z : Int) (w : World) (h6 : w.cell? ⟨p, 6, none⟩ = some (.slice (some ⟨bs, 0, none⟩) n c)) (h0 : 0 ≤ t) (ht : t < (n : Int)) (hz : z < 1) :
    Calls Try.prog 17 #[ptr p, .int .i64 t, .string key, .int .i64 z] w fun e w' => e = .returned (.tuple #[.slice none 0 0, .bool false]) ∧ Keep (fun _ => False) w w' := by
  have hd : decide (t < 0) = false := by simpa using h0
  have hd2 : decide ((n : Int) ≤ t) = false := by simpa using ht
  have hd3 : decide (z < 1) = true := by simpa using hz
  have hlt := blk_lt h6
  go_enter Try.func17, Try.ntmps17
  go_wp2
  go_step3
  go_wp2
  rw [Exit.noGoto_ret]
  go_ret2
  exact ⟨rfl, (Keep.refl _ w).alloc _⟩


end Go.Proofs.Ytigkhglgoabjaaa
