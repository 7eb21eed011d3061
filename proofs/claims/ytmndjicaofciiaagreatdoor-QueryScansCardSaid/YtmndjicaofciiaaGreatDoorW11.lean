/-
  The deferred closure of parse.
-/
import Derived.Test.YtmndjicaofciiaaGreatDoorW10
namespace Go.Proofs.YtmndjicaofciiaaGreatDoor
open Go.RowKit Go.Shelf Go.Extern Go.Stop

theorem hasErr (v : Value) (w : World) : (Instr.typeAssert (.iface 193 v) 20 77 true).run Tryz.prog w = .ok (.tuple #[.iface 193 v, .bool true]) w := run_typeAssert_hasB Tryz.underlying77 (by kernel_rfl) v 20 w
theorem nilErr (w : World) : (Instr.typeAssert .nilIface 20 77 true).run Tryz.prog w = .ok (.tuple #[.nilIface, .bool false]) w := by kernel_rfl
set_option maxRecDepth 100000 in
set_option maxHeartbeats 2000000 in
theorem catch_idle (z2 z3 : Nat) (w : World) : CallsD Tryz.prog 40 #[ptr z2, ptr z3] .returning w fun e u' w' => e = .returned (.tuple #[]) ∧ u' = .returning ∧ w' = w := by
  have hn := nilErr
  refine callsD_of_wpS Tryz.func40 rfl fun c₀ cs hu => ?_
  apply wpS_seq
  apply wpS_region
  simp [wpOpsS, go_sem, recoverD, hu, Tryz.ntmps40, Exit.thenS, hn, Array.replicate, List.replicate]
  refine wpS_of_wp ?_
  go_wp2_with fail
  cases c₀
  simp_all [bodyPostS, results, Tryz.results40]
set_option maxRecDepth 100000 in
set_option maxHeartbeats 2000000 in
theorem catch_panic (p : Addr) (z2 z3 : Nat) (q : Qy) (v3 : Value) (older : List PanicEntry) (w : World) (hQ : QBox w z2 q) (h3 : w.cell? ⟨z3, 0, none⟩ = some v3) (hf3 : ∀ o, w.frozen? ⟨z3, o, none⟩ = false) (hne : z2 ≠ z3) (hE : w.cell? ⟨0, 0, none⟩ = some (eV p)) :
    CallsD Tryz.prog 40 #[ptr z2, ptr z3] (.panicking ({ v := eV p, recovered := false } :: older)) w fun e u' w' => e = .returned (.tuple #[]) ∧ u' = .panicking ({ v := eV p, recovered := true } :: older) ∧ QBox w' z2 ⟨0, 0, 0, 0, 0, 0, 0⟩ ∧ w'.cell? ⟨z3, 0, none⟩ = some (eV p) ∧ Keep (fun j => j = z2 ∨ j = z3) w w' := by
  have hn := hasErr
  refine callsD_of_wpS Tryz.func40 rfl fun c₀ cs hu => ?_
  apply wpS_seq
  apply wpS_region
  simp [wpOpsS, go_sem, recoverD, hu, Tryz.ntmps40, Exit.thenS, hn, Array.replicate, List.replicate]
  refine wpS_of_wp ?_
  have HIS := Lib.hid (is_same p)
  go_wp2_with fail
  refine (HIS.out w).mono ?_
  rintro e W ⟨rfl, rfl⟩
  obtain ⟨c0, c1, c2, c3, c4, c5, c6⟩ := hQ.cells
  have hfz := hQ.2
  have HQ := Lib.hid hQ
  have H3 := Lib.hid h3
  have hz30 : ∀ o o' : Nat, (⟨z2, o, none⟩ : Addr) ≠ ⟨z3, o', none⟩ := fun o o' e => hne (by cases e; rfl)
  go_wp2_with fail
  clear c0 c1 c2 c3 c4 c5 c6 hz30
  have hq7 : QBox (((((((W.setCell ⟨z2, 0, none⟩ (.int .i64 0)).setCell ⟨z2, 1, none⟩ (.int .i64 0)).setCell ⟨z2, 2, none⟩ (.int .i64 0)).setCell ⟨z2, 3, none⟩ (.int .i64 0)).setCell ⟨z2, 4, none⟩ (.int .i64 0)).setCell ⟨z2, 5, none⟩ (.int .i64 0)).setCell ⟨z2, 6, none⟩ (.int .i64 0)) z2 ⟨0, 0, 0, 0, 0, 0, 0⟩ := by
    have h := ((((((HQ.out.set 0 (by decide) 0).set 1 (by decide) 0).set 2 (by decide) 0).set 3 (by decide) 0).set 4 (by decide) 0).set 5 (by decide) 0).set 6 (by decide) 0
    obtain ⟨kd, tb, cl, lo, hi, bb, ot⟩ := q
    exact h
  have k7 : Keep (fun j => j = z2) W (((((((W.setCell ⟨z2, 0, none⟩ (.int .i64 0)).setCell ⟨z2, 1, none⟩ (.int .i64 0)).setCell ⟨z2, 2, none⟩ (.int .i64 0)).setCell ⟨z2, 3, none⟩ (.int .i64 0)).setCell ⟨z2, 4, none⟩ (.int .i64 0)).setCell ⟨z2, 5, none⟩ (.int .i64 0)).setCell ⟨z2, 6, none⟩ (.int .i64 0)) := (((((((Keep.refl (fun j => j = z2) W).setCell (p := ⟨z2, 0, none⟩) _ (.inl rfl)).setCell (p := ⟨z2, 1, none⟩) _ (.inl rfl)).setCell (p := ⟨z2, 2, none⟩) _ (.inl rfl)).setCell (p := ⟨z2, 3, none⟩) _ (.inl rfl)).setCell (p := ⟨z2, 4, none⟩) _ (.inl rfl)).setCell (p := ⟨z2, 5, none⟩) _ (.inl rfl)).setCell (p := ⟨z2, 6, none⟩) _ (.inl rfl)
  generalize (((((((W.setCell ⟨z2, 0, none⟩ (.int .i64 0)).setCell ⟨z2, 1, none⟩ (.int .i64 0)).setCell ⟨z2, 2, none⟩ (.int .i64 0)).setCell ⟨z2, 3, none⟩ (.int .i64 0)).setCell ⟨z2, 4, none⟩ (.int .i64 0)).setCell ⟨z2, 5, none⟩ (.int .i64 0)).setCell ⟨z2, 6, none⟩ (.int .i64 0)) = W7 at *
  have c3 := k7.cell H3.out (fun e => hne e.symm)
  have k8 : Keep (fun j => j = z3) W7 (W7.setCell ⟨z3, 0, none⟩ (eV p)) := (Keep.refl (fun j => j = z3) W7).setCell (p := ⟨z3, 0, none⟩) _ (.inl rfl)
  have c8 := cell_set_same (v := eV p) c3
  have q8 := hq7.keep k8 hne
  have kk : Keep (fun j => j = z2 ∨ j = z3) W (W7.setCell ⟨z3, 0, none⟩ (eV p)) := (k7.mono (fun _ h => .inl h)).trans (k8.mono (fun _ h => .inr h))
  generalize W7.setCell ⟨z3, 0, none⟩ (eV p) = W8 at *
  exact ⟨rfl, .panicking ({ v := eV p, recovered := true } :: older), rfl, .tuple #[], by simp [results, Tryz.results40], rfl, rfl, q8, c8, kk⟩
end Go.Proofs.YtmndjicaofciiaaGreatDoor
