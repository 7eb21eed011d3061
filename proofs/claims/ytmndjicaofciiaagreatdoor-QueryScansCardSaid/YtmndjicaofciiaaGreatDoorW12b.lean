/-
  parse: how it is left.
-/
import Derived.Test.YtmndjicaofciiaaGreatDoorW12
namespace Go.Proofs.YtmndjicaofciiaaGreatDoor
open Go.RowKit Go.Shelf Go.Extern Go.Stop

def ParPost (p : Addr) (s : ByteArray) (w : World) (e : Ending) (w' : World) : Prop :=
  ((∃ q, parseRaw s = some q ∧ e = .returned (.tuple #[qV q, .nilIface])) ∨ (parseRaw s = none ∧ e = .returned (.tuple #[qV ⟨0, 0, 0, 0, 0, 0, 0⟩, eV p]))) ∧ Keep (fun _ => False) w w'
theorem par_dies (p : Addr) (s : ByteArray) (w W : World) (z2 z3 : Nat) (q : Qy) (v3 : Value) (hraw : parseRaw s = none) (hQ : QBox W z2 q) (h3 : W.cell? ⟨z3, 0, none⟩ = some v3) (hf3 : ∀ o, W.frozen? ⟨z3, o, none⟩ = false) (hne : z2 ≠ z3) (hE : W.cell? ⟨0, 0, none⟩ = some (eV p))
    (hk : ∀ W', Keep (fun j => j = z2 ∨ j = z3) W W' → Keep (fun _ => False) w W') (tm : Array Value) (h2 : tm[2]? = some (ptr z2)) (h3t : tm[3]? = some (ptr z3)) :
    bodyPostD Tryz.prog Tryz.f27 (ParPost p s w) (Exit.panic (errC p)) { tmps := tm, defers := [{ target := .fn (.func 40) #[ptr z2, ptr z3], args := #[] }] } W := by
  refine leaves_cons (f := 40) (args := #[ptr z2, ptr z3]) (by simp) (by simp [go_sem]) ?_
  refine (catch_panic p z2 z3 q v3 [] W hQ h3 hf3 hne hE).mono ?_
  rintro e u' w'' ⟨rfl, rfl, hq, h3', kk⟩
  have HK := Lib.hid (hk _ kk)
  obtain ⟨c0, c1, c2, c3, c4, c5, c6⟩ := hq.cells
  simp only at c0 c1 c2 c3 c4 c5 c6
  clear hk kk hQ h3 hf3
  show ∃ v, (results Tryz.f27 tm).run Tryz.prog w'' = .ok v w'' ∧ ParPost p s w (.returned v) w''
  refine ⟨.tuple #[qV ⟨0, 0, 0, 0, 0, 0, 0⟩, eV p], ?_, Or.inr ⟨hraw, rfl⟩, HK.out⟩
  simp [results, Tryz.results27, go_sem, h2, h3t, c0, c1, c2, c3, c4, c5, c6, h3']
theorem par_ends (p : Addr) (s : ByteArray) (w W : World) (z2 z3 : Nat) (q : Qy) (hraw : parseRaw s = some q) (hQ : QBox W z2 q) (h3 : W.cell? ⟨z3, 0, none⟩ = some .nilIface) (hk : Keep (fun _ => False) w W) (tm : Array Value) (h2 : tm[2]? = some (ptr z2)) (h3t : tm[3]? = some (ptr z3)) :
    bodyPostD Tryz.prog Tryz.f27 (ParPost p s w) Exit.ret { tmps := tm, defers := [{ target := .fn (.func 40) #[ptr z2, ptr z3], args := #[] }] } W := by
  refine leaves_cons (f := 40) (args := #[ptr z2, ptr z3]) (by simp) (by simp [go_sem]) ?_
  refine (catch_idle z2 z3 W).mono ?_
  rintro e u' w'' ⟨rfl, rfl, rfl⟩
  have HK := Lib.hid hk
  obtain ⟨c0, c1, c2, c3, c4, c5, c6⟩ := hQ.cells
  clear hk hQ
  show ∃ v, (results Tryz.f27 tm).run Tryz.prog w'' = .ok v w'' ∧ ParPost p s w (.returned v) w''
  refine ⟨.tuple #[qV q, .nilIface], ?_, Or.inl ⟨q, hraw, rfl⟩, HK.out⟩
  simp [results, Tryz.results27, go_sem, h2, h3t, c0, c1, c2, c3, c4, c5, c6, h3]
end Go.Proofs.YtmndjicaofciiaaGreatDoor
