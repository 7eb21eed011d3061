/-
  The reader: next, number; find.
-/
import Derived.Test.YtmndjicaofciiaaGreatDoorW6
import Derived.Test.YtmndjicaofciiaaGreatDoorG3
namespace Go.Proofs.YtmndjicaofciiaaGreatDoor
open Go.RowKit Go.Shelf

/-- What the variables hold: the error of package query, those of strconv, the library's tables. -/
structure Env (p : Addr) (w : World) : Prop where
  pow : Pow w
  line : w.cell? ⟨0, 0, none⟩ = some (.iface 193 (.pointer (some p)))
  syn : ∃ v, w.cell? ⟨3, 0, none⟩ = some v ∧ (v = .nilIface ∨ ∃ te pe, v = .iface te pe)
  rng : ∃ v, w.cell? ⟨4, 0, none⟩ = some v ∧ (v = .nilIface ∨ ∃ te pe, v = .iface te pe)
  maxl : ∃ m, w.cell? ⟨2, 0, none⟩ = some (.int .i64 m)
theorem Env.kept {p : Addr} {w w' : World} (h : Env p w) (k : Keep (fun _ => False) w w') : Env p w' :=
  ⟨h.pow.kept k, k.cell h.line (fun h => h), let ⟨v, a, b⟩ := h.syn; ⟨v, k.cell a (fun h => h), b⟩, let ⟨v, a, b⟩ := h.rng; ⟨v, k.cell a (fun h => h), b⟩, let ⟨m, a⟩ := h.maxl; ⟨m, k.cell a (fun h => h)⟩⟩
/-- The panic of package query. -/
abbrev errC (p : Addr) : List PanicEntry := [{ v := .iface 193 (.pointer (some p)), recovered := false }]
/-- Words in a slice. -/
def Wds (W : World) (v : Value) (ws : List ByteArray) : Prop := ws.length ≤ 1000000 ∧ ∃ a c g off, v = .slice a ws.length c ∧ ws.length ≤ c ∧ (0 < ws.length → a = some ⟨g, off, none⟩) ∧ ∀ j x, ws[j]? = some x → W.cell? ⟨g, off + j, none⟩ = some (.string x)
/-- A reader. -/
def Rdr (W : World) (r : Nat) (ws : List ByteArray) : Prop := (∃ v, W.cell? ⟨r, 0, none⟩ = some v ∧ Wds W v ws) ∧ ∀ o, W.frozen? ⟨r, o, none⟩ = false
theorem Wds.keep {W W' : World} {A : Nat → Prop} {v : Value} {ws : List ByteArray} (h : Wds W v ws) (k : Keep A W W') (hA : ∀ b, v.ownBlock = some b → ¬ A b) : Wds W' v ws := by
  obtain ⟨h1, a, c, g, off, rfl, h2, h3, h4⟩ := h
  refine ⟨h1, a, c, g, off, rfl, h2, h3, fun j x hj => k.cell (h4 j x hj) (hA g ?_)⟩
  have := h3 (by have := (List.getElem?_eq_some_iff.1 hj).1; omega)
  rw [this]; rfl
theorem Wds.kept {W W' : World} {v : Value} {ws : List ByteArray} (h : Wds W v ws) (k : Keep (fun _ => False) W W') : Wds W' v ws := h.keep k (fun _ _ h => h)
theorem Rdr.kept {W W' : World} {r : Nat} {ws : List ByteArray} (h : Rdr W r ws) (k : Keep (fun _ => False) W W') : Rdr W' r ws := by
  obtain ⟨⟨v, h1, h2⟩, h3⟩ := h
  exact ⟨⟨v, k.cell h1 (fun h => h), h2.kept k⟩, fun o => by
    rw [World.frozen?_of_block (w := W) (a := ⟨r, o, none⟩) (k.block r (World.block_lt_of_cell? _ _ h1) (fun h => h))]
    exact h3 o⟩
theorem set_str {w : World} {r g o : Nat} {a : Option Addr} {n c : Nat} {v : Value} {y : ByteArray} (h1 : w.cell? ⟨r, 0, none⟩ = some (.slice a n c)) (h2 : w.cell? ⟨g, o, none⟩ = some (.string y)) : (w.setCell ⟨r, 0, none⟩ v).cell? ⟨g, o, none⟩ = some (.string y) := by
  by_cases e : r ≠ g ∨ 0 ≠ o
  · rw [cell_set_ne e]; exact h2
  · have e1 : r = g := by omega
    have e2 : 0 = o := by omega
    subst e1 e2
    rw [h1] at h2
    cases h2
def NextPost (p : Addr) (r : Nat) (ws : List ByteArray) (w : World) (e : Ending) (w' : World) : Prop :=
  (∃ x rest, ws = x :: rest ∧ e = .returned (.string x) ∧ Rdr w' r rest ∧ Keep (fun j => j = r) w w') ∨ (ws = [] ∧ e = .panicked (errC p) ∧ Keep (fun j => j = r) w w')
set_option maxRecDepth 100000 in
set_option maxHeartbeats 2000000 in
theorem next_any (p : Addr) (r : Nat) (ws : List ByteArray) (w : World) (h : Rdr w r ws) (hE : Env p w) : Calls Tryz.prog 44 #[ptr r] w (NextPost p r ws w) := by
  obtain ⟨⟨v, h1, h2⟩, h3⟩ := h
  obtain ⟨hl, a, c, g, off, rfl, hc, ha, hcell⟩ := h2
  have hline := hE.line
  cases ws with
  | nil =>
    simp only [List.length_nil] at *
    clear hcell ha hc hl hE
    go_enter Tryz.func44, Tryz.ntmps44
    go_wp2_with fail
    exact ⟨rfl, Or.inr ⟨rfl, rfl, Keep.refl _ w⟩⟩
  | cons x rest =>
    have HC := Lib.hid hcell
    have c1 : w.cell? ⟨g, off, none⟩ = some (.string x) := hcell 0 x rfl
    have ha' := ha (by simp)
    subst ha'
    obtain ⟨n, hn⟩ : ∃ n, rest.length = n := ⟨_, rfl⟩
    have HN := Lib.hid hn
    simp only [List.length_cons, hn] at h1 hc hl ⊢
    clear hcell ha hE hn
    have hcz : ((n : Int) + 1 == 0) = false := by simp; omega
    go_enter Tryz.func44, Tryz.ntmps44
    go_wp2_with fail
    · go_ret
      refine Or.inl ⟨x, rest, rfl, rfl, ⟨⟨_, cell_set_same h1, ?_⟩, fun o => (World.frozen?_setCell _ _ _ _).trans (h3 o)⟩, (Keep.refl (fun j => j = r) w).setCell (p := ⟨r, 0, none⟩) _ (.inl rfl)⟩
      have hn := HN.out
      have hr0 : rest = [] := List.eq_nil_of_length_eq_zero (by omega)
      subst hr0
      simp only [List.length_nil] at hn
      subst hn
      exact ⟨by simp, _, _, g, off, rfl, by simp, fun h => by simp at h, fun j y hj => by simp at hj⟩
    · go_ret
      refine Or.inl ⟨x, rest, rfl, rfl, ⟨⟨_, cell_set_same h1, ?_⟩, fun o => (World.frozen?_setCell _ _ _ _).trans (h3 o)⟩, (Keep.refl (fun j => j = r) w).setCell (p := ⟨r, 0, none⟩) _ (.inl rfl)⟩
      have hn := HN.out
      subst hn
      refine ⟨by omega, _, _, g, off + 1, rfl, by omega, fun _ => rfl, fun j y hj => ?_⟩
      have h5 := HC.out (j + 1) y hj
      rw [show off + (j + 1) = off + 1 + j by omega] at h5
      exact set_str h1 h5
end Go.Proofs.YtmndjicaofciiaaGreatDoor
