/-
  The reader's numbers.
-/
import Derived.Test.YtmndjicaofciiaaGreatDoorW7
import Derived.Lib.SmallJoins
namespace Go.Proofs.YtmndjicaofciiaaGreatDoor
open Go.RowKit Go.Shelf

/-- Atoi: a number, or an error that is not nil. -/
def AtoPost (x : ByteArray) (w : World) (e : Ending) (w' : World) : Prop :=
  ((∃ v, Lib.atoiAll x.data.toList = .ok v ∧ e = .returned (.tuple #[.int .i64 v, .nilIface])) ∨ ((∀ v, Lib.atoiAll x.data.toList ≠ .ok v) ∧ ∃ u N, e = .returned (.tuple #[.int .i64 u, .iface 170 (.pointer (some ⟨N, 0, none⟩))]))) ∧ Keep (fun _ => False) w w'
theorem keep_below {w w' : World} (h : Below w.heap.size w w') : Keep (fun _ => False) w w' := (Keep.refl (fun _ => False) w).trans' (Keep.of_below h) (fun _ h => .inr h)
theorem atoi_any (p : Addr) (x : ByteArray) (w : World) (hx : x.size ≤ 1000000) (hE : Env p w) : Calls Tryz.prog 56 #[.string x] w (AtoPost x w) := by
  rcases h : Lib.atoiAll x.data.toList with v | _ | _
  · refine (Tryz.strconv_Atoi_ok x (by omega) v h w).mono ?_
    rintro e w' ⟨rfl, hw⟩
    refine ⟨.inl ⟨v, h, rfl⟩, ?_⟩
    rcases hw with rfl | ⟨t, rfl⟩
    · exact Keep.refl _ _
    · exact keep_below (Go.Joins.below_bytesWorld _ w _ _ (Nat.le_refl _))
  · obtain ⟨ev, h1, h2⟩ := hE.syn
    refine (Any.strconv_Atoi_syntax Tryz.laysC172 x (by omega) h ev w h1 h2).mono ?_
    rintro e w' ⟨N, rfl, -, -, hb⟩
    exact ⟨.inr ⟨fun v e => (by rw [h] at e; cases e), _, N, rfl⟩, keep_below hb⟩
  · obtain ⟨ev, h1, h2⟩ := hE.rng
    refine (Tryz.strconv_Atoi_range x (by omega) h ev w h1 h2).mono ?_
    rintro e w' ⟨N, rfl, -, -, hb⟩
    exact ⟨.inr ⟨fun v e => (by rw [h] at e; cases e), _, N, rfl⟩, keep_below hb⟩
def NumPost (p : Addr) (r : Nat) (ws : List ByteArray) (w : World) (e : Ending) (w' : World) : Prop :=
  (∃ x rest v, ws = x :: rest ∧ Lib.atoiAll x.data.toList = .ok v ∧ e = .returned (.int .i64 v) ∧ Rdr w' r rest ∧ Keep (fun j => j = r) w w') ∨
  ((∀ x rest, ws = x :: rest → ∀ v, Lib.atoiAll x.data.toList ≠ .ok v) ∧ e = .panicked (errC p) ∧ Keep (fun j => j = r) w w')
set_option maxRecDepth 100000 in
set_option maxHeartbeats 2000000 in
theorem number_any (p : Addr) (r : Nat) (ws : List ByteArray) (w : World) (h : Rdr w r ws) (hE : ∀ W, Keep (fun j => j = r) w W → Env p W) (hs : ∀ x ∈ ws, x.size ≤ 1000000) : Calls Tryz.prog 45 #[ptr r] w (NumPost p r ws w) := by
  have HN := Lib.hid (next_any p r ws w h (hE w (Keep.refl _ w)))
  have HE := Lib.hid hE
  have HS := Lib.hid hs
  clear h hE hs
  go_enter Tryz.func45, Tryz.ntmps45
  go_wp2_with fail
  with_reducible refine HN.out.mono ?_
  rintro e W1 (⟨x, rest, rfl, rfl, hr, k⟩ | ⟨rfl, rfl, k⟩)
  · have HA := Lib.hid (atoi_any p x W1 (HS.out x (by simp)) (HE.out W1 k))
    have HR := Lib.hid hr
    have HK := Lib.hid k
    clear hr k
    go_wp2_with fail
    with_reducible refine HA.out.mono ?_
    rintro e W2 ⟨⟨v, h1, rfl⟩ | ⟨h1, u, N, rfl⟩, k2⟩
    · have HK2 := Lib.hid k2
      have H1 := Lib.hid h1
      clear h1 k2
      go_wp2_with fail
      go_ret
      exact Or.inl ⟨x, rest, v, rfl, H1.out, rfl, HR.out.kept HK2.out, HK.out.trans (HK2.out.mono (fun _ h => h.elim))⟩
    · have HK2 := Lib.hid (HK.out.trans (k2.mono (fun _ h => h.elim)))
      have H1 := Lib.hid h1
      have hline := (HE.out W2 HK2.out).line
      clear h1 k2
      go_wp2_with fail
      exact ⟨rfl, Or.inr ⟨fun x' rest' e v => by cases e; exact H1.out v, rfl, HK2.out⟩⟩
  · exact ⟨rfl, Or.inr ⟨fun x rest e => (by cases e), rfl, k⟩⟩
end Go.Proofs.YtmndjicaofciiaaGreatDoor
