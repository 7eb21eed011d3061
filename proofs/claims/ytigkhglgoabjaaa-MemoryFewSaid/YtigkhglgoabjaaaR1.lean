/-
  uses.
-/
import Derived.Test.YtigkhglgoabjaaaN4
namespace Go.Proofs.Ytigkhglgoabjaaa
open Go.RowKit Go.Shelf

def UsR (W : World) (us : List Int) (k : Nat) (o : Value) (wr : World) : Prop := wr.ownsRow W.heap.size 3 1 o k (ints (us.take k)) ∧ Keep (fun _ => False) W wr

def UsesPost (w : World) (p : Nat) (cap : Int) (sh : List Int) (L : List E) (S : Side) (W : World) (e : Ending) (W' : World) : Prop :=
  ∃ g c, e = .returned (.slice (some ⟨g, 0, none⟩) sh.length c) ∧ LW w p cap sh L (S.and (.ints (.slice (some ⟨g, 0, none⟩) sh.length c) (usesOf sh L))) W' ∧ Keep (fun _ => False) W W'

theorem IntsIn.at_ {W : World} {g n c : Nat} {xs : List Int} (h : IntsIn W (.slice (some ⟨g, 0, none⟩) n c) xs) : IntsAt W g 0 xs := fun j x hj => by
  obtain ⟨a, c, e, hr⟩ := h
  obtain ⟨b, off, e2, hc⟩ := hr j x hj
  cases e; cases e2
  exact hc

set_option maxRecDepth 100000 in
set_option maxHeartbeats 1000000 in
theorem uses_lw {w : World} {p : Nat} {cap : Int} {sh : List Int} {L : List E} {S : Side} {W : World} (b g cp : Nat) (h : LW w p cap sh L S W) (hwa : ∀ W, S.Q W → WorldAt W b p g cp cap sh) :
    Calls Try.prog 12 #[ptr b] W (UsesPost w p cap sh L S W) := by
  have hsane := h.sane
  have hn8 := hsane.n8
  have HS := Lib.hid hsane
  have HL := Lib.hid h
  have HW := Lib.hid hwa
  clear h hwa hsane
  go_enter Try.func12, Try.ntmps12
  go_wp2_with fail
  go_loopw [3, 4] (fun o i wr => ∃ k : Nat, k ≤ sh.length ∧ i = .int .i64 k ∧ UsR W (usesOf sh L) k o wr) (fun _ i _ => sh.length - (intOf i).toNat)
  case atStart => exact ⟨0, by omega, rfl, World.ownsRow_nil _ _ _ _, Keep.refl _ _⟩
  case round =>
    obtain ⟨k, hk, rfl, ho, kk⟩ := hrel
    obtain ⟨a', c', rfl⟩ := ownsRow_form ho
    have HL2 := Lib.hid (HL.out.keep kk)
    have hw0 := (HW.out _ HL2.out.q).c0
    have hw2 := (HW.out _ HL2.out.q).c2
    by_cases hlt : k < sh.length
    · obtain ⟨v', w', r1, r2, r3, r4, r5⟩ := app_int wr 22 W.heap.size (.slice a' k c') k (ints ((usesOf sh L).take k)) (usedOf L k) ho (by omega) kk.size
      have hlt' := ho.lt
      have HF : Hid (UsR W (usesOf sh L) (k + 1) v' w') := Lib.hid (by
        refine ⟨?_, kk.none_of r3 (fun i hi => (hlt' i hi).1)⟩
        rw [take_succ_get (usesOf_get sh L k hlt), ← ints_snoc]
        exact r2)
      clear r2 r3 r4 r5 hlt' ho kk
      go_wp2_with fail
      with_reducible refine (used_lw _ HL2.out).mono ?_
      rintro e w1 ⟨rfl, rfl⟩
      rw [usedI_nat L hlt]
      go_wp2_with (at_builtin; refine wpList_app rfl (.tmp 14) (.tmp 21) 22 rfl rfl rfl r1 ?_)
      go_roundw
      case rel => exact ⟨k + 1, by omega, by go_num, HF.out⟩
      case measure => simp [intOf]; omega
    · obtain rfl : k = sh.length := by omega
      have HF : Hid (UsesPost w p cap sh L S W (.returned (.slice a' sh.length c')) wr) := Lib.hid (by
        rw [List.take_of_length_le (by rw [usesOf_length]; omega)] at ho
        rcases ho.2 with ⟨e, e2⟩ | ⟨g, cap, cur, e, r⟩
        · have := HS.out.n0; injection e; omega
        · cases e
          exact ⟨g, c', rfl, HL.out.add (T := .ints _ _) kk (IntsIn.of_owns ho) (fun b hb => ho.lt b hb), kk⟩)
      clear ho kk
      go_wp2_with fail
      go_ret
      exact HF.out
end Go.Proofs.Ytigkhglgoabjaaa
