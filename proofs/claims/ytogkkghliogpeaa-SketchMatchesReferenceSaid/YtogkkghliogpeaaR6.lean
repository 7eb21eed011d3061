/-
  The reference's Halve.
-/
import Derived.Test.YtogkkghliogpeaaR4
namespace Go.Proofs.Ytogkkghliogpeaa
open Go.RowKit Go.Shelf

def RHPost (w : World) (r cap : Nat) (Y : List C) (e : Ending) (w' : World) : Prop := ∃ v', e = .returned (.tuple #[]) ∧ Rf w' r v' cap (Y.map ctrOf) ∧ Keep (fun k => k = r) w w' ∧ ∀ b, v'.ownBlock = some b → w.heap.size ≤ b

set_option maxRecDepth 100000 in
set_option maxHeartbeats 4000000 in
theorem rhalve_sk {w : World} {r : Nat} {v : Value} {cap : Nat} {L : List C} (h : Rf w r v cap (L.map ctrOf)) (ok : OkL cap L) : Calls Try.prog 21 #[ptr r] w (RHPost w r cap (halveC L)) := by
  obtain ⟨a, c, b, off, rfl, hc, ha, hcell⟩ := h.cs.open_
  rw [List.length_map] at ha hc
  have hl64 : L.length ≤ 64 := Nat.le_trans ok.len ok.cap64
  have H := Lib.hid h
  have HOK := Lib.hid ok
  have HA := Lib.hid ha
  have HC := Lib.hid hcell
  obtain ⟨N, hN⟩ : ∃ N, N = L.length := ⟨_, rfl⟩
  have HN := Lib.hid hN
  have HC1 : Hid (w.cell? ⟨r, 1, none⟩ = some (.slice a N c)) := Lib.hid (by have := h.c1; rwa [List.length_map, ← hN] at this)
  rw [← hN] at hl64
  clear h ok ha hcell hc hN
  go_enter Try.func21, Try.ntmps21
  go_wp2_with fail
  go_loopg [2, 3] N (fun gh vl vi wr => ∃ i : Nat, vi = .int .i64 i ∧ i ≤ N ∧ N ≤ gh + i ∧ TopR w (L.map halfC) i vl wr)
  case atStart => exact ⟨0, rfl, Nat.zero_le _, by omega, Keep.refl _ _, by simpa [flat] using World.ownsRow_nil w w.heap.size 37 3⟩
  case round =>
    obtain ⟨i, rfl, hi, hgh, hk, hrow⟩ := hrel
    have HKR := Lib.hid hk
    have HROW := Lib.hid hrow
    clear hk hrow
    have c1 := HKR.out.cell HC1.out (fun h => h)
    by_cases hlt : i < N
    · have hltz : (i : Int) < (N : Int) := by omega
      have hi0 : (0 : Int) ≤ (i : Int) := by omega
      obtain rfl := HA.out (by rw [← HN.out]; omega)
      obtain ⟨x, hx⟩ : ∃ x, L[i]? = some x := ⟨_, List.getElem?_eq_getElem (by rw [← HN.out]; exact hlt)⟩
      obtain ⟨q0, q1, q2⟩ := HC.out i (ctrOf x) (by rw [List.getElem?_map, hx]; rfl)
      have q0' : wr.cell? ⟨b, off + i * 3, none⟩ = some (.string x.key) := HKR.out.cell q0 (fun h => h)
      have q1' : wr.cell? ⟨b, off + i * 3 + 1, none⟩ = some (.int .i64 x.hi) := HKR.out.cell q1 (fun h => h)
      have q2' : wr.cell? ⟨b, off + i * 3 + 2, none⟩ = some (.int .i64 (x.hi - x.lo)) := HKR.out.cell q2 (fun h => h)
      have hpx := HOK.out.pos x (List.mem_of_getElem? hx)
      have hmx := HOK.out.mem (List.mem_of_getElem? hx)
      have hsm := HOK.out.sum
      clear q0 q1 q2
      have kal : Keep (fun _ => False) wr (wr.alloc (.cells #[.string x.key, .int .i64 ((x.hi + 1) / 2), .int .i64 ((x.hi + 1) / 2 - (x.hi - (x.hi - x.lo)) / 2)] 37)) := (Keep.refl _ wr).alloc _
      obtain ⟨v9, W4, hr9, hown9, hkp9, hob9, g9, cc9, hv9⟩ := app_ctr (wr.alloc (.cells #[.string x.key, .int .i64 ((x.hi + 1) / 2), .int .i64 ((x.hi + 1) / 2 - (x.hi - (x.hi - x.lo)) / 2)] 37)) 34 w.heap.size u2 (((L.map halfC).take i).map ctrOf) ⟨x.key, (x.hi + 1) / 2, (x.hi + 1) / 2 - (x.hi - (x.hi - x.lo)) / 2⟩ (ownsRow_keep HROW.out kal (fun _ _ h => h)) (by simp; omega) (Nat.le_trans HKR.out.size kal.size)
      rw [World.size_alloc] at hr9
      have e9 : (⟨x.key, (x.hi + 1) / 2, (x.hi + 1) / 2 - (x.hi - (x.hi - x.lo)) / 2⟩ : K3) = ctrOf (halfC x) := by
        have e : x.hi - (x.hi - x.lo) = x.lo := by omega
        rw [e]; rfl
      have e10 : (((L.map halfC).take i).map ctrOf) ++ [ctrOf (halfC x)] = ((L.map halfC).take (i + 1)).map ctrOf := by
        rw [List.take_add_one, List.getElem?_map, hx]; simp
      rw [e9, e10] at hown9
      have HN9 : Hid (TopR w (L.map halfC) (i + 1) v9 W4) := Lib.hid ⟨(HKR.out.trans kal).trans' hkp9 (fun j e => .inr (HROW.out.lt j e).1), hown9⟩
      have hr9' : (Builtin.append_ #[34, 34] 34 #[u2, .slice (some ⟨wr.heap.size + 1, 0, none⟩) 1 1]).run Try.prog ((wr.alloc (.cells #[.string x.key, .int .i64 ((x.hi + 1) / 2), .int .i64 ((x.hi + 1) / 2 - (x.hi - (x.hi - x.lo)) / 2)] 37)).alloc (.cells #[.string x.key, .int .i64 ((x.hi + 1) / 2), .int .i64 ((x.hi + 1) / 2 - (x.hi - (x.hi - x.lo)) / 2)] 37)) = .ok v9 W4 := hr9
      clear hr9 hown9 hkp9 hob9 hv9 e9 e10 kal hx
      go_wp2_with (at_builtin; refine wpList_app rfl (.tmp 38) (.tmp 40) 34 rfl rfl rfl hr9' ?_)
      clear hr9' q0' q1' q2' c1
      go_roundg (N - (i + 1))
      case rel => exact ⟨i + 1, by go_num, by omega, by omega, HN9.out⟩
      case measure => omega
    · have hltz : ¬ (i : Int) < (N : Int) := by omega
      have HCS : Hid (Cs wr u2 ((L.map halfC).map ctrOf)) := Lib.hid (by
        have h1 := Cs.of_owns HROW.out
        rwa [List.take_of_length_le (by rw [List.length_map, ← HN.out]; omega)] at h1)
      go_wp2_with fail
      with_reducible refine (rord_sk HCS.out (by rw [half_keys]; exact HOK.out.keys) (by rw [List.length_map, ← HN.out]; exact hl64)).mono ?_
      rintro e W5 ⟨v5, rfl, ho5, hk5⟩
      have HR := Lib.hid (rpost (H.out.kept HKR.out) HKR.out hk5 (Nat.le_refl _) ho5)
      have hR4 := (H.out.kept HKR.out).kept hk5
      have c2 := hR4.c1
      have fr := hR4.fr
      obtain ⟨a5, m5, c5, rfl⟩ := owns_slice ho5
      clear ho5 hk5 hR4 c1
      go_wp2_with fail
      go_end0
      obtain ⟨v', _, hR⟩ := HR.out
      exact ⟨v', rfl, hR⟩
end Go.Proofs.Ytogkkghliogpeaa
