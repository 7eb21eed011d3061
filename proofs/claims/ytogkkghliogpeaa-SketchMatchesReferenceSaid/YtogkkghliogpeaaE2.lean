/-
  Merge.
-/
import Derived.Test.YtogkkghliogpeaaE1
namespace Go.Proofs.Ytogkkghliogpeaa
open Go.RowKit Go.Shelf

set_option maxRecDepth 100000 in
set_option maxHeartbeats 1000000 in
theorem merge_nil1 (p : Option Addr) (w : World) : Calls Try.prog 18 #[.pointer none, .pointer p] w fun e w' => e = .returned (.int .i64 1) ∧ Keep (fun _ => False) w w' := by
  go_enter Try.func18, Try.ntmps18
  go_wp2_with fail
  go_ret
  exact ⟨rfl, ((Keep.refl _ w).alloc _).alloc _⟩
set_option maxRecDepth 100000 in
set_option maxHeartbeats 1000000 in
theorem merge_nil2 (s : Nat) (w : World) : Calls Try.prog 18 #[ptr s, .pointer none] w fun e w' => e = .returned (.int .i64 1) ∧ Keep (fun _ => False) w w' := by
  go_enter Try.func18, Try.ntmps18
  go_wp2_with fail
  go_ret
  exact ⟨rfl, ((Keep.refl _ w).alloc _).alloc _⟩

/-- What Merge refuses. -/
def mrgBad (cap : Nat) (L : List C) (cap' : Nat) (L' : List C) : Prop := cap' < cap ∨ 1000000000000000 < sumH L ∨ 1000000000000000 - sumH L < sumH L'

set_option maxRecDepth 100000 in
set_option maxHeartbeats 2000000 in
theorem merge_bad {w : World} {s bm cap t bm' cap' : Nat} {L L' : List C} (h : Sk w s bm cap L) (h' : Sk w t bm' cap' L') (hb : mrgBad cap L cap' L') :
    Calls Try.prog 18 #[ptr s, ptr t] w fun e w' => e = .returned (.int .i64 140) ∧ Keep (fun _ => False) w w' := by
  have k1 := (((Keep.refl (fun _ => False) w).alloc (.cells #[ptr s] 25)).alloc (.cells #[ptr t] 25))
  have hs := h.keep k1 (fun h => h) (fun h => h)
  have hs' := h'.keep k1 (fun h => h) (fun h => h)
  obtain ⟨n1, _⟩ := new_cell w (ptr s) 25
  obtain ⟨n2, _⟩ := new_cell (w.alloc (.cells #[ptr s] 25)) (ptr t) 25
  have m1 := ((Keep.refl (fun _ => False) (w.alloc (.cells #[ptr s] 25))).alloc (.cells #[ptr t] 25)).cell n1 (fun h => h)
  rw [World.size_alloc] at n2
  have b1 := h.ok.cap64
  have b2 := h'.ok.cap64
  have b3 := (h.ok.hi0 ⟨#[]⟩)
  have b4 := (h'.ok.hi0 ⟨#[]⟩)
  have b5 : 0 ≤ sumH L := by omega
  have b6 : 0 ≤ sumH L' := by omega
  have HK := Lib.hid k1
  clear h h' n1 k1 b3 b4
  by_cases h1 : cap' < cap
  · clear hb
    go_enter Try.func18, Try.ntmps18
    go_wp2_with fail
    generalize (w.alloc (.cells #[ptr s] 25)).alloc (.cells #[ptr t] 25) = W at *
    have c0 := hs.at_.c0
    have c0' := hs'.at_.c0
    go_quiet (fail)
    go_wp2_with fail
    go_ret
    exact ⟨rfl, HK.out.drewN _⟩
  · by_cases h2 : 1000000000000000 < sumH L
    · clear hb
      go_enter Try.func18, Try.ntmps18
      go_wp2_with fail
      generalize (w.alloc (.cells #[ptr s] 25)).alloc (.cells #[ptr t] 25) = W at *
      have c0 := hs.at_.c0
      have c0' := hs'.at_.c0
      have c1 := hs.at_.c1
      go_quiet (fail)
      go_wp2_with fail
      go_ret
      exact ⟨rfl, HK.out.drewN _⟩
    · have h3 : 1000000000000000 - sumH L < sumH L' := by
        rcases hb with h | h | h
        · exact absurd h h1
        · exact absurd h h2
        · exact h
      clear hb
      go_enter Try.func18, Try.ntmps18
      go_wp2_with fail
      generalize (w.alloc (.cells #[ptr s] 25)).alloc (.cells #[ptr t] 25) = W at *
      have c0 := hs.at_.c0
      have c0' := hs'.at_.c0
      have c1 := hs.at_.c1
      have c1' := hs'.at_.c1
      go_quiet (fail)
      go_wp2_with fail
      go_quiet (fail)
      go_wp2_with fail
      go_ret
      exact ⟨rfl, (HK.out.drewN _).drewN _⟩
end Go.Proofs.Ytogkkghliogpeaa
