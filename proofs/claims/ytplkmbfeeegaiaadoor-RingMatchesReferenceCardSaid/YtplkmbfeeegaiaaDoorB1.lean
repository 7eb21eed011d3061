/-
  The iterator of a circle.
-/
import Derived.Test.YtplkmbfeeegaiaaDoorA9
import Derived.Test.YtplkmbfeeegaiaaDoorG1
import Derived.Sort.LoopGhostIn
namespace Go.Proofs.YtplkmbfeeegaiaaDoor
open Go.RowKit Go.Shelf
attribute [local go_sem] Oper.semAt_some

/-- The i-th node clockwise. -/
def cwN (c : List Mk) (p : Int) (i : Nat) : Int := match (rot c p)[i]? with | some x => x.node | none => 0
theorem cwN_at {c : List Mk} (h : c.Pairwise ltMk) (p : Int) {i : Nat} (hi : i < c.length) : ∃ x, c[(lows c p + i) % c.length]? = some x ∧ cwN c p i = x.node := by
  have h1 := rot_at h p hi
  have hlt : (lows c p + i) % c.length < c.length := Nat.mod_lt _ (by omega)
  refine ⟨c[(lows c p + i) % c.length], List.getElem?_eq_getElem hlt, ?_⟩
  unfold cwN
  rw [h1, List.getElem?_eq_getElem hlt]
/-- What the iterator reads. -/
def FromReads (bc bp : Nat) (vc : Value) (c : List Mk) (p : Int) (V : World) : Prop := V.cell? ⟨bc, 0, none⟩ = some vc ∧ V.cell? ⟨bp, 0, none⟩ = some (.int .i64 p) ∧ Mks V vc c

theorem keep_grown {V V' : World} (k : Keep (fun _ => False) V V') : V.grownBy V' none := ⟨k.os, k.tape, k.output, k.size, fun i hi _ => k.block i hi (fun h => h)⟩

set_option maxRecDepth 100000 in
set_option maxHeartbeats 4000000 in
theorem from_iter (bc bp : Nat) (vc : Value) (c : List Mk) (p : Int) (hs : c.Pairwise ltMk) (hne : 0 < c.length) : IterL Tryd.prog 72 #[ptr bc, ptr bp] c.length (fun i => #[.int .i64 (cwN c p i)]) (FromReads bc bp vc c p) := by
  intro l J Jx W hA hD hY h0
  have hA0 := hA 0 W h0
  obtain ⟨r0, r1, hm⟩ := hA0
  obtain ⟨hn, a, cc, b, off, hvc, hc, ha, -⟩ := id hm
  have HBS := Lib.hid (bsearch_any vc c p W hm hs)
  have HA := Lib.hid hA; clear hA
  have HD := Lib.hid hD; clear hD
  have HY := Lib.hid hY; clear hY
  have HJ := Lib.hid h0; clear h0 hm
  have HS := Lib.hid hs; clear hs
  obtain rfl := ha hne
  clear ha
  subst hvc
  obtain ⟨n, hn'⟩ : ∃ n, c.length = n := ⟨_, rfl⟩
  have HL := Lib.hid hn'
  rw [hn'] at hn hc hne r0 HBS
  have hlo := lows_le c p
  rw [hn'] at hlo
  clear hn'
  have HCW : Hid (∀ i, i < n → ∃ x, c[(lows c p + i) % n]? = some x ∧ cwN c p i = x.node) := Lib.hid (fun i hi => by have := cwN_at HS.out p (i := i) (by rw [HL.out]; exact hi); rwa [HL.out] at this)
  generalize lows c p = lo at *
  refine callsIn_of_wp Tryd.func72 rfl trivial ?_ rfl
  simp only [Tryd.ntmps72, List.size_toArray, List.length_cons, List.length_nil, Nat.reduceAdd, Nat.reduceSub, Array.replicate_succ, Array.replicate_zero, List.push_toArray, List.append_toArray, List.nil_append, List.cons_append]
  gi_wp2_with fail
  refine ⟨trivial, rfl, (callsIn_wide.2 HBS.out).mono ?_⟩
  rintro e V1 ⟨⟨bb, rfl⟩, k1⟩
  have HJ1 := Lib.hid (HD.out 0 W V1 HJ.out (keep_grown k1))
  have q0 := k1.cell r0 (fun h => h)
  have q1 := k1.cell r1 (fun h => h)
  clear k1 HJ HBS r0 r1
  gi_wp2_with fail
  gi_loopg [15] n (fun g2 v15 wr => ∃ i : Nat, g2 + i = n ∧ v15 = .int .i64 i ∧ J i wr)
  case atStart => exact ⟨0, by omega, rfl, HJ1.out⟩
  case round =>
    clear q0 q1 HJ1
    obtain ⟨i, hi, rfl, hj⟩ := hrel
    have ha := HA.out _ _ hj
    by_cases hin : i < n
    · obtain ⟨fn, tmps, assign, body, hy, hR⟩ := HY.out i wr.drew (by rw [HL.out]; exact hin) (HD.out i _ _ hj (grownBy_drew wr))
      obtain ⟨x, hx, hcw⟩ := HCW.out i hin
      obtain ⟨q0, q1, hm⟩ := ha
      obtain ⟨-, a', c', b', off', hvc, -, ha', hcell⟩ := hm
      rw [HL.out] at q0 hvc
      have hcx := hcell _ x hx
      obtain ⟨r1, r2⟩ : a' = some ⟨b, off, none⟩ ∧ b' = b ∧ off' = off := by
        cases hvc
        have := ha' (by rw [HL.out]; omega)
        cases this
        exact ⟨rfl, rfl, rfl⟩
      obtain ⟨rfl, rfl⟩ := r2
      have c1 := hcx.2.1
      obtain ⟨ix, hix⟩ : ∃ ix, (lo + i) % n = ix := ⟨_, rfl⟩
      rw [hix] at c1
      have e1 : ((lo : Int) + (i : Int)) % (n : Int) = (ix : Int) := by rw [← hix]; first | rw [Int.natCast_emod, Int.natCast_add] | rw [Int.natCast_mod, Int.natCast_add] | simp
      have hixn : ix < n := by rw [← hix]; exact Nat.mod_lt _ (by omega)
      rw [hcw] at hy
      have HR := Lib.hid hR
      clear hR hj hvc ha' hcell hcx hx hcw hix r1
      obtain ⟨x0, x1, x2⟩ := x
      simp only [] at c1 hy
      have hinz : (i : Int) < (n : Int) := by omega
      gi_wp2_with fail
      have HRB := Lib.hid (HR.out.mono (R' := fun e V' => ∃ y : Bool, e = .returned (.bool y) ∧ ((y = true ∧ J (i + 1) V') ∨ (y = false ∧ Jx i V'))) (by
        rintro e V' (⟨rfl, h⟩ | ⟨rfl, h⟩)
        · exact ⟨true, rfl, .inl ⟨rfl, h⟩⟩
        · exact ⟨false, rfl, .inr ⟨rfl, h⟩⟩))
      gi_region_with (refine ⟨rfl, HRB.out.mono ?_⟩; rintro e W3 ⟨y, rfl, hy3⟩)
      all_goals
        have HY3 := Lib.hid hy3
        clear hy3 c1 hy q0 q1
        cases y with
        | true =>
          have HJ3 : Hid (J (i + 1) W3) := Lib.hid (by rcases HY3.out with ⟨_, h⟩ | ⟨h, _⟩; exact h; cases h)
          gi_wp2_with fail
          go_roundg (gk - 1)
          case rel => exact ⟨i + 1, by omega, by go_num, HJ3.out⟩
          case measure => omega
        | false =>
          have HX3 : Hid (Jx i W3) := Lib.hid (by rcases HY3.out with ⟨h, _⟩ | ⟨_, h⟩; cases h; exact h)
          gi_wp2_with fail
          refine bodyPost_ret (results_none rfl _ _ _) rfl ?_
          exact ⟨⟨_, rfl⟩, .inr ⟨i, by rw [HL.out]; exact hin, HX3.out⟩⟩
    · obtain rfl : i = n := by omega
      have HJ3 := Lib.hid hj
      clear hj ha
      have hinz : ¬ (i : Int) < (i : Int) := by omega
      gi_wp2_with fail
      go_end0
      exact ⟨⟨_, rfl⟩, .inl (by rw [HL.out]; exact HJ3.out)⟩
end Go.Proofs.YtplkmbfeeegaiaaDoor
