/-
  MemoryRefuses answers true for every capacity, shares, tenant and size, and changes none of its arguments. No condition.
  THE SHELL OF A PROOF OF 'Rows.MemoryRefusesSaid' ('cachetier/cachetierlaw17.MemoryRefuses'), WRITTEN BY PROGRAM (proof-skeleton.mjs, third state) off the guide's own print for that function. Not trusted: Lean checks it.
  YOURS IS THE HOLE MARKED 'HOLE' (it bears 'sorry'). ALL ELSE IS THE GUIDE's OWN WAY (howto/template/XProofs.lean; Derived/Test/ChunkProofs.lean for 'Below') at this function's number and types: leave it.
-/
import Derived.Test.YtigkhglgoabjaaaRows
import Derived.Test.YtigkhglgoabjaaaM2
import Derived.WalkKit
import Derived.ProofKit
import Derived.OpenShut
import Derived.ShutString
import Derived.ChangeOld
import Derived.Below
namespace Go.Proofs.Ytigkhglgoabjaaa.memoryRefuses
open Go.ChangeShapes Go.WideShapes Go.ChangeAt Go.RowKit
open Go.ChangeMaps (open_string shut_string)
set_option linter.unusedVariables false

theorem own : ownKnob Try.prog.godebug = none := by kernel_rfl
theorem laidOut : laidOutB Try.prog = true := by kernel_rfl

open Go.Proofs.Ytigkhglgoabjaaa in
theorem walk (a0 : Int) (a1 : Option Addr) (len1 cap1 : Nat) (z1 : List Int) (a2 : Int) (a3 : Int) (w : World) (w0 : (Lit.int .i64 a0).wf = true) (w1 : IsRow .i64 w a1 len1 cap1 z1) (w2 : (Lit.int .i64 a2).wf = true) (w3 : (Lit.int .i64 a3).wf = true) :
    Calls Try.prog 8 #[.int .i64 a0, .slice a1 len1 cap1, .int .i64 a2, .int .i64 a3] w fun e w' => e = .returned (.bool true) ∧ Below w.heap.size w w' := by
  have b2 := bounds_i64 w2
  have b3 := bounds_i64 w3
  rcases w1 with ⟨rfl, rfl, rfl, rfl⟩ | ⟨x, rfl, hl, hm, hz, hcell, hwz⟩
  · exact refuses_none a0 none 0 a2 a3 w (fun _ => rfl)
  · by_cases h0 : len1 = 0
    · subst h0
      exact refuses_none a0 (some x) cap1 a2 a3 w (fun h => by cases h)
    · obtain ⟨b, off, spot⟩ := x
      have hspot : spot = none := by simpa [Addr.add] using World.cell?_spot (hcell 0 (by omega))
      subst hspot
      unfold maxLen at hm
      have hn : (z1.take len1).length = len1 := by rw [List.length_take]; omega
      have hx : IntsAt w b off (z1.take len1) := fun j x hj => by
        have hj1 : j < len1 := by have := (List.getElem?_eq_some_iff.1 hj).1; omega
        have hc := hcell j (by omega)
        rw [Addr.add_lit] at hc
        rw [hc]
        rw [List.getElem?_take_of_lt hj1] at hj
        rw [List.getD_eq_getElem?_getD, hj]
        rfl
      have hw : ∀ k, k < len1 → -9223372036854775808 ≤ (z1.take len1).getD k 0 ∧ (z1.take len1).getD k 0 ≤ 9223372036854775807 := fun k hk => by
        have e : (z1.take len1).getD k 0 ∈ z1 := by
          rw [List.getD_eq_getElem?_getD, List.getElem?_take_of_lt hk, List.getElem?_eq_getElem (by omega)]
          exact List.getElem_mem _
        exact bounds_i64 (hwz _ e)
      by_cases h10 : 10 < len1
      · exact refuses_long a0 b off len1 cap1 _ a2 a3 w hn hl (by omega) hx (by omega) h10
      · by_cases hbad : a0 < 1 ∨ 1000000 < a0 ∨ 8 < len1
        · exact refuses_bad a0 b off len1 cap1 _ a2 a3 w hn hl (by omega) hx (by omega) (by omega) hbad
        · cases hs : sharesOk a0 (z1.take len1) with
          | false => exact refuses_shares a0 b off len1 cap1 _ a2 a3 w hn hl (by omega) hx (by omega) (by omega) (by omega) (by omega) hw hs
          | true =>
            by_cases t0 : a2 < 0
            · exact refuses_ok0 a0 b off len1 cap1 _ a2 a3 w hn hl (by omega) hx (by omega) (by omega) (by omega) (by omega) hw b2 b3 hs t0
            · by_cases t1 : (len1 : Int) ≤ a2
              · exact refuses_ok1 a0 b off len1 cap1 _ a2 a3 w hn hl (by omega) hx (by omega) (by omega) (by omega) (by omega) hw b2 b3 hs (by omega) t1
              · by_cases t2 : a3 < 1
                · exact refuses_ok2 a0 b off len1 cap1 _ a2 a3 w hn hl (by omega) hx (by omega) (by omega) (by omega) (by omega) hw b2 b3 hs (by omega) (by omega) t2
                · by_cases t3 : a0 < a3
                  · exact refuses_ok3 a0 b off len1 cap1 _ a2 a3 w hn hl (by omega) hx (by omega) (by omega) (by omega) (by omega) hw b2 b3 hs (by omega) (by omega) (by omega) t3
                  · exact refuses_ok4 a0 b off len1 cap1 _ a2 a3 w hn hl (by omega) hx (by omega) (by omega) (by omega) (by omega) hw b2 b3 hs (by omega) (by omega) (by omega) (by omega)

/-! ### THE ROW's STEP: WRITTEN OUT: LEAVE IT -/
set_option maxRecDepth 100000 in
theorem lifted (os : Os) (started : os.Started) (H : Type) (enc : TypeId × Value → H) :
    ReturnsInHanded {} Try.checked os 8 .any (Rows.memoryRefusesSpec.pre6 enc Try.prog Try.f8 Rows.memoryRefusesRow.domain false) (Rows.memoryRefusesSpec.post enc Try.prog Try.f8 false true false false) := by
  refine returnsInHanded_of_change (C := Try.checked) own started (by kernel_rfl) Try.func8
    (ChangeSpec.witness6 (enc := enc) (C := Try.checked) false ⟨#[], #[.int .i64 0, .slice none 0 0, .int .i64 0, .int .i64 0], []⟩ 8 (by kernel_rfl) (by kernel_rfl) (by kernel_rfl) (by kernel_rfl)) ?_
  intro W base args ds gs before hval0 hW hcnd _
  have hval : ∀ (j : Nat) t v, Try.f8.params[j]? = some t → args[j]? = some v → Value.okWide Try.prog W .any base t v := hval0
  have hW' := hW
  obtain ⟨p, q, hA0, hV, rfl, hfz, hnd⟩ := hW
  have hA : DataW.TrodAll enc Try.prog W 0 (fun _ => true) true Try.f8.params.toList args.toList ds p := hA0
  rw [Try.params8] at hA hval
  obtain ⟨v0, vs0, d0, ds0, p0, q0, hargs, rfl, rfl, h0, r0⟩ := trodAll_cons hA
  obtain ⟨v1, vs1, d1, ds1, p1, q1, rfl, rfl, rfl, h1, r1⟩ := trodAll_cons r0
  obtain ⟨v2, vs2, d2, ds2, p2, q2, rfl, rfl, rfl, h2, r2⟩ := trodAll_cons r1
  obtain ⟨v3, vs3, d3, ds3, p3, q3, rfl, rfl, rfl, h3, r3⟩ := trodAll_cons r2
  obtain ⟨rfl, rfl, rfl⟩ := trodAll_nil r3
  obtain rfl : args = #[v0, v1, v2, v3] := by cases args; simp_all
  obtain ⟨rfl, rfl⟩ := trodVars_none hV
  obtain ⟨a0, rfl, rfl, rfl, w0⟩ := open_int Try.underlying3 (hval 0 3 v0 rfl rfl) h0
  obtain ⟨a1, len1, cap1, rfl⟩ := okWide_slice Try.underlying22 (hval 1 22 v1 rfl rfl)
  have k1 := h1
  have lt1 : ∀ x ∈ p1, x.block < W.heap.size := by obtain ⟨m, hm⟩ := k1; exact DataW.trod_lt m _ _ _ hm
  obtain ⟨z1, w1⟩ : ∃ zs, IsRow .i64 W a1 len1 cap1 zs := by
    obtain ⟨fuel, hf⟩ := h1
    rcases open_ints Try.underlying22 Try.underlying3 (by kernel_rfl) hf with ⟨hcs, _⟩ | ⟨x, l, c, zs, hcs, _, hl, hm, hz, _, hcell, hwz⟩
    · simp [Value.cells] at hcs
      obtain ⟨rfl, rfl, rfl⟩ := hcs
      exact ⟨[], .inl ⟨rfl, rfl, rfl, rfl⟩⟩
    · simp [Value.cells] at hcs
      obtain ⟨rfl, rfl, rfl⟩ := hcs
      exact ⟨zs, .inr ⟨_, rfl, hl, hm, by simpa using hz, hcell, hwz⟩⟩
  obtain ⟨a2, rfl, rfl, rfl, w2⟩ := open_int Try.underlying3 (hval 2 3 v2 rfl rfl) h2
  obtain ⟨a3, rfl, rfl, rfl, w3⟩ := open_int Try.underlying3 (hval 3 3 v3 rfl rfl) h3
  clear hA0 hval0
  refine (walk a0 a1 len1 cap1 z1 a2 a3 W w0 w1 w2 w3).mono fun e W' ⟨he, bel⟩ => ?_
  subst he
  exact ⟨_, rfl, _, _, _, [], _, [], hW', trodAll_mk1 (shut_bool Try.underlying4 _), (trodAll_cons_mk (shut_int Try.underlying3 w0) (trodAll_cons_mk (Below.trod laidOut (by kernel_rfl) (of_decide_eq_true (by kernel_rfl)) k1 bel lt1) (trodAll_cons_mk (shut_int Try.underlying3 w2) (trodAll_cons_mk (shut_int Try.underlying3 w3) trodAll_mk0)))), rfl, bel.frame _, fun h => by cases h⟩

theorem over : Rows.memoryRefusesRow.holds Try.pinned (OpenSpec.ofChange Rows.memoryRefusesSpec) :=
  OpenClaim.holds_of_wide 8 Try.f8 rfl rfl rfl rfl rfl rfl rfl ⟨rfl, rfl, rfl, rfl, rfl⟩ rfl rfl rfl rfl rfl (by kernel_rfl) Try.func8 (by kernel_rfl)
    (of_decide_eq_true (by kernel_rfl)) (by unfold Func.isWrapper; first | (rw [if_pos (by decide +kernel)]; kernel_rfl) | (rw [if_neg (by decide +kernel)]; exact ⟨rfl, rfl⟩))
    (fun os started H enc _ => lifted os started H enc)

/-- ████ THE STATEMENT ████ -/
theorem proved : Rows.MemoryRefusesSaid := over
#print axioms proved
end Go.Proofs.Ytigkhglgoabjaaa.memoryRefuses
