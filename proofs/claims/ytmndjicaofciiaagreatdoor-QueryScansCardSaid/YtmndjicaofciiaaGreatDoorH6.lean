/-
  ValidChange of package row.
-/
import Derived.Test.YtmndjicaofciiaaGreatDoorH5
namespace Go.Proofs.YtmndjicaofciiaaGreatDoor
open Go.RowKit Go.Shelf

set_option maxRecDepth 100000 in
set_option maxHeartbeats 4000000 in
theorem validCh_any (c : Chg) (hf : c.fine) (w : World) : Calls Tryz.prog 58 #[chV c] w fun e w' => e = .returned (.bool (okCh c)) ∧ Keep (fun _ => False) w w' := by
  have HK1 := Lib.hid (keep_cells w (chC c).toArray 51)
  have HB1 := Lib.hid (BoxL.new w (chC c) 51)
  obtain ⟨s1, hs1⟩ : ∃ s, soundC c.old c.had = s := ⟨_, rfl⟩
  obtain ⟨s2, hs2⟩ : ∃ s, soundC c.new c.has = s := ⟨_, rfl⟩
  have HS1 : Hid (∀ W, Calls Tryz.prog 80 #[chV c, .bool c.had, v3V c.o0 c.o1 c.o2] W fun e w' => e = .returned (.bool s1) ∧ Keep (fun _ => False) W w') := Lib.hid (fun W => by
    have := sound_any c c.had c.o0 c.o1 c.o2 W hf.1
    rwa [show soundC ⟨c.tb, c.ky, c.o0, c.o1, c.o2⟩ c.had = s1 from hs1] at this)
  have HS2 : Hid (∀ W, Calls Tryz.prog 80 #[chV c, .bool c.has, v3V c.n0 c.n1 c.n2] W fun e w' => e = .returned (.bool s2) ∧ Keep (fun _ => False) W w') := Lib.hid (fun W => by
    have := sound_any c c.has c.n0 c.n1 c.n2 W hf.2
    rwa [show soundC ⟨c.tb, c.ky, c.n0, c.n1, c.n2⟩ c.has = s2 from hs2] at this)
  have HO : Hid (okCh c = ((c.had != c.has || c.had && !(c.o0 == c.n0 && (c.o1 == c.n1 && c.o2 == c.n2))) && (s1 && s2))) := Lib.hid (by unfold okCh; rw [hs1, hs2]; rfl)
  clear hf hs1 hs2
  obtain ⟨tb, ky, had, o0, o1, o2, has, n0, n1, n2⟩ := c
  obtain ⟨q, hq⟩ : ∃ q, (o0 == n0 && (o1 == n1 && o2 == n2)) = q := ⟨_, rfl⟩
  have hneq : ∀ w, (binOp .neq 35 (v3V o0 o1 o2) (v3V n0 n1 n2)).run Tryz.prog w = .ok (.bool (!q)) w := fun w => by
    rw [neq_v3, hq]
  have HQ : Hid (okCh ⟨tb, ky, had, o0, o1, o2, has, n0, n1, n2⟩ = ((had != has || had && !q) && (s1 && s2))) := Lib.hid (by rw [HO.out, ← hq])
  have HN := Lib.hid hneq
  clear HO hq hneq
  go_enter Tryz.func58, Tryz.ntmps58
  go_upto_region 1 with (fail)
  generalize w.alloc (.cells (chC ⟨tb, ky, had, o0, o1, o2, has, n0, n1, n2⟩).toArray 51) = W at *
  generalize w.heap.size = zc at *
  obtain ⟨c0, c1, c2, c3, c4, c5, c6, c7, c8, c9⟩ := HB1.out.chg
  simp only [] at c0 c1 c2 c3 c4 c5 c6 c7 c8 c9
  have hm := guardV
  cases had <;> cases has
  case false.false =>
    go_wp2_with fail
    go_ret
    exact ⟨by rw [HQ.out] <;> rfl, HK1.out⟩
  case true.true =>
    cases q with
    | true =>
      have hn := HN.out
      go_wp2_with fail
      go_ret
      exact ⟨by rw [HQ.out] <;> rfl, HK1.out⟩
    | false =>
      have hn := HN.out
      go_wp2_with fail
      clear hn
      clear c0 c1 c2 c3 c4 c5 c6 c7 c8 c9 hm
      with_reducible refine (HS1.out W).mono ?_
      rintro e W2 ⟨rfl, k⟩
      have HK2 := Lib.hid (HK1.out.trans k)
      have HB2 := Lib.hid (HB1.out.kept k)
      clear k
      cases s1 with
      | false =>
        go_wp2_with fail
        go_ret
        exact ⟨by rw [HQ.out] <;> rfl, HK2.out⟩
      | true =>
        obtain ⟨c0, c1, c2, c3, c4, c5, c6, c7, c8, c9⟩ := HB2.out.chg
        simp only [] at c0 c1 c2 c3 c4 c5 c6 c7 c8 c9
        go_wp2_with fail
        clear c0 c1 c2 c3 c4 c5 c6 c7 c8 c9
        with_reducible refine (HS2.out W2).mono ?_
        rintro e W3 ⟨rfl, k⟩
        have HK3 := Lib.hid (HK2.out.trans k)
        clear k
        cases s2 with
        | false =>
          go_wp2_with fail
          go_ret
          exact ⟨by rw [HQ.out] <;> rfl, HK3.out⟩
        | true =>
          go_wp2_with fail
          go_ret
          exact ⟨by rw [HQ.out] <;> rfl, HK3.out⟩
  case true.false =>
    go_wp2_with fail
    clear c0 c1 c2 c3 c4 c5 c6 c7 c8 c9 hm
    with_reducible refine (HS1.out W).mono ?_
    rintro e W2 ⟨rfl, k⟩
    have HK2 := Lib.hid (HK1.out.trans k)
    have HB2 := Lib.hid (HB1.out.kept k)
    clear k
    cases s1 with
    | false =>
      go_wp2_with fail
      go_ret
      exact ⟨by rw [HQ.out] <;> rfl, HK2.out⟩
    | true =>
      obtain ⟨c0, c1, c2, c3, c4, c5, c6, c7, c8, c9⟩ := HB2.out.chg
      simp only [] at c0 c1 c2 c3 c4 c5 c6 c7 c8 c9
      go_wp2_with fail
      clear c0 c1 c2 c3 c4 c5 c6 c7 c8 c9
      with_reducible refine (HS2.out W2).mono ?_
      rintro e W3 ⟨rfl, k⟩
      have HK3 := Lib.hid (HK2.out.trans k)
      clear k
      cases s2 with
      | false =>
        go_wp2_with fail
        go_ret
        exact ⟨by rw [HQ.out] <;> rfl, HK3.out⟩
      | true =>
        go_wp2_with fail
        go_ret
        exact ⟨by rw [HQ.out] <;> rfl, HK3.out⟩
  case false.true =>
    go_wp2_with fail
    clear c0 c1 c2 c3 c4 c5 c6 c7 c8 c9 hm
    with_reducible refine (HS1.out W).mono ?_
    rintro e W2 ⟨rfl, k⟩
    have HK2 := Lib.hid (HK1.out.trans k)
    have HB2 := Lib.hid (HB1.out.kept k)
    clear k
    cases s1 with
    | false =>
      go_wp2_with fail
      go_ret
      exact ⟨by rw [HQ.out] <;> rfl, HK2.out⟩
    | true =>
      obtain ⟨c0, c1, c2, c3, c4, c5, c6, c7, c8, c9⟩ := HB2.out.chg
      simp only [] at c0 c1 c2 c3 c4 c5 c6 c7 c8 c9
      go_wp2_with fail
      clear c0 c1 c2 c3 c4 c5 c6 c7 c8 c9
      with_reducible refine (HS2.out W2).mono ?_
      rintro e W3 ⟨rfl, k⟩
      have HK3 := Lib.hid (HK2.out.trans k)
      clear k
      cases s2 with
      | false =>
        go_wp2_with fail
        go_ret
        exact ⟨by rw [HQ.out] <;> rfl, HK3.out⟩
      | true =>
        go_wp2_with fail
        go_ret
        exact ⟨by rw [HQ.out] <;> rfl, HK3.out⟩
end Go.Proofs.YtmndjicaofciiaaGreatDoor
