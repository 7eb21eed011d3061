/-
  within, Valid of package query and of the reference.
-/
import Derived.Test.YtmndjicaofciiaaGreatDoorW0
namespace Go.Proofs.YtmndjicaofciiaaGreatDoor
open Go.RowKit Go.Shelf

set_option maxRecDepth 100000 in
set_option maxHeartbeats 1000000 in
theorem within_any (n a b : Int) (w : World) : Calls Tryz.prog 17 #[.int .i64 n, .int .i64 a, .int .i64 b] w fun e w' => e = .returned (.bool (decide (a ≤ n ∧ n ≤ b))) ∧ w = w' := by
  obtain ⟨r, hr⟩ : ∃ r, decide (a ≤ n ∧ n ≤ b) = r := ⟨_, rfl⟩
  have HR := Lib.hid hr
  rw [hr]
  clear hr
  go_enter Tryz.func17, Tryz.ntmps17
  by_cases h1 : a ≤ n
  · by_cases h2 : n ≤ b
    · go_wp2_with fail
      go_ret
      exact ⟨by rw [← HR.out, decide_eq_true (⟨h1, h2⟩ : a ≤ n ∧ n ≤ b)]; rfl, rfl⟩
    · go_wp2_with fail
      go_ret
      exact ⟨by rw [← HR.out, decide_eq_false (by omega : ¬ (a ≤ n ∧ n ≤ b))]; rfl, rfl⟩
  · go_wp2_with fail
    go_ret
    exact ⟨by rw [← HR.out, decide_eq_false (by omega : ¬ (a ≤ n ∧ n ≤ b))]; rfl, rfl⟩
set_option maxRecDepth 100000 in
set_option maxHeartbeats 16000000 in
theorem valid_any (q : Qy) (w : World) : Calls Tryz.prog 7 #[qV q] w fun e w' => e = .returned (.bool (decide q.ok)) ∧ Keep (fun _ => False) w w' := by
  obtain ⟨r, hr⟩ : ∃ r, decide q.ok = r := ⟨_, rfl⟩
  have HR := Lib.hid hr
  rw [hr]
  clear hr
  obtain ⟨kd, tb, cl, lo, hi, bb, ot⟩ := q
  have HH : Hid True := Lib.hid trivial
  have K0 : Keep (fun _ => False) w (w.alloc (.cells #[.int .i64 kd, .int .i64 tb, .int .i64 cl, .int .i64 lo, .int .i64 hi, .int .i64 bb, .int .i64 ot] 24)) := (Keep.refl _ w).alloc _
  have HQ := QBox.new w ⟨kd, tb, cl, lo, hi, bb, ot⟩ 24
  have hz0 : w.heap.size ≤ w.heap.size := Nat.le_refl _
  go_enter Tryz.func7, Tryz.ntmps7
  go_upto_region 1 with (fail)
  obtain ⟨W0, hW0⟩ : ∃ W, w.alloc (.cells #[.int .i64 kd, .int .i64 tb, .int .i64 cl, .int .i64 lo, .int .i64 hi, .int .i64 bb, .int .i64 ot] 24) = W := ⟨_, rfl⟩
  rw [hW0] at K0 HQ ⊢
  clear hW0
  obtain ⟨z, hz⟩ : ∃ z, w.heap.size = z := ⟨_, rfl⟩
  rw [hz] at HQ ⊢
  have hz0 : w.heap.size ≤ z := by omega
  clear hz
  obtain ⟨c0, c1, c2, c3, c4, c5, c6⟩ := HQ.cells
  have hfz := HQ.2
  simp only at c0 c1 c2 c3 c4 c5 c6
  clear HQ
  rcases (by omega : kd = 1 ∨ kd = 2 ∨ kd = 3 ∨ kd = 4 ∨ kd = 5 ∨ kd = 6 ∨ kd = 7 ∨ (¬ kd = 1 ∧ ¬ kd = 2 ∧ ¬ kd = 3 ∧ ¬ kd = 4 ∧ ¬ kd = 5 ∧ ¬ kd = 6 ∧ ¬ kd = 7)) with rfl | rfl | rfl | rfl | rfl | rfl | rfl | hk
  · have HK : Hid ((1 : Int) = 1) := Lib.hid rfl
    go_wp2_with fail
    with_reducible refine (within_any ..).mono ?_
    rintro e W5 ⟨rfl, rfl⟩
    by_cases hc : 0 ≤ tb ∧ tb ≤ 3
    · rw [decide_eq_true hc]
      replace HH := Lib.hid (And.intro HH.out hc)
      clear hc
      go_wp2_with fail
      with_reducible refine (within_any ..).mono ?_
      rintro e W5 ⟨rfl, rfl⟩
      by_cases hc : 0 ≤ cl ∧ cl ≤ 3
      · rw [decide_eq_true hc]
        replace HH := Lib.hid (And.intro HH.out hc)
        clear hc
        go_wp2_with fail
        with_reducible refine (within_any ..).mono ?_
        rintro e W5 ⟨rfl, rfl⟩
        by_cases hc : -1000000000 ≤ lo ∧ lo ≤ hi
        · rw [decide_eq_true hc]
          replace HH := Lib.hid (And.intro HH.out hc)
          clear hc
          by_cases hc : hi ≤ 1000000000
          · have hb := hc
            replace HH := Lib.hid (And.intro HH.out hc)
            by_cases hc : cl = 0
            · have hb : (cl == 0) = true := by simpa using hc
              replace HH := Lib.hid (And.intro HH.out hc)
              clear hc
              by_cases hc : lo = hi
              · have hb : (lo == hi) = true := by simpa using hc
                replace HH := Lib.hid (And.intro HH.out hc)
                clear hc
                go_wp2_with fail
                with_reducible refine (within_any ..).mono ?_
                rintro e W5 ⟨rfl, rfl⟩
                by_cases hc : 1 ≤ lo ∧ lo ≤ 1000000
                · rw [decide_eq_true hc]
                  replace HH := Lib.hid (And.intro HH.out hc)
                  clear hc
                  by_cases hc : bb = 0
                  · have hb : (bb == 0) = true := by simpa using hc
                    replace HH := Lib.hid (And.intro HH.out hc)
                    clear hc
                    by_cases hc : ot = 0
                    · have hb : (ot == 0) = true := by simpa using hc
                      replace HH := Lib.hid (And.intro HH.out hc)
                      clear hc
                      go_wp2_with fail
                      first | go_ret | skip
                      have hval : r = true := HR.out.symm.trans (decide_eq_true (by have hk := HK.out; have hh := HH.out; unfold Qy.ok Qy.base Qy.form; dsimp only; omega))
                      refine ⟨by rw [hval]; rfl, ?_⟩
                      first | exact K0 | exact keep0 K0 hz0 ((Keep.refl (fun j => j = z) W0).setCell (p := ⟨z, 5, none⟩) _ (.inl rfl)) | exact keep0 K0 hz0 (((Keep.refl (fun j => j = z) W0).setCell (p := ⟨z, 6, none⟩) _ (.inl rfl)).setCell (p := ⟨z, 5, none⟩) _ (.inl rfl))
                    · have hb : (ot == 0) = false := by simpa using hc
                      replace HH := Lib.hid (And.intro HH.out hc)
                      clear hc
                      go_wp2_with fail
                      first | go_ret | skip
                      have hval : r = false := HR.out.symm.trans (decide_eq_false (by have hk := HK.out; have hh := HH.out; unfold Qy.ok Qy.base Qy.form; dsimp only; omega))
                      refine ⟨by rw [hval]; rfl, ?_⟩
                      first | exact K0 | exact keep0 K0 hz0 ((Keep.refl (fun j => j = z) W0).setCell (p := ⟨z, 5, none⟩) _ (.inl rfl)) | exact keep0 K0 hz0 (((Keep.refl (fun j => j = z) W0).setCell (p := ⟨z, 6, none⟩) _ (.inl rfl)).setCell (p := ⟨z, 5, none⟩) _ (.inl rfl))
                  · have hb : (bb == 0) = false := by simpa using hc
                    replace HH := Lib.hid (And.intro HH.out hc)
                    clear hc
                    go_wp2_with fail
                    first | go_ret | skip
                    have hval : r = false := HR.out.symm.trans (decide_eq_false (by have hk := HK.out; have hh := HH.out; unfold Qy.ok Qy.base Qy.form; dsimp only; omega))
                    refine ⟨by rw [hval]; rfl, ?_⟩
                    first | exact K0 | exact keep0 K0 hz0 ((Keep.refl (fun j => j = z) W0).setCell (p := ⟨z, 5, none⟩) _ (.inl rfl)) | exact keep0 K0 hz0 (((Keep.refl (fun j => j = z) W0).setCell (p := ⟨z, 6, none⟩) _ (.inl rfl)).setCell (p := ⟨z, 5, none⟩) _ (.inl rfl))
                · rw [decide_eq_false hc]
                  replace HH := Lib.hid (And.intro HH.out hc)
                  clear hc
                  go_wp2_with fail
                  first | go_ret | skip
                  have hval : r = false := HR.out.symm.trans (decide_eq_false (by have hk := HK.out; have hh := HH.out; unfold Qy.ok Qy.base Qy.form; dsimp only; omega))
                  refine ⟨by rw [hval]; rfl, ?_⟩
                  first | exact K0 | exact keep0 K0 hz0 ((Keep.refl (fun j => j = z) W0).setCell (p := ⟨z, 5, none⟩) _ (.inl rfl)) | exact keep0 K0 hz0 (((Keep.refl (fun j => j = z) W0).setCell (p := ⟨z, 6, none⟩) _ (.inl rfl)).setCell (p := ⟨z, 5, none⟩) _ (.inl rfl))
              · have hb : (lo == hi) = false := by simpa using hc
                replace HH := Lib.hid (And.intro HH.out hc)
                clear hc
                go_wp2_with fail
                first | go_ret | skip
                have hval : r = false := HR.out.symm.trans (decide_eq_false (by have hk := HK.out; have hh := HH.out; unfold Qy.ok Qy.base Qy.form; dsimp only; omega))
                refine ⟨by rw [hval]; rfl, ?_⟩
                first | exact K0 | exact keep0 K0 hz0 ((Keep.refl (fun j => j = z) W0).setCell (p := ⟨z, 5, none⟩) _ (.inl rfl)) | exact keep0 K0 hz0 (((Keep.refl (fun j => j = z) W0).setCell (p := ⟨z, 6, none⟩) _ (.inl rfl)).setCell (p := ⟨z, 5, none⟩) _ (.inl rfl))
            · have hb : (cl == 0) = false := by simpa using hc
              replace HH := Lib.hid (And.intro HH.out hc)
              clear hc
              go_wp2_with fail
              first | go_ret | skip
              have hval : r = false := HR.out.symm.trans (decide_eq_false (by have hk := HK.out; have hh := HH.out; unfold Qy.ok Qy.base Qy.form; dsimp only; omega))
              refine ⟨by rw [hval]; rfl, ?_⟩
              first | exact K0 | exact keep0 K0 hz0 ((Keep.refl (fun j => j = z) W0).setCell (p := ⟨z, 5, none⟩) _ (.inl rfl)) | exact keep0 K0 hz0 (((Keep.refl (fun j => j = z) W0).setCell (p := ⟨z, 6, none⟩) _ (.inl rfl)).setCell (p := ⟨z, 5, none⟩) _ (.inl rfl))
          · have hb := hc
            replace HH := Lib.hid (And.intro HH.out hc)
            go_wp2_with fail
            first | go_ret | skip
            have hval : r = false := HR.out.symm.trans (decide_eq_false (by have hk := HK.out; have hh := HH.out; unfold Qy.ok Qy.base Qy.form; dsimp only; omega))
            refine ⟨by rw [hval]; rfl, ?_⟩
            first | exact K0 | exact keep0 K0 hz0 ((Keep.refl (fun j => j = z) W0).setCell (p := ⟨z, 5, none⟩) _ (.inl rfl)) | exact keep0 K0 hz0 (((Keep.refl (fun j => j = z) W0).setCell (p := ⟨z, 6, none⟩) _ (.inl rfl)).setCell (p := ⟨z, 5, none⟩) _ (.inl rfl))
        · rw [decide_eq_false hc]
          replace HH := Lib.hid (And.intro HH.out hc)
          clear hc
          go_wp2_with fail
          first | go_ret | skip
          have hval : r = false := HR.out.symm.trans (decide_eq_false (by have hk := HK.out; have hh := HH.out; unfold Qy.ok Qy.base Qy.form; dsimp only; omega))
          refine ⟨by rw [hval]; rfl, ?_⟩
          first | exact K0 | exact keep0 K0 hz0 ((Keep.refl (fun j => j = z) W0).setCell (p := ⟨z, 5, none⟩) _ (.inl rfl)) | exact keep0 K0 hz0 (((Keep.refl (fun j => j = z) W0).setCell (p := ⟨z, 6, none⟩) _ (.inl rfl)).setCell (p := ⟨z, 5, none⟩) _ (.inl rfl))
      · rw [decide_eq_false hc]
        replace HH := Lib.hid (And.intro HH.out hc)
        clear hc
        go_wp2_with fail
        first | go_ret | skip
        have hval : r = false := HR.out.symm.trans (decide_eq_false (by have hk := HK.out; have hh := HH.out; unfold Qy.ok Qy.base Qy.form; dsimp only; omega))
        refine ⟨by rw [hval]; rfl, ?_⟩
        first | exact K0 | exact keep0 K0 hz0 ((Keep.refl (fun j => j = z) W0).setCell (p := ⟨z, 5, none⟩) _ (.inl rfl)) | exact keep0 K0 hz0 (((Keep.refl (fun j => j = z) W0).setCell (p := ⟨z, 6, none⟩) _ (.inl rfl)).setCell (p := ⟨z, 5, none⟩) _ (.inl rfl))
    · rw [decide_eq_false hc]
      replace HH := Lib.hid (And.intro HH.out hc)
      clear hc
      go_wp2_with fail
      first | go_ret | skip
      have hval : r = false := HR.out.symm.trans (decide_eq_false (by have hk := HK.out; have hh := HH.out; unfold Qy.ok Qy.base Qy.form; dsimp only; omega))
      refine ⟨by rw [hval]; rfl, ?_⟩
      first | exact K0 | exact keep0 K0 hz0 ((Keep.refl (fun j => j = z) W0).setCell (p := ⟨z, 5, none⟩) _ (.inl rfl)) | exact keep0 K0 hz0 (((Keep.refl (fun j => j = z) W0).setCell (p := ⟨z, 6, none⟩) _ (.inl rfl)).setCell (p := ⟨z, 5, none⟩) _ (.inl rfl))
  · have HK : Hid ((2 : Int) = 2) := Lib.hid rfl
    go_wp2_with fail
    with_reducible refine (within_any ..).mono ?_
    rintro e W5 ⟨rfl, rfl⟩
    by_cases hc : 0 ≤ tb ∧ tb ≤ 3
    · rw [decide_eq_true hc]
      replace HH := Lib.hid (And.intro HH.out hc)
      clear hc
      go_wp2_with fail
      with_reducible refine (within_any ..).mono ?_
      rintro e W5 ⟨rfl, rfl⟩
      by_cases hc : 0 ≤ cl ∧ cl ≤ 3
      · rw [decide_eq_true hc]
        replace HH := Lib.hid (And.intro HH.out hc)
        clear hc
        go_wp2_with fail
        with_reducible refine (within_any ..).mono ?_
        rintro e W5 ⟨rfl, rfl⟩
        by_cases hc : -1000000000 ≤ lo ∧ lo ≤ hi
        · rw [decide_eq_true hc]
          replace HH := Lib.hid (And.intro HH.out hc)
          clear hc
          by_cases hc : hi ≤ 1000000000
          · have hb := hc
            replace HH := Lib.hid (And.intro HH.out hc)
            by_cases hc : bb = 0
            · have hb : (bb == 0) = true := by simpa using hc
              replace HH := Lib.hid (And.intro HH.out hc)
              clear hc
              by_cases hc : ot = 0
              · have hb : (ot == 0) = true := by simpa using hc
                replace HH := Lib.hid (And.intro HH.out hc)
                clear hc
                go_wp2_with fail
                first | go_ret | skip
                have hval : r = true := HR.out.symm.trans (decide_eq_true (by have hk := HK.out; have hh := HH.out; unfold Qy.ok Qy.base Qy.form; dsimp only; omega))
                refine ⟨by rw [hval]; rfl, ?_⟩
                first | exact K0 | exact keep0 K0 hz0 ((Keep.refl (fun j => j = z) W0).setCell (p := ⟨z, 5, none⟩) _ (.inl rfl)) | exact keep0 K0 hz0 (((Keep.refl (fun j => j = z) W0).setCell (p := ⟨z, 6, none⟩) _ (.inl rfl)).setCell (p := ⟨z, 5, none⟩) _ (.inl rfl))
              · have hb : (ot == 0) = false := by simpa using hc
                replace HH := Lib.hid (And.intro HH.out hc)
                clear hc
                go_wp2_with fail
                first | go_ret | skip
                have hval : r = false := HR.out.symm.trans (decide_eq_false (by have hk := HK.out; have hh := HH.out; unfold Qy.ok Qy.base Qy.form; dsimp only; omega))
                refine ⟨by rw [hval]; rfl, ?_⟩
                first | exact K0 | exact keep0 K0 hz0 ((Keep.refl (fun j => j = z) W0).setCell (p := ⟨z, 5, none⟩) _ (.inl rfl)) | exact keep0 K0 hz0 (((Keep.refl (fun j => j = z) W0).setCell (p := ⟨z, 6, none⟩) _ (.inl rfl)).setCell (p := ⟨z, 5, none⟩) _ (.inl rfl))
            · have hb : (bb == 0) = false := by simpa using hc
              replace HH := Lib.hid (And.intro HH.out hc)
              clear hc
              go_wp2_with fail
              first | go_ret | skip
              have hval : r = false := HR.out.symm.trans (decide_eq_false (by have hk := HK.out; have hh := HH.out; unfold Qy.ok Qy.base Qy.form; dsimp only; omega))
              refine ⟨by rw [hval]; rfl, ?_⟩
              first | exact K0 | exact keep0 K0 hz0 ((Keep.refl (fun j => j = z) W0).setCell (p := ⟨z, 5, none⟩) _ (.inl rfl)) | exact keep0 K0 hz0 (((Keep.refl (fun j => j = z) W0).setCell (p := ⟨z, 6, none⟩) _ (.inl rfl)).setCell (p := ⟨z, 5, none⟩) _ (.inl rfl))
          · have hb := hc
            replace HH := Lib.hid (And.intro HH.out hc)
            go_wp2_with fail
            first | go_ret | skip
            have hval : r = false := HR.out.symm.trans (decide_eq_false (by have hk := HK.out; have hh := HH.out; unfold Qy.ok Qy.base Qy.form; dsimp only; omega))
            refine ⟨by rw [hval]; rfl, ?_⟩
            first | exact K0 | exact keep0 K0 hz0 ((Keep.refl (fun j => j = z) W0).setCell (p := ⟨z, 5, none⟩) _ (.inl rfl)) | exact keep0 K0 hz0 (((Keep.refl (fun j => j = z) W0).setCell (p := ⟨z, 6, none⟩) _ (.inl rfl)).setCell (p := ⟨z, 5, none⟩) _ (.inl rfl))
        · rw [decide_eq_false hc]
          replace HH := Lib.hid (And.intro HH.out hc)
          clear hc
          go_wp2_with fail
          first | go_ret | skip
          have hval : r = false := HR.out.symm.trans (decide_eq_false (by have hk := HK.out; have hh := HH.out; unfold Qy.ok Qy.base Qy.form; dsimp only; omega))
          refine ⟨by rw [hval]; rfl, ?_⟩
          first | exact K0 | exact keep0 K0 hz0 ((Keep.refl (fun j => j = z) W0).setCell (p := ⟨z, 5, none⟩) _ (.inl rfl)) | exact keep0 K0 hz0 (((Keep.refl (fun j => j = z) W0).setCell (p := ⟨z, 6, none⟩) _ (.inl rfl)).setCell (p := ⟨z, 5, none⟩) _ (.inl rfl))
      · rw [decide_eq_false hc]
        replace HH := Lib.hid (And.intro HH.out hc)
        clear hc
        go_wp2_with fail
        first | go_ret | skip
        have hval : r = false := HR.out.symm.trans (decide_eq_false (by have hk := HK.out; have hh := HH.out; unfold Qy.ok Qy.base Qy.form; dsimp only; omega))
        refine ⟨by rw [hval]; rfl, ?_⟩
        first | exact K0 | exact keep0 K0 hz0 ((Keep.refl (fun j => j = z) W0).setCell (p := ⟨z, 5, none⟩) _ (.inl rfl)) | exact keep0 K0 hz0 (((Keep.refl (fun j => j = z) W0).setCell (p := ⟨z, 6, none⟩) _ (.inl rfl)).setCell (p := ⟨z, 5, none⟩) _ (.inl rfl))
    · rw [decide_eq_false hc]
      replace HH := Lib.hid (And.intro HH.out hc)
      clear hc
      go_wp2_with fail
      first | go_ret | skip
      have hval : r = false := HR.out.symm.trans (decide_eq_false (by have hk := HK.out; have hh := HH.out; unfold Qy.ok Qy.base Qy.form; dsimp only; omega))
      refine ⟨by rw [hval]; rfl, ?_⟩
      first | exact K0 | exact keep0 K0 hz0 ((Keep.refl (fun j => j = z) W0).setCell (p := ⟨z, 5, none⟩) _ (.inl rfl)) | exact keep0 K0 hz0 (((Keep.refl (fun j => j = z) W0).setCell (p := ⟨z, 6, none⟩) _ (.inl rfl)).setCell (p := ⟨z, 5, none⟩) _ (.inl rfl))
  · have HK : Hid ((3 : Int) = 3) := Lib.hid rfl
    go_wp2_with fail
    with_reducible refine (within_any ..).mono ?_
    rintro e W5 ⟨rfl, rfl⟩
    by_cases hc : 0 ≤ tb ∧ tb ≤ 3
    · rw [decide_eq_true hc]
      replace HH := Lib.hid (And.intro HH.out hc)
      clear hc
      go_wp2_with fail
      with_reducible refine (within_any ..).mono ?_
      rintro e W5 ⟨rfl, rfl⟩
      by_cases hc : 0 ≤ cl ∧ cl ≤ 3
      · rw [decide_eq_true hc]
        replace HH := Lib.hid (And.intro HH.out hc)
        clear hc
        go_wp2_with fail
        with_reducible refine (within_any ..).mono ?_
        rintro e W5 ⟨rfl, rfl⟩
        by_cases hc : -1000000000 ≤ lo ∧ lo ≤ hi
        · rw [decide_eq_true hc]
          replace HH := Lib.hid (And.intro HH.out hc)
          clear hc
          by_cases hc : hi ≤ 1000000000
          · have hb := hc
            replace HH := Lib.hid (And.intro HH.out hc)
            by_cases hc : bb = 0
            · have hb : (bb == 0) = true := by simpa using hc
              replace HH := Lib.hid (And.intro HH.out hc)
              clear hc
              by_cases hc : ot = 0
              · have hb : (ot == 0) = true := by simpa using hc
                replace HH := Lib.hid (And.intro HH.out hc)
                clear hc
                go_wp2_with fail
                first | go_ret | skip
                have hval : r = true := HR.out.symm.trans (decide_eq_true (by have hk := HK.out; have hh := HH.out; unfold Qy.ok Qy.base Qy.form; dsimp only; omega))
                refine ⟨by rw [hval]; rfl, ?_⟩
                first | exact K0 | exact keep0 K0 hz0 ((Keep.refl (fun j => j = z) W0).setCell (p := ⟨z, 5, none⟩) _ (.inl rfl)) | exact keep0 K0 hz0 (((Keep.refl (fun j => j = z) W0).setCell (p := ⟨z, 6, none⟩) _ (.inl rfl)).setCell (p := ⟨z, 5, none⟩) _ (.inl rfl))
              · have hb : (ot == 0) = false := by simpa using hc
                replace HH := Lib.hid (And.intro HH.out hc)
                clear hc
                go_wp2_with fail
                first | go_ret | skip
                have hval : r = false := HR.out.symm.trans (decide_eq_false (by have hk := HK.out; have hh := HH.out; unfold Qy.ok Qy.base Qy.form; dsimp only; omega))
                refine ⟨by rw [hval]; rfl, ?_⟩
                first | exact K0 | exact keep0 K0 hz0 ((Keep.refl (fun j => j = z) W0).setCell (p := ⟨z, 5, none⟩) _ (.inl rfl)) | exact keep0 K0 hz0 (((Keep.refl (fun j => j = z) W0).setCell (p := ⟨z, 6, none⟩) _ (.inl rfl)).setCell (p := ⟨z, 5, none⟩) _ (.inl rfl))
            · have hb : (bb == 0) = false := by simpa using hc
              replace HH := Lib.hid (And.intro HH.out hc)
              clear hc
              go_wp2_with fail
              first | go_ret | skip
              have hval : r = false := HR.out.symm.trans (decide_eq_false (by have hk := HK.out; have hh := HH.out; unfold Qy.ok Qy.base Qy.form; dsimp only; omega))
              refine ⟨by rw [hval]; rfl, ?_⟩
              first | exact K0 | exact keep0 K0 hz0 ((Keep.refl (fun j => j = z) W0).setCell (p := ⟨z, 5, none⟩) _ (.inl rfl)) | exact keep0 K0 hz0 (((Keep.refl (fun j => j = z) W0).setCell (p := ⟨z, 6, none⟩) _ (.inl rfl)).setCell (p := ⟨z, 5, none⟩) _ (.inl rfl))
          · have hb := hc
            replace HH := Lib.hid (And.intro HH.out hc)
            go_wp2_with fail
            first | go_ret | skip
            have hval : r = false := HR.out.symm.trans (decide_eq_false (by have hk := HK.out; have hh := HH.out; unfold Qy.ok Qy.base Qy.form; dsimp only; omega))
            refine ⟨by rw [hval]; rfl, ?_⟩
            first | exact K0 | exact keep0 K0 hz0 ((Keep.refl (fun j => j = z) W0).setCell (p := ⟨z, 5, none⟩) _ (.inl rfl)) | exact keep0 K0 hz0 (((Keep.refl (fun j => j = z) W0).setCell (p := ⟨z, 6, none⟩) _ (.inl rfl)).setCell (p := ⟨z, 5, none⟩) _ (.inl rfl))
        · rw [decide_eq_false hc]
          replace HH := Lib.hid (And.intro HH.out hc)
          clear hc
          go_wp2_with fail
          first | go_ret | skip
          have hval : r = false := HR.out.symm.trans (decide_eq_false (by have hk := HK.out; have hh := HH.out; unfold Qy.ok Qy.base Qy.form; dsimp only; omega))
          refine ⟨by rw [hval]; rfl, ?_⟩
          first | exact K0 | exact keep0 K0 hz0 ((Keep.refl (fun j => j = z) W0).setCell (p := ⟨z, 5, none⟩) _ (.inl rfl)) | exact keep0 K0 hz0 (((Keep.refl (fun j => j = z) W0).setCell (p := ⟨z, 6, none⟩) _ (.inl rfl)).setCell (p := ⟨z, 5, none⟩) _ (.inl rfl))
      · rw [decide_eq_false hc]
        replace HH := Lib.hid (And.intro HH.out hc)
        clear hc
        go_wp2_with fail
        first | go_ret | skip
        have hval : r = false := HR.out.symm.trans (decide_eq_false (by have hk := HK.out; have hh := HH.out; unfold Qy.ok Qy.base Qy.form; dsimp only; omega))
        refine ⟨by rw [hval]; rfl, ?_⟩
        first | exact K0 | exact keep0 K0 hz0 ((Keep.refl (fun j => j = z) W0).setCell (p := ⟨z, 5, none⟩) _ (.inl rfl)) | exact keep0 K0 hz0 (((Keep.refl (fun j => j = z) W0).setCell (p := ⟨z, 6, none⟩) _ (.inl rfl)).setCell (p := ⟨z, 5, none⟩) _ (.inl rfl))
    · rw [decide_eq_false hc]
      replace HH := Lib.hid (And.intro HH.out hc)
      clear hc
      go_wp2_with fail
      first | go_ret | skip
      have hval : r = false := HR.out.symm.trans (decide_eq_false (by have hk := HK.out; have hh := HH.out; unfold Qy.ok Qy.base Qy.form; dsimp only; omega))
      refine ⟨by rw [hval]; rfl, ?_⟩
      first | exact K0 | exact keep0 K0 hz0 ((Keep.refl (fun j => j = z) W0).setCell (p := ⟨z, 5, none⟩) _ (.inl rfl)) | exact keep0 K0 hz0 (((Keep.refl (fun j => j = z) W0).setCell (p := ⟨z, 6, none⟩) _ (.inl rfl)).setCell (p := ⟨z, 5, none⟩) _ (.inl rfl))
  · have HK : Hid ((4 : Int) = 4) := Lib.hid rfl
    go_wp2_with fail
    with_reducible refine (within_any ..).mono ?_
    rintro e W5 ⟨rfl, rfl⟩
    by_cases hc : 0 ≤ tb ∧ tb ≤ 3
    · rw [decide_eq_true hc]
      replace HH := Lib.hid (And.intro HH.out hc)
      clear hc
      go_wp2_with fail
      with_reducible refine (within_any ..).mono ?_
      rintro e W5 ⟨rfl, rfl⟩
      by_cases hc : 0 ≤ cl ∧ cl ≤ 3
      · rw [decide_eq_true hc]
        replace HH := Lib.hid (And.intro HH.out hc)
        clear hc
        go_wp2_with fail
        with_reducible refine (within_any ..).mono ?_
        rintro e W5 ⟨rfl, rfl⟩
        by_cases hc : -1000000000 ≤ lo ∧ lo ≤ hi
        · rw [decide_eq_true hc]
          replace HH := Lib.hid (And.intro HH.out hc)
          clear hc
          by_cases hc : hi ≤ 1000000000
          · have hb := hc
            replace HH := Lib.hid (And.intro HH.out hc)
            go_wp2_with fail
            with_reducible refine (within_any ..).mono ?_
            rintro e W5 ⟨rfl, rfl⟩
            by_cases hc : 1 ≤ bb ∧ bb ≤ 3
            · rw [decide_eq_true hc]
              replace HH := Lib.hid (And.intro HH.out hc)
              clear hc
              by_cases hc : ot = 0
              · have hb : (ot == 0) = true := by simpa using hc
                replace HH := Lib.hid (And.intro HH.out hc)
                clear hc
                go_wp2_with fail
                first | go_ret | skip
                have hval : r = true := HR.out.symm.trans (decide_eq_true (by have hk := HK.out; have hh := HH.out; unfold Qy.ok Qy.base Qy.form; dsimp only; omega))
                refine ⟨by rw [hval]; rfl, ?_⟩
                first | exact K0 | exact keep0 K0 hz0 ((Keep.refl (fun j => j = z) W0).setCell (p := ⟨z, 5, none⟩) _ (.inl rfl)) | exact keep0 K0 hz0 (((Keep.refl (fun j => j = z) W0).setCell (p := ⟨z, 6, none⟩) _ (.inl rfl)).setCell (p := ⟨z, 5, none⟩) _ (.inl rfl))
              · have hb : (ot == 0) = false := by simpa using hc
                replace HH := Lib.hid (And.intro HH.out hc)
                clear hc
                go_wp2_with fail
                first | go_ret | skip
                have hval : r = false := HR.out.symm.trans (decide_eq_false (by have hk := HK.out; have hh := HH.out; unfold Qy.ok Qy.base Qy.form; dsimp only; omega))
                refine ⟨by rw [hval]; rfl, ?_⟩
                first | exact K0 | exact keep0 K0 hz0 ((Keep.refl (fun j => j = z) W0).setCell (p := ⟨z, 5, none⟩) _ (.inl rfl)) | exact keep0 K0 hz0 (((Keep.refl (fun j => j = z) W0).setCell (p := ⟨z, 6, none⟩) _ (.inl rfl)).setCell (p := ⟨z, 5, none⟩) _ (.inl rfl))
            · rw [decide_eq_false hc]
              replace HH := Lib.hid (And.intro HH.out hc)
              clear hc
              go_wp2_with fail
              first | go_ret | skip
              have hval : r = false := HR.out.symm.trans (decide_eq_false (by have hk := HK.out; have hh := HH.out; unfold Qy.ok Qy.base Qy.form; dsimp only; omega))
              refine ⟨by rw [hval]; rfl, ?_⟩
              first | exact K0 | exact keep0 K0 hz0 ((Keep.refl (fun j => j = z) W0).setCell (p := ⟨z, 5, none⟩) _ (.inl rfl)) | exact keep0 K0 hz0 (((Keep.refl (fun j => j = z) W0).setCell (p := ⟨z, 6, none⟩) _ (.inl rfl)).setCell (p := ⟨z, 5, none⟩) _ (.inl rfl))
          · have hb := hc
            replace HH := Lib.hid (And.intro HH.out hc)
            go_wp2_with fail
            first | go_ret | skip
            have hval : r = false := HR.out.symm.trans (decide_eq_false (by have hk := HK.out; have hh := HH.out; unfold Qy.ok Qy.base Qy.form; dsimp only; omega))
            refine ⟨by rw [hval]; rfl, ?_⟩
            first | exact K0 | exact keep0 K0 hz0 ((Keep.refl (fun j => j = z) W0).setCell (p := ⟨z, 5, none⟩) _ (.inl rfl)) | exact keep0 K0 hz0 (((Keep.refl (fun j => j = z) W0).setCell (p := ⟨z, 6, none⟩) _ (.inl rfl)).setCell (p := ⟨z, 5, none⟩) _ (.inl rfl))
        · rw [decide_eq_false hc]
          replace HH := Lib.hid (And.intro HH.out hc)
          clear hc
          go_wp2_with fail
          first | go_ret | skip
          have hval : r = false := HR.out.symm.trans (decide_eq_false (by have hk := HK.out; have hh := HH.out; unfold Qy.ok Qy.base Qy.form; dsimp only; omega))
          refine ⟨by rw [hval]; rfl, ?_⟩
          first | exact K0 | exact keep0 K0 hz0 ((Keep.refl (fun j => j = z) W0).setCell (p := ⟨z, 5, none⟩) _ (.inl rfl)) | exact keep0 K0 hz0 (((Keep.refl (fun j => j = z) W0).setCell (p := ⟨z, 6, none⟩) _ (.inl rfl)).setCell (p := ⟨z, 5, none⟩) _ (.inl rfl))
      · rw [decide_eq_false hc]
        replace HH := Lib.hid (And.intro HH.out hc)
        clear hc
        go_wp2_with fail
        first | go_ret | skip
        have hval : r = false := HR.out.symm.trans (decide_eq_false (by have hk := HK.out; have hh := HH.out; unfold Qy.ok Qy.base Qy.form; dsimp only; omega))
        refine ⟨by rw [hval]; rfl, ?_⟩
        first | exact K0 | exact keep0 K0 hz0 ((Keep.refl (fun j => j = z) W0).setCell (p := ⟨z, 5, none⟩) _ (.inl rfl)) | exact keep0 K0 hz0 (((Keep.refl (fun j => j = z) W0).setCell (p := ⟨z, 6, none⟩) _ (.inl rfl)).setCell (p := ⟨z, 5, none⟩) _ (.inl rfl))
    · rw [decide_eq_false hc]
      replace HH := Lib.hid (And.intro HH.out hc)
      clear hc
      go_wp2_with fail
      first | go_ret | skip
      have hval : r = false := HR.out.symm.trans (decide_eq_false (by have hk := HK.out; have hh := HH.out; unfold Qy.ok Qy.base Qy.form; dsimp only; omega))
      refine ⟨by rw [hval]; rfl, ?_⟩
      first | exact K0 | exact keep0 K0 hz0 ((Keep.refl (fun j => j = z) W0).setCell (p := ⟨z, 5, none⟩) _ (.inl rfl)) | exact keep0 K0 hz0 (((Keep.refl (fun j => j = z) W0).setCell (p := ⟨z, 6, none⟩) _ (.inl rfl)).setCell (p := ⟨z, 5, none⟩) _ (.inl rfl))
  · have HK : Hid ((5 : Int) = 5) := Lib.hid rfl
    go_wp2_with fail
    with_reducible refine (within_any ..).mono ?_
    rintro e W5 ⟨rfl, rfl⟩
    by_cases hc : 0 ≤ tb ∧ tb ≤ 3
    · rw [decide_eq_true hc]
      replace HH := Lib.hid (And.intro HH.out hc)
      clear hc
      go_wp2_with fail
      with_reducible refine (within_any ..).mono ?_
      rintro e W5 ⟨rfl, rfl⟩
      by_cases hc : 0 ≤ cl ∧ cl ≤ 3
      · rw [decide_eq_true hc]
        replace HH := Lib.hid (And.intro HH.out hc)
        clear hc
        go_wp2_with fail
        with_reducible refine (within_any ..).mono ?_
        rintro e W5 ⟨rfl, rfl⟩
        by_cases hc : -1000000000 ≤ lo ∧ lo ≤ hi
        · rw [decide_eq_true hc]
          replace HH := Lib.hid (And.intro HH.out hc)
          clear hc
          by_cases hc : hi ≤ 1000000000
          · have hb := hc
            replace HH := Lib.hid (And.intro HH.out hc)
            go_wp2_with fail
            with_reducible refine (within_any ..).mono ?_
            rintro e W5 ⟨rfl, rfl⟩
            by_cases hc : 1 ≤ bb ∧ bb ≤ 3
            · rw [decide_eq_true hc]
              replace HH := Lib.hid (And.intro HH.out hc)
              clear hc
              by_cases hc : ot = 0
              · have hb : (ot == 0) = true := by simpa using hc
                replace HH := Lib.hid (And.intro HH.out hc)
                clear hc
                go_wp2_with fail
                first | go_ret | skip
                have hval : r = true := HR.out.symm.trans (decide_eq_true (by have hk := HK.out; have hh := HH.out; unfold Qy.ok Qy.base Qy.form; dsimp only; omega))
                refine ⟨by rw [hval]; rfl, ?_⟩
                first | exact K0 | exact keep0 K0 hz0 ((Keep.refl (fun j => j = z) W0).setCell (p := ⟨z, 5, none⟩) _ (.inl rfl)) | exact keep0 K0 hz0 (((Keep.refl (fun j => j = z) W0).setCell (p := ⟨z, 6, none⟩) _ (.inl rfl)).setCell (p := ⟨z, 5, none⟩) _ (.inl rfl))
              · have hb : (ot == 0) = false := by simpa using hc
                replace HH := Lib.hid (And.intro HH.out hc)
                clear hc
                go_wp2_with fail
                first | go_ret | skip
                have hval : r = false := HR.out.symm.trans (decide_eq_false (by have hk := HK.out; have hh := HH.out; unfold Qy.ok Qy.base Qy.form; dsimp only; omega))
                refine ⟨by rw [hval]; rfl, ?_⟩
                first | exact K0 | exact keep0 K0 hz0 ((Keep.refl (fun j => j = z) W0).setCell (p := ⟨z, 5, none⟩) _ (.inl rfl)) | exact keep0 K0 hz0 (((Keep.refl (fun j => j = z) W0).setCell (p := ⟨z, 6, none⟩) _ (.inl rfl)).setCell (p := ⟨z, 5, none⟩) _ (.inl rfl))
            · rw [decide_eq_false hc]
              replace HH := Lib.hid (And.intro HH.out hc)
              clear hc
              go_wp2_with fail
              first | go_ret | skip
              have hval : r = false := HR.out.symm.trans (decide_eq_false (by have hk := HK.out; have hh := HH.out; unfold Qy.ok Qy.base Qy.form; dsimp only; omega))
              refine ⟨by rw [hval]; rfl, ?_⟩
              first | exact K0 | exact keep0 K0 hz0 ((Keep.refl (fun j => j = z) W0).setCell (p := ⟨z, 5, none⟩) _ (.inl rfl)) | exact keep0 K0 hz0 (((Keep.refl (fun j => j = z) W0).setCell (p := ⟨z, 6, none⟩) _ (.inl rfl)).setCell (p := ⟨z, 5, none⟩) _ (.inl rfl))
          · have hb := hc
            replace HH := Lib.hid (And.intro HH.out hc)
            go_wp2_with fail
            first | go_ret | skip
            have hval : r = false := HR.out.symm.trans (decide_eq_false (by have hk := HK.out; have hh := HH.out; unfold Qy.ok Qy.base Qy.form; dsimp only; omega))
            refine ⟨by rw [hval]; rfl, ?_⟩
            first | exact K0 | exact keep0 K0 hz0 ((Keep.refl (fun j => j = z) W0).setCell (p := ⟨z, 5, none⟩) _ (.inl rfl)) | exact keep0 K0 hz0 (((Keep.refl (fun j => j = z) W0).setCell (p := ⟨z, 6, none⟩) _ (.inl rfl)).setCell (p := ⟨z, 5, none⟩) _ (.inl rfl))
        · rw [decide_eq_false hc]
          replace HH := Lib.hid (And.intro HH.out hc)
          clear hc
          go_wp2_with fail
          first | go_ret | skip
          have hval : r = false := HR.out.symm.trans (decide_eq_false (by have hk := HK.out; have hh := HH.out; unfold Qy.ok Qy.base Qy.form; dsimp only; omega))
          refine ⟨by rw [hval]; rfl, ?_⟩
          first | exact K0 | exact keep0 K0 hz0 ((Keep.refl (fun j => j = z) W0).setCell (p := ⟨z, 5, none⟩) _ (.inl rfl)) | exact keep0 K0 hz0 (((Keep.refl (fun j => j = z) W0).setCell (p := ⟨z, 6, none⟩) _ (.inl rfl)).setCell (p := ⟨z, 5, none⟩) _ (.inl rfl))
      · rw [decide_eq_false hc]
        replace HH := Lib.hid (And.intro HH.out hc)
        clear hc
        go_wp2_with fail
        first | go_ret | skip
        have hval : r = false := HR.out.symm.trans (decide_eq_false (by have hk := HK.out; have hh := HH.out; unfold Qy.ok Qy.base Qy.form; dsimp only; omega))
        refine ⟨by rw [hval]; rfl, ?_⟩
        first | exact K0 | exact keep0 K0 hz0 ((Keep.refl (fun j => j = z) W0).setCell (p := ⟨z, 5, none⟩) _ (.inl rfl)) | exact keep0 K0 hz0 (((Keep.refl (fun j => j = z) W0).setCell (p := ⟨z, 6, none⟩) _ (.inl rfl)).setCell (p := ⟨z, 5, none⟩) _ (.inl rfl))
    · rw [decide_eq_false hc]
      replace HH := Lib.hid (And.intro HH.out hc)
      clear hc
      go_wp2_with fail
      first | go_ret | skip
      have hval : r = false := HR.out.symm.trans (decide_eq_false (by have hk := HK.out; have hh := HH.out; unfold Qy.ok Qy.base Qy.form; dsimp only; omega))
      refine ⟨by rw [hval]; rfl, ?_⟩
      first | exact K0 | exact keep0 K0 hz0 ((Keep.refl (fun j => j = z) W0).setCell (p := ⟨z, 5, none⟩) _ (.inl rfl)) | exact keep0 K0 hz0 (((Keep.refl (fun j => j = z) W0).setCell (p := ⟨z, 6, none⟩) _ (.inl rfl)).setCell (p := ⟨z, 5, none⟩) _ (.inl rfl))
  · have HK : Hid ((6 : Int) = 6) := Lib.hid rfl
    go_wp2_with fail
    with_reducible refine (within_any ..).mono ?_
    rintro e W5 ⟨rfl, rfl⟩
    by_cases hc : 0 ≤ tb ∧ tb ≤ 3
    · rw [decide_eq_true hc]
      replace HH := Lib.hid (And.intro HH.out hc)
      clear hc
      go_wp2_with fail
      with_reducible refine (within_any ..).mono ?_
      rintro e W5 ⟨rfl, rfl⟩
      by_cases hc : 0 ≤ cl ∧ cl ≤ 3
      · rw [decide_eq_true hc]
        replace HH := Lib.hid (And.intro HH.out hc)
        clear hc
        go_wp2_with fail
        with_reducible refine (within_any ..).mono ?_
        rintro e W5 ⟨rfl, rfl⟩
        by_cases hc : -1000000000 ≤ lo ∧ lo ≤ hi
        · rw [decide_eq_true hc]
          replace HH := Lib.hid (And.intro HH.out hc)
          clear hc
          by_cases hc : hi ≤ 1000000000
          · have hb := hc
            replace HH := Lib.hid (And.intro HH.out hc)
            go_wp2_with fail
            with_reducible refine (within_any ..).mono ?_
            rintro e W5 ⟨rfl, rfl⟩
            by_cases hc : 1 ≤ bb ∧ bb ≤ 3
            · rw [decide_eq_true hc]
              replace HH := Lib.hid (And.intro HH.out hc)
              clear hc
              by_cases hc : ot = 0
              · have hb : (ot == 0) = true := by simpa using hc
                replace HH := Lib.hid (And.intro HH.out hc)
                clear hc
                go_wp2_with fail
                first | go_ret | skip
                have hval : r = true := HR.out.symm.trans (decide_eq_true (by have hk := HK.out; have hh := HH.out; unfold Qy.ok Qy.base Qy.form; dsimp only; omega))
                refine ⟨by rw [hval]; rfl, ?_⟩
                first | exact K0 | exact keep0 K0 hz0 ((Keep.refl (fun j => j = z) W0).setCell (p := ⟨z, 5, none⟩) _ (.inl rfl)) | exact keep0 K0 hz0 (((Keep.refl (fun j => j = z) W0).setCell (p := ⟨z, 6, none⟩) _ (.inl rfl)).setCell (p := ⟨z, 5, none⟩) _ (.inl rfl))
              · have hb : (ot == 0) = false := by simpa using hc
                replace HH := Lib.hid (And.intro HH.out hc)
                clear hc
                go_wp2_with fail
                first | go_ret | skip
                have hval : r = false := HR.out.symm.trans (decide_eq_false (by have hk := HK.out; have hh := HH.out; unfold Qy.ok Qy.base Qy.form; dsimp only; omega))
                refine ⟨by rw [hval]; rfl, ?_⟩
                first | exact K0 | exact keep0 K0 hz0 ((Keep.refl (fun j => j = z) W0).setCell (p := ⟨z, 5, none⟩) _ (.inl rfl)) | exact keep0 K0 hz0 (((Keep.refl (fun j => j = z) W0).setCell (p := ⟨z, 6, none⟩) _ (.inl rfl)).setCell (p := ⟨z, 5, none⟩) _ (.inl rfl))
            · rw [decide_eq_false hc]
              replace HH := Lib.hid (And.intro HH.out hc)
              clear hc
              go_wp2_with fail
              first | go_ret | skip
              have hval : r = false := HR.out.symm.trans (decide_eq_false (by have hk := HK.out; have hh := HH.out; unfold Qy.ok Qy.base Qy.form; dsimp only; omega))
              refine ⟨by rw [hval]; rfl, ?_⟩
              first | exact K0 | exact keep0 K0 hz0 ((Keep.refl (fun j => j = z) W0).setCell (p := ⟨z, 5, none⟩) _ (.inl rfl)) | exact keep0 K0 hz0 (((Keep.refl (fun j => j = z) W0).setCell (p := ⟨z, 6, none⟩) _ (.inl rfl)).setCell (p := ⟨z, 5, none⟩) _ (.inl rfl))
          · have hb := hc
            replace HH := Lib.hid (And.intro HH.out hc)
            go_wp2_with fail
            first | go_ret | skip
            have hval : r = false := HR.out.symm.trans (decide_eq_false (by have hk := HK.out; have hh := HH.out; unfold Qy.ok Qy.base Qy.form; dsimp only; omega))
            refine ⟨by rw [hval]; rfl, ?_⟩
            first | exact K0 | exact keep0 K0 hz0 ((Keep.refl (fun j => j = z) W0).setCell (p := ⟨z, 5, none⟩) _ (.inl rfl)) | exact keep0 K0 hz0 (((Keep.refl (fun j => j = z) W0).setCell (p := ⟨z, 6, none⟩) _ (.inl rfl)).setCell (p := ⟨z, 5, none⟩) _ (.inl rfl))
        · rw [decide_eq_false hc]
          replace HH := Lib.hid (And.intro HH.out hc)
          clear hc
          go_wp2_with fail
          first | go_ret | skip
          have hval : r = false := HR.out.symm.trans (decide_eq_false (by have hk := HK.out; have hh := HH.out; unfold Qy.ok Qy.base Qy.form; dsimp only; omega))
          refine ⟨by rw [hval]; rfl, ?_⟩
          first | exact K0 | exact keep0 K0 hz0 ((Keep.refl (fun j => j = z) W0).setCell (p := ⟨z, 5, none⟩) _ (.inl rfl)) | exact keep0 K0 hz0 (((Keep.refl (fun j => j = z) W0).setCell (p := ⟨z, 6, none⟩) _ (.inl rfl)).setCell (p := ⟨z, 5, none⟩) _ (.inl rfl))
      · rw [decide_eq_false hc]
        replace HH := Lib.hid (And.intro HH.out hc)
        clear hc
        go_wp2_with fail
        first | go_ret | skip
        have hval : r = false := HR.out.symm.trans (decide_eq_false (by have hk := HK.out; have hh := HH.out; unfold Qy.ok Qy.base Qy.form; dsimp only; omega))
        refine ⟨by rw [hval]; rfl, ?_⟩
        first | exact K0 | exact keep0 K0 hz0 ((Keep.refl (fun j => j = z) W0).setCell (p := ⟨z, 5, none⟩) _ (.inl rfl)) | exact keep0 K0 hz0 (((Keep.refl (fun j => j = z) W0).setCell (p := ⟨z, 6, none⟩) _ (.inl rfl)).setCell (p := ⟨z, 5, none⟩) _ (.inl rfl))
    · rw [decide_eq_false hc]
      replace HH := Lib.hid (And.intro HH.out hc)
      clear hc
      go_wp2_with fail
      first | go_ret | skip
      have hval : r = false := HR.out.symm.trans (decide_eq_false (by have hk := HK.out; have hh := HH.out; unfold Qy.ok Qy.base Qy.form; dsimp only; omega))
      refine ⟨by rw [hval]; rfl, ?_⟩
      first | exact K0 | exact keep0 K0 hz0 ((Keep.refl (fun j => j = z) W0).setCell (p := ⟨z, 5, none⟩) _ (.inl rfl)) | exact keep0 K0 hz0 (((Keep.refl (fun j => j = z) W0).setCell (p := ⟨z, 6, none⟩) _ (.inl rfl)).setCell (p := ⟨z, 5, none⟩) _ (.inl rfl))
  · have HK : Hid ((7 : Int) = 7) := Lib.hid rfl
    go_wp2_with fail
    with_reducible refine (within_any ..).mono ?_
    rintro e W5 ⟨rfl, rfl⟩
    by_cases hc : 0 ≤ tb ∧ tb ≤ 3
    · rw [decide_eq_true hc]
      replace HH := Lib.hid (And.intro HH.out hc)
      clear hc
      go_wp2_with fail
      with_reducible refine (within_any ..).mono ?_
      rintro e W5 ⟨rfl, rfl⟩
      by_cases hc : 0 ≤ cl ∧ cl ≤ 3
      · rw [decide_eq_true hc]
        replace HH := Lib.hid (And.intro HH.out hc)
        clear hc
        go_wp2_with fail
        with_reducible refine (within_any ..).mono ?_
        rintro e W5 ⟨rfl, rfl⟩
        by_cases hc : -1000000000 ≤ lo ∧ lo ≤ hi
        · rw [decide_eq_true hc]
          replace HH := Lib.hid (And.intro HH.out hc)
          clear hc
          by_cases hc : hi ≤ 1000000000
          · have hb := hc
            replace HH := Lib.hid (And.intro HH.out hc)
            go_wp2_with fail
            with_reducible refine (within_any ..).mono ?_
            rintro e W5 ⟨rfl, rfl⟩
            by_cases hc : 0 ≤ ot ∧ ot ≤ 3
            · rw [decide_eq_true hc]
              replace HH := Lib.hid (And.intro HH.out hc)
              clear hc
              go_wp2_with fail
              with_reducible refine (within_any ..).mono ?_
              rintro e W5 ⟨rfl, rfl⟩
              by_cases hc : 1 ≤ bb ∧ bb ≤ 3
              · rw [decide_eq_true hc]
                replace HH := Lib.hid (And.intro HH.out hc)
                clear hc
                go_wp2_with fail
                first | go_ret | skip
                have hval : r = true := HR.out.symm.trans (decide_eq_true (by have hk := HK.out; have hh := HH.out; unfold Qy.ok Qy.base Qy.form; dsimp only; omega))
                refine ⟨by rw [hval]; rfl, ?_⟩
                first | exact K0 | exact keep0 K0 hz0 ((Keep.refl (fun j => j = z) W0).setCell (p := ⟨z, 5, none⟩) _ (.inl rfl)) | exact keep0 K0 hz0 (((Keep.refl (fun j => j = z) W0).setCell (p := ⟨z, 6, none⟩) _ (.inl rfl)).setCell (p := ⟨z, 5, none⟩) _ (.inl rfl))
              · rw [decide_eq_false hc]
                replace HH := Lib.hid (And.intro HH.out hc)
                clear hc
                go_wp2_with fail
                first | go_ret | skip
                have hval : r = false := HR.out.symm.trans (decide_eq_false (by have hk := HK.out; have hh := HH.out; unfold Qy.ok Qy.base Qy.form; dsimp only; omega))
                refine ⟨by rw [hval]; rfl, ?_⟩
                first | exact K0 | exact keep0 K0 hz0 ((Keep.refl (fun j => j = z) W0).setCell (p := ⟨z, 5, none⟩) _ (.inl rfl)) | exact keep0 K0 hz0 (((Keep.refl (fun j => j = z) W0).setCell (p := ⟨z, 6, none⟩) _ (.inl rfl)).setCell (p := ⟨z, 5, none⟩) _ (.inl rfl))
            · rw [decide_eq_false hc]
              replace HH := Lib.hid (And.intro HH.out hc)
              clear hc
              go_wp2_with fail
              first | go_ret | skip
              have hval : r = false := HR.out.symm.trans (decide_eq_false (by have hk := HK.out; have hh := HH.out; unfold Qy.ok Qy.base Qy.form; dsimp only; omega))
              refine ⟨by rw [hval]; rfl, ?_⟩
              first | exact K0 | exact keep0 K0 hz0 ((Keep.refl (fun j => j = z) W0).setCell (p := ⟨z, 5, none⟩) _ (.inl rfl)) | exact keep0 K0 hz0 (((Keep.refl (fun j => j = z) W0).setCell (p := ⟨z, 6, none⟩) _ (.inl rfl)).setCell (p := ⟨z, 5, none⟩) _ (.inl rfl))
          · have hb := hc
            replace HH := Lib.hid (And.intro HH.out hc)
            go_wp2_with fail
            first | go_ret | skip
            have hval : r = false := HR.out.symm.trans (decide_eq_false (by have hk := HK.out; have hh := HH.out; unfold Qy.ok Qy.base Qy.form; dsimp only; omega))
            refine ⟨by rw [hval]; rfl, ?_⟩
            first | exact K0 | exact keep0 K0 hz0 ((Keep.refl (fun j => j = z) W0).setCell (p := ⟨z, 5, none⟩) _ (.inl rfl)) | exact keep0 K0 hz0 (((Keep.refl (fun j => j = z) W0).setCell (p := ⟨z, 6, none⟩) _ (.inl rfl)).setCell (p := ⟨z, 5, none⟩) _ (.inl rfl))
        · rw [decide_eq_false hc]
          replace HH := Lib.hid (And.intro HH.out hc)
          clear hc
          go_wp2_with fail
          first | go_ret | skip
          have hval : r = false := HR.out.symm.trans (decide_eq_false (by have hk := HK.out; have hh := HH.out; unfold Qy.ok Qy.base Qy.form; dsimp only; omega))
          refine ⟨by rw [hval]; rfl, ?_⟩
          first | exact K0 | exact keep0 K0 hz0 ((Keep.refl (fun j => j = z) W0).setCell (p := ⟨z, 5, none⟩) _ (.inl rfl)) | exact keep0 K0 hz0 (((Keep.refl (fun j => j = z) W0).setCell (p := ⟨z, 6, none⟩) _ (.inl rfl)).setCell (p := ⟨z, 5, none⟩) _ (.inl rfl))
      · rw [decide_eq_false hc]
        replace HH := Lib.hid (And.intro HH.out hc)
        clear hc
        go_wp2_with fail
        first | go_ret | skip
        have hval : r = false := HR.out.symm.trans (decide_eq_false (by have hk := HK.out; have hh := HH.out; unfold Qy.ok Qy.base Qy.form; dsimp only; omega))
        refine ⟨by rw [hval]; rfl, ?_⟩
        first | exact K0 | exact keep0 K0 hz0 ((Keep.refl (fun j => j = z) W0).setCell (p := ⟨z, 5, none⟩) _ (.inl rfl)) | exact keep0 K0 hz0 (((Keep.refl (fun j => j = z) W0).setCell (p := ⟨z, 6, none⟩) _ (.inl rfl)).setCell (p := ⟨z, 5, none⟩) _ (.inl rfl))
    · rw [decide_eq_false hc]
      replace HH := Lib.hid (And.intro HH.out hc)
      clear hc
      go_wp2_with fail
      first | go_ret | skip
      have hval : r = false := HR.out.symm.trans (decide_eq_false (by have hk := HK.out; have hh := HH.out; unfold Qy.ok Qy.base Qy.form; dsimp only; omega))
      refine ⟨by rw [hval]; rfl, ?_⟩
      first | exact K0 | exact keep0 K0 hz0 ((Keep.refl (fun j => j = z) W0).setCell (p := ⟨z, 5, none⟩) _ (.inl rfl)) | exact keep0 K0 hz0 (((Keep.refl (fun j => j = z) W0).setCell (p := ⟨z, 6, none⟩) _ (.inl rfl)).setCell (p := ⟨z, 5, none⟩) _ (.inl rfl))
  · have HK := Lib.hid hk
    have hb1 : (kd == 1) = false := by simpa using hk.1
    have hb2 : (kd == 2) = false := by simpa using hk.2.1
    have hb3 : (kd == 3) = false := by simpa using hk.2.2.1
    have hb4 : (kd == 4) = false := by simpa using hk.2.2.2.1
    have hb5 : (kd == 5) = false := by simpa using hk.2.2.2.2.1
    have hb6 : (kd == 6) = false := by simpa using hk.2.2.2.2.2.1
    have hb7 : (kd == 7) = false := by simpa using hk.2.2.2.2.2.2
    clear hk
    go_wp2_with fail
    with_reducible refine (within_any ..).mono ?_
    rintro e W5 ⟨rfl, rfl⟩
    by_cases hc : 0 ≤ tb ∧ tb ≤ 3
    · rw [decide_eq_true hc]
      replace HH := Lib.hid (And.intro HH.out hc)
      clear hc
      go_wp2_with fail
      with_reducible refine (within_any ..).mono ?_
      rintro e W5 ⟨rfl, rfl⟩
      by_cases hc : 0 ≤ cl ∧ cl ≤ 3
      · rw [decide_eq_true hc]
        replace HH := Lib.hid (And.intro HH.out hc)
        clear hc
        go_wp2_with fail
        with_reducible refine (within_any ..).mono ?_
        rintro e W5 ⟨rfl, rfl⟩
        by_cases hc : -1000000000 ≤ lo ∧ lo ≤ hi
        · rw [decide_eq_true hc]
          replace HH := Lib.hid (And.intro HH.out hc)
          clear hc
          by_cases hc : hi ≤ 1000000000
          · have hb := hc
            replace HH := Lib.hid (And.intro HH.out hc)
            go_wp2_with fail
            first | go_ret | skip
            have hval : r = false := HR.out.symm.trans (decide_eq_false (by have hk := HK.out; have hh := HH.out; unfold Qy.ok Qy.base Qy.form; dsimp only; omega))
            refine ⟨by rw [hval]; rfl, ?_⟩
            first | exact K0 | exact keep0 K0 hz0 ((Keep.refl (fun j => j = z) W0).setCell (p := ⟨z, 5, none⟩) _ (.inl rfl)) | exact keep0 K0 hz0 (((Keep.refl (fun j => j = z) W0).setCell (p := ⟨z, 6, none⟩) _ (.inl rfl)).setCell (p := ⟨z, 5, none⟩) _ (.inl rfl))
          · have hb := hc
            replace HH := Lib.hid (And.intro HH.out hc)
            go_wp2_with fail
            first | go_ret | skip
            have hval : r = false := HR.out.symm.trans (decide_eq_false (by have hk := HK.out; have hh := HH.out; unfold Qy.ok Qy.base Qy.form; dsimp only; omega))
            refine ⟨by rw [hval]; rfl, ?_⟩
            first | exact K0 | exact keep0 K0 hz0 ((Keep.refl (fun j => j = z) W0).setCell (p := ⟨z, 5, none⟩) _ (.inl rfl)) | exact keep0 K0 hz0 (((Keep.refl (fun j => j = z) W0).setCell (p := ⟨z, 6, none⟩) _ (.inl rfl)).setCell (p := ⟨z, 5, none⟩) _ (.inl rfl))
        · rw [decide_eq_false hc]
          replace HH := Lib.hid (And.intro HH.out hc)
          clear hc
          go_wp2_with fail
          first | go_ret | skip
          have hval : r = false := HR.out.symm.trans (decide_eq_false (by have hk := HK.out; have hh := HH.out; unfold Qy.ok Qy.base Qy.form; dsimp only; omega))
          refine ⟨by rw [hval]; rfl, ?_⟩
          first | exact K0 | exact keep0 K0 hz0 ((Keep.refl (fun j => j = z) W0).setCell (p := ⟨z, 5, none⟩) _ (.inl rfl)) | exact keep0 K0 hz0 (((Keep.refl (fun j => j = z) W0).setCell (p := ⟨z, 6, none⟩) _ (.inl rfl)).setCell (p := ⟨z, 5, none⟩) _ (.inl rfl))
      · rw [decide_eq_false hc]
        replace HH := Lib.hid (And.intro HH.out hc)
        clear hc
        go_wp2_with fail
        first | go_ret | skip
        have hval : r = false := HR.out.symm.trans (decide_eq_false (by have hk := HK.out; have hh := HH.out; unfold Qy.ok Qy.base Qy.form; dsimp only; omega))
        refine ⟨by rw [hval]; rfl, ?_⟩
        first | exact K0 | exact keep0 K0 hz0 ((Keep.refl (fun j => j = z) W0).setCell (p := ⟨z, 5, none⟩) _ (.inl rfl)) | exact keep0 K0 hz0 (((Keep.refl (fun j => j = z) W0).setCell (p := ⟨z, 6, none⟩) _ (.inl rfl)).setCell (p := ⟨z, 5, none⟩) _ (.inl rfl))
    · rw [decide_eq_false hc]
      replace HH := Lib.hid (And.intro HH.out hc)
      clear hc
      go_wp2_with fail
      first | go_ret | skip
      have hval : r = false := HR.out.symm.trans (decide_eq_false (by have hk := HK.out; have hh := HH.out; unfold Qy.ok Qy.base Qy.form; dsimp only; omega))
      refine ⟨by rw [hval]; rfl, ?_⟩
      first | exact K0 | exact keep0 K0 hz0 ((Keep.refl (fun j => j = z) W0).setCell (p := ⟨z, 5, none⟩) _ (.inl rfl)) | exact keep0 K0 hz0 (((Keep.refl (fun j => j = z) W0).setCell (p := ⟨z, 6, none⟩) _ (.inl rfl)).setCell (p := ⟨z, 5, none⟩) _ (.inl rfl))
end Go.Proofs.YtmndjicaofciiaaGreatDoor
