/-
  Parse, Scan of package query.
-/
import Derived.Test.YtmndjicaofciiaaGreatDoorW13
namespace Go.Proofs.YtmndjicaofciiaaGreatDoor
open Go.RowKit Go.Shelf Go.Extern Go.Stop

theorem QBox.put {W : World} {z2 : Nat} {qa : Qy} (h : QBox W z2 qa) (x0 x1 x2 x3 x4 x5 x6 : Int) : QBox (((((((W.setCell ⟨z2, 0, none⟩ (.int .i64 x0)).setCell ⟨z2, 1, none⟩ (.int .i64 x1)).setCell ⟨z2, 2, none⟩ (.int .i64 x2)).setCell ⟨z2, 3, none⟩ (.int .i64 x3)).setCell ⟨z2, 4, none⟩ (.int .i64 x4)).setCell ⟨z2, 5, none⟩ (.int .i64 x5)).setCell ⟨z2, 6, none⟩ (.int .i64 x6)) z2 ⟨x0, x1, x2, x3, x4, x5, x6⟩ ∧ Keep (fun j => j = z2) W (((((((W.setCell ⟨z2, 0, none⟩ (.int .i64 x0)).setCell ⟨z2, 1, none⟩ (.int .i64 x1)).setCell ⟨z2, 2, none⟩ (.int .i64 x2)).setCell ⟨z2, 3, none⟩ (.int .i64 x3)).setCell ⟨z2, 4, none⟩ (.int .i64 x4)).setCell ⟨z2, 5, none⟩ (.int .i64 x5)).setCell ⟨z2, 6, none⟩ (.int .i64 x6)) := by
  refine ⟨?_, ((((((((Keep.refl (fun j => j = z2) W).setCell (p := ⟨z2, 0, none⟩) _ (.inl rfl)).setCell (p := ⟨z2, 1, none⟩) _ (.inl rfl)).setCell (p := ⟨z2, 2, none⟩) _ (.inl rfl)).setCell (p := ⟨z2, 3, none⟩) _ (.inl rfl)).setCell (p := ⟨z2, 4, none⟩) _ (.inl rfl)).setCell (p := ⟨z2, 5, none⟩) _ (.inl rfl)).setCell (p := ⟨z2, 6, none⟩) _ (.inl rfl))⟩
  have h2 := (((((((h.set 0 (by decide) x0).set 1 (by decide) x1).set 2 (by decide) x2).set 3 (by decide) x3).set 4 (by decide) x4).set 5 (by decide) x5).set 6 (by decide) x6)
  obtain ⟨kd, tb, cl, lo, hi, bb, ot⟩ := qa
  exact h2
def q0 : Qy := ⟨0, 0, 0, 0, 0, 0, 0⟩
theorem q0_bad : ¬ q0.ok := by decide
/-- What Parse answers. -/
def ansQ (o : Option Qy) : Qy := match o with | some q => q | none => q0
def ansE (o : Option Qy) : Int := match o with | some _ => 0 | none => 50
def ParsePost (s : ByteArray) (w : World) (e : Ending) (w' : World) : Prop := e = .returned (.tuple #[qV (ansQ (parseS s.data.toList)), .int .i64 (ansE (parseS s.data.toList))]) ∧ Keep (fun _ => False) w w'
theorem parseS_raw (s : ByteArray) : parseS s.data.toList = match parseRaw s with | some q => if q.ok ∧ lineL q = s.data.toList then some q else none | none => none := rfl
set_option maxRecDepth 100000 in
set_option maxHeartbeats 4000000 in
theorem parseQ_any (p : Addr) (s : ByteArray) (w : World) (hs : s.size ≤ 100000) (hE : Env p w) : Calls Tryz.prog 13 #[.string s] w (ParsePost s w) := by
  have HE := Lib.hid hE
  have HS := Lib.hid hs
  have ka : Keep (fun _ => False) w (w.alloc (.cells #[.int .i64 0, .int .i64 0, .int .i64 0, .int .i64 0, .int .i64 0, .int .i64 0, .int .i64 0] 24)) := (Keep.refl _ w).alloc _
  have HQ0 : Hid (QBox (w.alloc (.cells #[.int .i64 0, .int .i64 0, .int .i64 0, .int .i64 0, .int .i64 0, .int .i64 0, .int .i64 0] 24)) w.heap.size q0) := Lib.hid (QBox.new w q0 24)
  have HK0 := Lib.hid ka
  unfold ParsePost
  obtain ⟨pq, hpq⟩ : ∃ q, parseS s.data.toList = q := ⟨_, rfl⟩
  have HPQ := Lib.hid hpq
  rw [hpq]
  clear ka hE hs hpq
  go_enter Tryz.func13, Tryz.ntmps13
  go_upto_region 1 with (fail)
  generalize w.alloc (.cells #[.int .i64 0, .int .i64 0, .int .i64 0, .int .i64 0, .int .i64 0, .int .i64 0, .int .i64 0] 24) = V0 at *
  obtain ⟨z2, hz2⟩ : ∃ z, w.heap.size = z := ⟨_, rfl⟩
  have HZ2 := Lib.hid hz2
  rw [hz2] at HQ0 ⊢
  clear hz2
  have HE0 := Lib.hid (HE.out.kept HK0.out)
  go_wp2_with fail
  with_reducible refine (parse_any p s V0 HS.out HE0.out).mono ?_
  rintro e V1 ⟨⟨q, hraw, rfl⟩ | ⟨hraw, rfl⟩, k1⟩
  · have HRAW := Lib.hid hraw
    have HQ1 := Lib.hid (HQ0.out.kept k1)
    have HK1 := Lib.hid (HK0.out.trans k1)
    clear hraw k1 HQ0
    have ka : Keep (fun _ => False) V1 (V1.alloc (.cells #[.int .i64 q.kd, .int .i64 q.tb, .int .i64 q.cl, .int .i64 q.lo, .int .i64 q.hi, .int .i64 q.bb, .int .i64 q.ot] 24)) := (Keep.refl _ V1).alloc _
    have HQ4 := Lib.hid (QBox.new V1 q 24)
    have HQ2 := Lib.hid (HQ1.out.kept ka)
    have HK2 := Lib.hid (HK1.out.trans ka)
    clear ka HQ1 HK1
    go_upto_region 2 with (fail)
    generalize V1.alloc (.cells #[.int .i64 q.kd, .int .i64 q.tb, .int .i64 q.cl, .int .i64 q.lo, .int .i64 q.hi, .int .i64 q.bb, .int .i64 q.ot] 24) = V2 at *
    generalize V1.heap.size = z4 at *
    have HPR := Lib.hid (print_any q V2 (HE.out.kept HK2.out).pow)
    obtain ⟨c0, c1, c2, c3, c4, c5, c6⟩ := HQ4.out.cells
    go_wp2_with fail
    clear c0 c1 c2 c3 c4 c5 c6
    with_reducible refine HPR.out.mono ?_
    clear HPR
    rintro e V3 ⟨rfl, k3⟩
    have HQ43 := Lib.hid (HQ4.out.kept k3)
    have HQ23 := Lib.hid (HQ2.out.kept k3)
    have HK3 := Lib.hid (HK2.out.trans k3)
    clear k3 HQ4 HQ2 HK2
    by_cases hok : q.ok
    · rw [if_pos hok, if_pos hok]
      have HLS := Lib.hid (bs_list (lineL q))
      by_cases hl : lineL q = s.data.toList
      · have HP1 : Hid (pq = some q) := Lib.hid (by rw [← HPQ.out, parseS_raw, HRAW.out]; simp only []; rw [if_pos ⟨hok, hl⟩])
        have hb : ((bs (lineL q)).toList == s.toList) = true := by rw [str_beq, HLS.out]; simpa using hl
        have hbn : ((bs (lineL q)).toList != s.toList) = false := by rw [bne, hb]; rfl
        clear hok hl
        generalize bs (lineL q) = sl at *
        obtain ⟨c0, c1, c2, c3, c4, c5, c6⟩ := HQ43.out.cells
        obtain ⟨d0, d1, d2, d3, d4, d5, d6⟩ := HQ23.out.cells
        have hfz := HQ23.out.2
        go_wp2_with fail
        clear d0 d1 d2 d3 d4 d5 d6 hfz
        have hput := QBox.put HQ23.out q.kd q.tb q.cl q.lo q.hi q.bb q.ot
        have HKE : Hid (Keep (fun _ => False) w (((((((V3.setCell ⟨z2, 0, none⟩ (.int .i64 q.kd)).setCell ⟨z2, 1, none⟩ (.int .i64 q.tb)).setCell ⟨z2, 2, none⟩ (.int .i64 q.cl)).setCell ⟨z2, 3, none⟩ (.int .i64 q.lo)).setCell ⟨z2, 4, none⟩ (.int .i64 q.hi)).setCell ⟨z2, 5, none⟩ (.int .i64 q.bb)).setCell ⟨z2, 6, none⟩ (.int .i64 q.ot))) := Lib.hid (HK3.out.trans' hput.2 (fun j e => .inr (by have h5 : j = z2 := e; have := HZ2.out; omega)))
        obtain ⟨d0, d1, d2, d3, d4, d5, d6⟩ := hput.1.cells
        simp only at d0 d1 d2 d3 d4 d5 d6
        clear hput
        generalize (((((((V3.setCell ⟨z2, 0, none⟩ (.int .i64 q.kd)).setCell ⟨z2, 1, none⟩ (.int .i64 q.tb)).setCell ⟨z2, 2, none⟩ (.int .i64 q.cl)).setCell ⟨z2, 3, none⟩ (.int .i64 q.lo)).setCell ⟨z2, 4, none⟩ (.int .i64 q.hi)).setCell ⟨z2, 5, none⟩ (.int .i64 q.bb)).setCell ⟨z2, 6, none⟩ (.int .i64 q.ot)) = W9 at *
        refine bodyPost_ret (v := .tuple #[qV q, .int .i64 0]) (by simp [results, Tryz.results13, go_sem, d0, d1, d2, d3, d4, d5, d6]) rfl ?_
        exact ⟨by rw [HP1.out]; rfl, HKE.out⟩
      · have HP1 : Hid (pq = none) := Lib.hid (by rw [← HPQ.out, parseS_raw, HRAW.out]; simp only []; rw [if_neg (fun h => hl h.2)])
        have hb : ((bs (lineL q)).toList == s.toList) = false := by rw [str_beq, HLS.out]; simpa using hl
        have hbn : ((bs (lineL q)).toList != s.toList) = true := by rw [bne, hb]; rfl
        clear hok hl
        generalize bs (lineL q) = sl at *
        obtain ⟨d0, d1, d2, d3, d4, d5, d6⟩ := HQ23.out.cells
        have hfz := HQ23.out.2
        go_wp2_with fail
        clear d0 d1 d2 d3 d4 d5 d6 hfz
        have hput := QBox.put HQ23.out 0 0 0 0 0 0 0
        have HKE : Hid (Keep (fun _ => False) w (((((((V3.setCell ⟨z2, 0, none⟩ (.int .i64 0)).setCell ⟨z2, 1, none⟩ (.int .i64 0)).setCell ⟨z2, 2, none⟩ (.int .i64 0)).setCell ⟨z2, 3, none⟩ (.int .i64 0)).setCell ⟨z2, 4, none⟩ (.int .i64 0)).setCell ⟨z2, 5, none⟩ (.int .i64 0)).setCell ⟨z2, 6, none⟩ (.int .i64 0))) := Lib.hid (HK3.out.trans' hput.2 (fun j e => .inr (by have h5 : j = z2 := e; have := HZ2.out; omega)))
        obtain ⟨d0, d1, d2, d3, d4, d5, d6⟩ := hput.1.cells
        simp only at d0 d1 d2 d3 d4 d5 d6
        clear hput
        generalize (((((((V3.setCell ⟨z2, 0, none⟩ (.int .i64 0)).setCell ⟨z2, 1, none⟩ (.int .i64 0)).setCell ⟨z2, 2, none⟩ (.int .i64 0)).setCell ⟨z2, 3, none⟩ (.int .i64 0)).setCell ⟨z2, 4, none⟩ (.int .i64 0)).setCell ⟨z2, 5, none⟩ (.int .i64 0)).setCell ⟨z2, 6, none⟩ (.int .i64 0)) = W9 at *
        refine bodyPost_ret (v := .tuple #[qV ⟨0, 0, 0, 0, 0, 0, 0⟩, .int .i64 50]) (by simp [results, Tryz.results13, go_sem, d0, d1, d2, d3, d4, d5, d6]) rfl ?_
        exact ⟨by rw [HP1.out]; rfl, HKE.out⟩
    · rw [if_neg hok, if_neg hok]
      have HP1 : Hid (pq = none) := Lib.hid (by rw [← HPQ.out, parseS_raw, HRAW.out]; simp only []; rw [if_neg (fun h => hok h.1)])
      clear hok
      obtain ⟨d0, d1, d2, d3, d4, d5, d6⟩ := HQ23.out.cells
      have hfz := HQ23.out.2
      go_wp2_with fail
      clear d0 d1 d2 d3 d4 d5 d6 hfz
      have hput := QBox.put HQ23.out 0 0 0 0 0 0 0
      have HKE : Hid (Keep (fun _ => False) w (((((((V3.setCell ⟨z2, 0, none⟩ (.int .i64 0)).setCell ⟨z2, 1, none⟩ (.int .i64 0)).setCell ⟨z2, 2, none⟩ (.int .i64 0)).setCell ⟨z2, 3, none⟩ (.int .i64 0)).setCell ⟨z2, 4, none⟩ (.int .i64 0)).setCell ⟨z2, 5, none⟩ (.int .i64 0)).setCell ⟨z2, 6, none⟩ (.int .i64 0))) := Lib.hid (HK3.out.trans' hput.2 (fun j e => .inr (by have h5 : j = z2 := e; have := HZ2.out; omega)))
      obtain ⟨d0, d1, d2, d3, d4, d5, d6⟩ := hput.1.cells
      simp only at d0 d1 d2 d3 d4 d5 d6
      clear hput
      generalize (((((((V3.setCell ⟨z2, 0, none⟩ (.int .i64 0)).setCell ⟨z2, 1, none⟩ (.int .i64 0)).setCell ⟨z2, 2, none⟩ (.int .i64 0)).setCell ⟨z2, 3, none⟩ (.int .i64 0)).setCell ⟨z2, 4, none⟩ (.int .i64 0)).setCell ⟨z2, 5, none⟩ (.int .i64 0)).setCell ⟨z2, 6, none⟩ (.int .i64 0)) = W9 at *
      refine bodyPost_ret (v := .tuple #[qV ⟨0, 0, 0, 0, 0, 0, 0⟩, .int .i64 50]) (by simp [results, Tryz.results13, go_sem, d0, d1, d2, d3, d4, d5, d6]) rfl ?_
      exact ⟨by rw [HP1.out]; rfl, HKE.out⟩
  · have HP1 : Hid (pq = none) := Lib.hid (by rw [← HPQ.out, parseS_raw, hraw])
    have HQ1 := Lib.hid (HQ0.out.kept k1)
    have HK1 := Lib.hid (HK0.out.trans k1)
    clear hraw k1 HQ0
    have ka : Keep (fun _ => False) V1 (V1.alloc (.cells #[.int .i64 0, .int .i64 0, .int .i64 0, .int .i64 0, .int .i64 0, .int .i64 0, .int .i64 0] 24)) := (Keep.refl _ V1).alloc _
    have HQ4 : Hid (QBox (V1.alloc (.cells #[.int .i64 0, .int .i64 0, .int .i64 0, .int .i64 0, .int .i64 0, .int .i64 0, .int .i64 0] 24)) V1.heap.size ⟨0, 0, 0, 0, 0, 0, 0⟩) := Lib.hid (QBox.new V1 ⟨0, 0, 0, 0, 0, 0, 0⟩ 24)
    have HQ2 := Lib.hid (HQ1.out.kept ka)
    have HK2 := Lib.hid (HK1.out.trans ka)
    clear ka HQ1 HK1
    go_upto_region 2 with (fail)
    generalize V1.alloc (.cells #[.int .i64 0, .int .i64 0, .int .i64 0, .int .i64 0, .int .i64 0, .int .i64 0, .int .i64 0] 24) = V2 at *
    generalize V1.heap.size = z4 at *
    have HPR := Lib.hid (print_any ⟨0, 0, 0, 0, 0, 0, 0⟩ V2 (HE.out.kept HK2.out).pow)
    obtain ⟨c0, c1, c2, c3, c4, c5, c6⟩ := HQ4.out.cells
    simp only at c0 c1 c2 c3 c4 c5 c6
    go_wp2_with fail
    clear c0 c1 c2 c3 c4 c5 c6
    with_reducible refine HPR.out.mono ?_
    clear HPR
    rintro e V3 ⟨rfl, k3⟩
    have HQ23 := Lib.hid (HQ2.out.kept k3)
    have HK3 := Lib.hid (HK2.out.trans k3)
    clear k3 HQ4 HQ2 HK2
    have hbad : ¬ Qy.ok ⟨0, 0, 0, 0, 0, 0, 0⟩ := q0_bad
    rw [if_neg hbad, if_neg hbad]
    clear hbad
    obtain ⟨d0, d1, d2, d3, d4, d5, d6⟩ := HQ23.out.cells
    have hfz := HQ23.out.2
    go_wp2_with fail
    clear d0 d1 d2 d3 d4 d5 d6 hfz
    have hput := QBox.put HQ23.out 0 0 0 0 0 0 0
    have HKE : Hid (Keep (fun _ => False) w (((((((V3.setCell ⟨z2, 0, none⟩ (.int .i64 0)).setCell ⟨z2, 1, none⟩ (.int .i64 0)).setCell ⟨z2, 2, none⟩ (.int .i64 0)).setCell ⟨z2, 3, none⟩ (.int .i64 0)).setCell ⟨z2, 4, none⟩ (.int .i64 0)).setCell ⟨z2, 5, none⟩ (.int .i64 0)).setCell ⟨z2, 6, none⟩ (.int .i64 0))) := Lib.hid (HK3.out.trans' hput.2 (fun j e => .inr (by have h5 : j = z2 := e; have := HZ2.out; omega)))
    obtain ⟨d0, d1, d2, d3, d4, d5, d6⟩ := hput.1.cells
    simp only at d0 d1 d2 d3 d4 d5 d6
    clear hput
    generalize (((((((V3.setCell ⟨z2, 0, none⟩ (.int .i64 0)).setCell ⟨z2, 1, none⟩ (.int .i64 0)).setCell ⟨z2, 2, none⟩ (.int .i64 0)).setCell ⟨z2, 3, none⟩ (.int .i64 0)).setCell ⟨z2, 4, none⟩ (.int .i64 0)).setCell ⟨z2, 5, none⟩ (.int .i64 0)).setCell ⟨z2, 6, none⟩ (.int .i64 0)) = W9 at *
    refine bodyPost_ret (v := .tuple #[qV ⟨0, 0, 0, 0, 0, 0, 0⟩, .int .i64 50]) (by simp [results, Tryz.results13, go_sem, d0, d1, d2, d3, d4, d5, d6]) rfl ?_
    exact ⟨by rw [HP1.out]; rfl, HKE.out⟩
end Go.Proofs.YtmndjicaofciiaaGreatDoor
