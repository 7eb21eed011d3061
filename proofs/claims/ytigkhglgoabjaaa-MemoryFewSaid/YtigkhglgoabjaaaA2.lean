/-
  Low walks: take, back.
-/
import Derived.Test.YtigkhglgoabjaaaA1
import Derived.Test.YtigkhglgoabjaaaG2
import Derived.Lib.Hide
namespace Go.Proofs.Ytigkhglgoabjaaa
open Go.RowKit

theorem strKeyed : Maps.Keyed Try.prog 9 := Maps.string_keyed Try.underlying9
theorem keyStr {s : ByteArray} (h : s.size ≤ maxLen) : keyOf Try.prog 9 (.string s) = some (.string s.data.toList) := Go.WideMaps.keyOf_string_mk Try.underlying9 h

set_option maxHeartbeats 400000 in
theorem take_any (p x a c bm bu len cap t : Nat) (key : ByteArray) (va vc : Value) (u f z m u' f' : Int) (R : Value → Value → Prop) (w : World)
    (hb : w.cell? ⟨x, 3, none⟩ = some (.pointer (some ⟨a, 0, none⟩))) (hn : w.cell? ⟨x, 4, none⟩ = some (.pointer (some ⟨c, 0, none⟩)))
    (hp : w.cell? ⟨a, 4, none⟩ = some va) (hq : w.cell? ⟨c, 3, none⟩ = some vc) (fp : w.frozen? ⟨a, 4, none⟩ = false) (fn : w.frozen? ⟨c, 3, none⟩ = false)
    (h8 : w.cell? ⟨p, 8, none⟩ = some (.map (some bm))) (h0 : w.cell? ⟨x, 0, none⟩ = some (.string key)) (hks : key.size ≤ maxLen) (hm : MapRel Try.prog 9 w bm R)
    (ht : t < len)
    (h7 : w.cell? ⟨p, 7, none⟩ = some (.slice (some ⟨bu, 0, none⟩) len cap)) (h9 : w.cell? ⟨p, 9, none⟩ = some (.int .i64 f)) (f9 : w.frozen? ⟨p, 9, none⟩ = false)
    (h1 : w.cell? ⟨x, 1, none⟩ = some (.int .i64 t)) (h2 : w.cell? ⟨x, 2, none⟩ = some (.int .i64 z))
    (hu : w.cell? ⟨bu, t, none⟩ = some (.int .i64 u)) (fu : w.frozen? ⟨bu, t, none⟩ = false)
    (hpb : p ≠ bu) (hxb : x ≠ bu) (hab : a ≠ bu) (hcb : c ≠ bu) (e1 : IntKind.i64.wrap (-1 * z) = m) (e2 : IntKind.i64.wrap (u + m) = u') (e3 : IntKind.i64.wrap (f - m) = f') :
    Calls Try.prog 28 #[.pointer (some ⟨p, 0, none⟩), .pointer (some ⟨x, 0, none⟩)] w fun e w' => e = .returned (.tuple #[]) ∧ 
      ∃ ob k, w' = (((((w.setCell ⟨a, 4, none⟩ (.pointer (some ⟨c, 0, none⟩))).setCell ⟨c, 3, none⟩ (.pointer (some ⟨a, 0, none⟩))).putObj bm ob).setCell ⟨bu, t, none⟩ (.int .i64 u')).setCell ⟨p, 9, none⟩ (.int .i64 f')).drewN k ∧
        MapRel Try.prog 9 w' bm (fun k v => k ≠ .string key ∧ R k v) := by
  have E := Lib.hid (And.intro e1 (And.intro e2 e3)); clear e1 e2 e3
  have hbma := hm.not_cell hp
  have hbmc := hm.not_cell hq
  have hbmx := hm.not_cell h0
  have hbmp := hm.not_cell h8
  have hbmu := hm.not_cell hu
  have HM := Lib.hid hm; clear hm
  go_enter Try.func28, Try.ntmps28
  go_wp2_with (go_at_call 26; refine (unlink_any x a c va vc _ hb hn hp hq fp fn).mono ?_; rintro e w' ⟨rfl, k, rfl⟩)
  obtain ⟨w1, hw1⟩ : ∃ w1, w1 = ((w.setCell ⟨a, 4, none⟩ (.pointer (some ⟨c, 0, none⟩))).setCell ⟨c, 3, none⟩ (.pointer (some ⟨a, 0, none⟩))).drewN k := ⟨_, rfl⟩
  rw [← hw1]
  have k8 : w1.cell? ⟨p, 8, none⟩ = some (.map (some bm)) := by subst hw1; exact (cell_set_off (by decide)).trans ((cell_set_off (by decide)).trans h8)
  have k0 : w1.cell? ⟨x, 0, none⟩ = some (.string key) := by subst hw1; exact (cell_set_off (by decide)).trans ((cell_set_off (by decide)).trans h0)
  have k7 : w1.cell? ⟨p, 7, none⟩ = some (.slice (some ⟨bu, 0, none⟩) len cap) := by subst hw1; exact (cell_set_off (by decide)).trans ((cell_set_off (by decide)).trans h7)
  have k9 : w1.cell? ⟨p, 9, none⟩ = some (.int .i64 f) := by subst hw1; exact (cell_set_off (by decide)).trans ((cell_set_off (by decide)).trans h9)
  have k1 : w1.cell? ⟨x, 1, none⟩ = some (.int .i64 t) := by subst hw1; exact (cell_set_off (by decide)).trans ((cell_set_off (by decide)).trans h1)
  have k2 : w1.cell? ⟨x, 2, none⟩ = some (.int .i64 z) := by subst hw1; exact (cell_set_off (by decide)).trans ((cell_set_off (by decide)).trans h2)
  have ku : w1.cell? ⟨bu, t, none⟩ = some (.int .i64 u) := by subst hw1; exact (cell_set_blk hcb).trans ((cell_set_blk hab).trans hu)
  have g9 : w1.frozen? ⟨p, 9, none⟩ = false := by subst hw1; exact (World.frozen?_setCell _ _ _ _).trans ((World.frozen?_setCell _ _ _ _).trans f9)
  have gu : w1.frozen? ⟨bu, t, none⟩ = false := by subst hw1; exact (World.frozen?_setCell _ _ _ _).trans ((World.frozen?_setCell _ _ _ _).trans fu)
  have hm1 : MapRel Try.prog 9 w1.drew bm R := HM.out.of_heap (by subst hw1; exact (heap_set_ne hbmc.symm).trans (heap_set_ne hbma.symm))
  obtain ⟨es', ck', hdel, hm2⟩ := hm1.delete (t := 63) (et := 55) strKeyed Try.underlying63 (keyStr hks) 0
  have HM2 := Lib.hid hm2; clear hm2 hm1 HM hb hn hp hq h8 h0 h7 h9 h1 h2 hu f9 fu fp fn
  have HW := Lib.hid hw1; clear hw1
  go_region
  obtain ⟨w2, hw2⟩ : ∃ w2, w2 = w1.drew.putObj bm (.map es' ck') := ⟨_, rfl⟩
  rw [← hw2]
  have m7 : w2.cell? ⟨p, 7, none⟩ = some (.slice (some ⟨bu, 0, none⟩) len cap) := by subst hw2; exact (cell_put hbmp).trans k7
  have m9 : w2.cell? ⟨p, 9, none⟩ = some (.int .i64 f) := by subst hw2; exact (cell_put hbmp).trans k9
  have m1 : w2.cell? ⟨x, 1, none⟩ = some (.int .i64 t) := by subst hw2; exact (cell_put hbmx).trans k1
  have m2 : w2.cell? ⟨x, 2, none⟩ = some (.int .i64 z) := by subst hw2; exact (cell_put hbmx).trans k2
  have mu : w2.cell? ⟨bu, t, none⟩ = some (.int .i64 u) := by subst hw2; exact (cell_put hbmu).trans ku
  have n9 : w2.frozen? ⟨p, 9, none⟩ = false := by subst hw2; exact (frozen_put hbmp).trans g9
  have nu : w2.frozen? ⟨bu, t, none⟩ = false := by subst hw2; exact (frozen_put hbmu).trans gu
  have HW2 := Lib.hid hw2; clear hw2 k8 k0 k7 k9 k1 k2 ku g9 gu hdel
  go_wp2_with (go_at_call 32; refine (count_any p x bu len cap t u f z (-1) m u' f' _ ht m7 m9 n9 m1 m2 mu nu hpb hxb E.out.1 E.out.2.1 E.out.2.2).mono ?_; rintro e w' ⟨rfl, k', rfl⟩)
  go_end0
  refine ⟨rfl, .map es' ck', k + 1 + k', ?_, ?_⟩
  · have h1 := HW.out; have h2 := HW2.out; subst h1; subst h2; simp only [World.drewN, World.drew, World.setCell, World.putObj, Nat.add_assoc]
  · exact (HW2.out ▸ HM2.out : MapRel Try.prog 9 w2 bm _).of_heap ((heap_set_ne hbmp.symm).trans (heap_set_ne hbmu.symm))

set_option maxHeartbeats 400000 in
theorem back_any (p x a c bm bu len cap t : Nat) (key : ByteArray) (va vc : Value) (u f z m u' f' : Int) (R : Value → Value → Prop) (w : World)
    (hb : w.cell? ⟨x, 3, none⟩ = some (.pointer (some ⟨a, 0, none⟩))) (hn : w.cell? ⟨x, 4, none⟩ = some (.pointer (some ⟨c, 0, none⟩)))
    (hp : w.cell? ⟨a, 4, none⟩ = some va) (hq : w.cell? ⟨c, 3, none⟩ = some vc) (fp : w.frozen? ⟨a, 4, none⟩ = false) (fn : w.frozen? ⟨c, 3, none⟩ = false)
    (h8 : w.cell? ⟨p, 8, none⟩ = some (.map (some bm))) (h0 : w.cell? ⟨x, 0, none⟩ = some (.string key)) (hks : key.size ≤ maxLen) (hm : MapRel Try.prog 9 w bm R)
    (ht : t < len)
    (h7 : w.cell? ⟨p, 7, none⟩ = some (.slice (some ⟨bu, 0, none⟩) len cap)) (h9 : w.cell? ⟨p, 9, none⟩ = some (.int .i64 f)) (f9 : w.frozen? ⟨p, 9, none⟩ = false)
    (h1 : w.cell? ⟨x, 1, none⟩ = some (.int .i64 t)) (h2 : w.cell? ⟨x, 2, none⟩ = some (.int .i64 z))
    (hu : w.cell? ⟨bu, t, none⟩ = some (.int .i64 u)) (fu : w.frozen? ⟨bu, t, none⟩ = false)
    (hpb : p ≠ bu) (hxb : x ≠ bu) (hab : a ≠ bu) (hcb : c ≠ bu) (e1 : IntKind.i64.wrap (1 * z) = m) (e2 : IntKind.i64.wrap (u + m) = u') (e3 : IntKind.i64.wrap (f - m) = f') :
    Calls Try.prog 31 #[.pointer (some ⟨p, 0, none⟩), .pointer (some ⟨x, 0, none⟩)] w fun e w' => e = .returned (.tuple #[]) ∧ 
      ∃ ob k, w' = (((((w.setCell ⟨a, 4, none⟩ (.pointer (some ⟨x, 0, none⟩))).setCell ⟨c, 3, none⟩ (.pointer (some ⟨x, 0, none⟩))).putObj bm ob).setCell ⟨bu, t, none⟩ (.int .i64 u')).setCell ⟨p, 9, none⟩ (.int .i64 f')).drewN k ∧
        MapRel Try.prog 9 w' bm (fun k v => (k = .string key ∧ v = .pointer (some ⟨x, 0, none⟩)) ∨ (k ≠ .string key ∧ R k v)) := by
  have E := Lib.hid (And.intro e1 (And.intro e2 e3)); clear e1 e2 e3
  have hbma := hm.not_cell hp
  have hbmc := hm.not_cell hq
  have hbmx := hm.not_cell h0
  have hbmp := hm.not_cell h8
  have hbmu := hm.not_cell hu
  have HM := Lib.hid hm; clear hm
  go_enter Try.func31, Try.ntmps31
  go_wp2_with (go_at_call 40; refine (link_any x a c va vc _ hb hn hp hq fp fn).mono ?_; rintro e w' ⟨rfl, k, rfl⟩)
  obtain ⟨w1, hw1⟩ : ∃ w1, w1 = ((w.setCell ⟨a, 4, none⟩ (.pointer (some ⟨x, 0, none⟩))).setCell ⟨c, 3, none⟩ (.pointer (some ⟨x, 0, none⟩))).drewN k := ⟨_, rfl⟩
  rw [← hw1]
  have k8 : w1.cell? ⟨p, 8, none⟩ = some (.map (some bm)) := by subst hw1; exact (cell_set_off (by decide)).trans ((cell_set_off (by decide)).trans h8)
  have k0 : w1.cell? ⟨x, 0, none⟩ = some (.string key) := by subst hw1; exact (cell_set_off (by decide)).trans ((cell_set_off (by decide)).trans h0)
  have k7 : w1.cell? ⟨p, 7, none⟩ = some (.slice (some ⟨bu, 0, none⟩) len cap) := by subst hw1; exact (cell_set_off (by decide)).trans ((cell_set_off (by decide)).trans h7)
  have k9 : w1.cell? ⟨p, 9, none⟩ = some (.int .i64 f) := by subst hw1; exact (cell_set_off (by decide)).trans ((cell_set_off (by decide)).trans h9)
  have k1 : w1.cell? ⟨x, 1, none⟩ = some (.int .i64 t) := by subst hw1; exact (cell_set_off (by decide)).trans ((cell_set_off (by decide)).trans h1)
  have k2 : w1.cell? ⟨x, 2, none⟩ = some (.int .i64 z) := by subst hw1; exact (cell_set_off (by decide)).trans ((cell_set_off (by decide)).trans h2)
  have ku : w1.cell? ⟨bu, t, none⟩ = some (.int .i64 u) := by subst hw1; exact (cell_set_blk hcb).trans ((cell_set_blk hab).trans hu)
  have g9 : w1.frozen? ⟨p, 9, none⟩ = false := by subst hw1; exact (World.frozen?_setCell _ _ _ _).trans ((World.frozen?_setCell _ _ _ _).trans f9)
  have gu : w1.frozen? ⟨bu, t, none⟩ = false := by subst hw1; exact (World.frozen?_setCell _ _ _ _).trans ((World.frozen?_setCell _ _ _ _).trans fu)
  have hm1 : MapRel Try.prog 9 w1.drew bm R := HM.out.of_heap (by subst hw1; exact (heap_set_ne hbmc.symm).trans (heap_set_ne hbma.symm))
  obtain ⟨es', ck', hupd, hm2⟩ := hm1.update (t := 63) (et := 55) strKeyed Try.underlying63 (keyStr hks) (.pointer (some ⟨x, 0, none⟩))
  have HM2 := Lib.hid hm2; clear hm2 hm1 HM hb hn hp hq h8 h0 h7 h9 h1 h2 hu f9 fu fp fn
  have HW := Lib.hid hw1; clear hw1
  go_region
  obtain ⟨w2, hw2⟩ : ∃ w2, w2 = w1.drew.putObj bm (.map es' ck') := ⟨_, rfl⟩
  rw [← hw2]
  have m7 : w2.cell? ⟨p, 7, none⟩ = some (.slice (some ⟨bu, 0, none⟩) len cap) := by subst hw2; exact (cell_put hbmp).trans k7
  have m9 : w2.cell? ⟨p, 9, none⟩ = some (.int .i64 f) := by subst hw2; exact (cell_put hbmp).trans k9
  have m1 : w2.cell? ⟨x, 1, none⟩ = some (.int .i64 t) := by subst hw2; exact (cell_put hbmx).trans k1
  have m2 : w2.cell? ⟨x, 2, none⟩ = some (.int .i64 z) := by subst hw2; exact (cell_put hbmx).trans k2
  have mu : w2.cell? ⟨bu, t, none⟩ = some (.int .i64 u) := by subst hw2; exact (cell_put hbmu).trans ku
  have n9 : w2.frozen? ⟨p, 9, none⟩ = false := by subst hw2; exact (frozen_put hbmp).trans g9
  have nu : w2.frozen? ⟨bu, t, none⟩ = false := by subst hw2; exact (frozen_put hbmu).trans gu
  have HW2 := Lib.hid hw2; clear hw2 k8 k0 k7 k9 k1 k2 ku g9 gu hupd
  go_wp2_with (go_at_call 32; refine (count_any p x bu len cap t u f z 1 m u' f' _ ht m7 m9 n9 m1 m2 mu nu hpb hxb E.out.1 E.out.2.1 E.out.2.2).mono ?_; rintro e w' ⟨rfl, k', rfl⟩)
  go_end0
  refine ⟨rfl, .map es' ck', k + 1 + k', ?_, ?_⟩
  · have h1 := HW.out; have h2 := HW2.out; subst h1; subst h2; simp only [World.drewN, World.drew, World.setCell, World.putObj, Nat.add_assoc]
  · exact (HW2.out ▸ HM2.out : MapRel Try.prog 9 w2 bm _).of_heap ((heap_set_ne hbmp.symm).trans (heap_set_ne hbmu.symm))
end Go.Proofs.Ytigkhglgoabjaaa
