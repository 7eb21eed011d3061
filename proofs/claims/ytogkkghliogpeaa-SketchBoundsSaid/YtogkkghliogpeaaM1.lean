/-
  least, within.
-/
import Derived.Test.YtogkkghliogpeaaP5
namespace Go.Proofs.Ytogkkghliogpeaa
open Go.RowKit Go.Shelf

def nm (m : Nat) : ByteArray := nms.getD m ⟨#[]⟩
theorem nm_get {m : Nat} {key : ByteArray} (h : nms[m]? = some key) : nm m = key := by
  unfold nm
  rw [List.getD_eq_getElem?_getD, h]; rfl
theorem nm_mem (m : Nat) (h : m < 10) : nms[m]? = some (nm m) ∧ nm m ∈ nms ∧ (nm m).size ≤ maxLen := by
  obtain ⟨key, h1, h2, h3⟩ := nms_key m h
  rw [nm_get h1]
  exact ⟨h1, h3, h2⟩

/-- The ten numbers as a value. -/
abbrev arrV (c : ByteArray → Int) : Array Value := #[.int .i64 (c (nm 0)), .int .i64 (c (nm 1)), .int .i64 (c (nm 2)), .int .i64 (c (nm 3)), .int .i64 (c (nm 4)), .int .i64 (c (nm 5)), .int .i64 (c (nm 6)), .int .i64 (c (nm 7)), .int .i64 (c (nm 8)), .int .i64 (c (nm 9))]

theorem arr_new (W : World) (c : ByteArray → Int) : ArrIs (W.alloc (.cells #[.int .i64 (c (nm 0)), .int .i64 (c (nm 1)), .int .i64 (c (nm 2)), .int .i64 (c (nm 3)), .int .i64 (c (nm 4)), .int .i64 (c (nm 5)), .int .i64 (c (nm 6)), .int .i64 (c (nm 7)), .int .i64 (c (nm 8)), .int .i64 (c (nm 9))] 52)) W.heap.size c := fun m key hm => by
  have hl : m < 10 := (List.getElem?_eq_some_iff.1 hm).1
  have hh : (W.alloc (.cells ((List.range 10).map (fun m => Value.int .i64 (c (nm m)))).toArray 52)).heap[W.heap.size]? = some (.cells ((List.range 10).map (fun m => Value.int .i64 (c (nm m)))).toArray 52) := World.alloc_heap_new _ _
  change (W.alloc (.cells ((List.range 10).map (fun m => Value.int .i64 (c (nm m)))).toArray 52)).cell? _ = _ ∧ (W.alloc (.cells ((List.range 10).map (fun m => Value.int .i64 (c (nm m)))).toArray 52)).frozen? _ = _
  constructor
  · unfold World.cell?
    simp only [hh]
    rw [List.getElem?_toArray, List.getElem?_map, List.getElem?_range hl, ← nm_get hm]
    rfl
  · unfold World.frozen?; simp only [hh]; simp

set_option maxRecDepth 100000 in
set_option maxHeartbeats 1000000 in
theorem least_law {w : World} {s bm cap : Nat} {L : List C} (h : Sk w s bm cap L) (hl : L.length ≤ 12) :
    Calls Try.prog 41 #[ptr s, .int .i64 cap] w fun e w' => e = .returned (.int .i64 (leastC cap L)) ∧ Keep (fun _ => False) w w' := by
  have HT : Hid (Calls Try.prog 15 #[ptr s, .int .i64 cap] w (TopPost w (L.map ctrOf))) := Lib.hid (by
    have h1 := top_sk h hl cap
    rwa [topC_all L cap h.ok.len] at h1)
  have H := Lib.hid h
  have hc := h.ok.cap1
  have hc2 := h.ok.cap64
  have hln := h.ok.len
  clear h
  go_enter Try.func41, Try.ntmps41
  go_wp2_with fail
  with_reducible refine HT.out.mono ?_
  clear HT
  rintro e W ⟨va, rfl, hown, k⟩
  have HK := Lib.hid k
  obtain ⟨a4, c4, rfl, hcell⟩ := CtrsAt.of_owns hown
  rw [List.length_map]
  clear hown k
  by_cases hlt : L.length < cap
  · have HZ := Lib.hid (leastC_zero hlt)
    clear hcell
    go_wp2_with fail
    go_ret
    exact ⟨by rw [HZ.out]; rfl, HK.out⟩
  · obtain ⟨X, z, hX⟩ : ∃ X z, L = X ++ [z] := by
      rcases List.eq_nil_or_concat L with e | ⟨X, z, e⟩
      · rw [e] at hlt; simp at hlt; omega
      · exact ⟨X, z, by simpa using e⟩
    have hXl : X.length + 1 = L.length := by rw [hX]; simp
    have HZ : Hid (leastC cap L = z.hi) := Lib.hid (by unfold leastC; rw [if_neg hlt, hX]; simp)
    obtain ⟨b4, o4, rfl, _, hc1, _⟩ := hcell X.length (ctrOf z) (by rw [hX]; simp)
    have hc1' : W.cell? ⟨b4, o4 + X.length * 3 + 1, none⟩ = some (.int .i64 z.hi) := hc1
    obtain rfl : cap = X.length + 1 := by omega
    rw [← hXl]
    obtain ⟨xl, hxl⟩ : ∃ xl, xl = X.length := ⟨_, rfl⟩
    rw [← hxl] at hc1' hc hc2 ⊢
    clear hX hXl hcell hc1 hlt hln hxl
    have hwr : IntKind.i64.wrap (xl : Int) = (xl : Int) := by rw [IntKind.wrap_i64]; omega
    have h0 : (0 : Int) ≤ (xl : Int) := by omega
    go_wp2_with fail
    go_ret
    exact ⟨by rw [HZ.out]; rfl, HK.out⟩

theorem total_q {w : World} {s bm cap : Nat} {L : List C} (h : Sk w s bm cap L) : Calls Try.prog 16 #[ptr s] w fun e w' => e = .returned (.int .i64 (sumH L)) ∧ w' = w := (total_sk h).mono fun _ _ ⟨a, b⟩ => ⟨a, b.symm⟩

set_option maxRecDepth 100000 in
set_option maxHeartbeats 4000000 in
theorem within_sk {w : World} {s bm cap : Nat} {L : List C} (h : Sk w s bm cap L) (hl : L.length ≤ 12) (c : ByteArray → Int) (hb : Bd cap L c) (hsm : sumH L ≤ 1000000000000000) :
    Calls Try.prog 28 #[ptr s, .int .i64 cap, .agg #[.int .i64 (c (nm 0)), .int .i64 (c (nm 1)), .int .i64 (c (nm 2)), .int .i64 (c (nm 3)), .int .i64 (c (nm 4)), .int .i64 (c (nm 5)), .int .i64 (c (nm 6)), .int .i64 (c (nm 7)), .int .i64 (c (nm 8)), .int .i64 (c (nm 9))]] w fun e w' => e = .returned (.bool true) ∧ Keep (fun _ => False) w w' := by
  have HA := Lib.hid (arr_new w c)
  have k1 := (Keep.refl (fun _ => False) w).alloc (.cells #[.int .i64 (c (nm 0)), .int .i64 (c (nm 1)), .int .i64 (c (nm 2)), .int .i64 (c (nm 3)), .int .i64 (c (nm 4)), .int .i64 (c (nm 5)), .int .i64 (c (nm 6)), .int .i64 (c (nm 7)), .int .i64 (c (nm 8)), .int .i64 (c (nm 9))] 52)
  have HK := Lib.hid k1
  have H := Lib.hid (h.keep k1 (fun h => h) (fun h => h))
  have HB := Lib.hid hb
  have hc64 := h.ok.cap64
  have hl0 := h.ok.least
  clear h k1 hb
  go_enter Try.func28, Try.ntmps28
  go_wp2_with fail
  generalize w.alloc (.cells #[.int .i64 (c (nm 0)), .int .i64 (c (nm 1)), .int .i64 (c (nm 2)), .int .i64 (c (nm 3)), .int .i64 (c (nm 4)), .int .i64 (c (nm 5)), .int .i64 (c (nm 6)), .int .i64 (c (nm 7)), .int .i64 (c (nm 8)), .int .i64 (c (nm 9))] 52) = W at *
  with_reducible refine (least_law H.out hl).mono ?_
  rintro e W1 ⟨rfl, k1⟩
  have HK1 := Lib.hid (HK.out.trans k1)
  have H1 := Lib.hid (H.out.keep k1 (fun h => h) (fun h => h))
  have HA1 := Lib.hid (HA.out.keep k1 (fun h => h))
  clear k1 HK H HA
  go_wp2_with fail
  go_loopg [8] 10 (fun gh vi wr => ∃ i : Nat, vi = .int .i64 i ∧ i ≤ 10 ∧ 10 ≤ gh + i ∧ Keep (fun _ => False) w wr ∧ Sk wr s bm cap L ∧ ArrIs wr w.heap.size c)
  case atStart => exact ⟨0, rfl, by omega, by omega, HK1.out, H1.out, HA1.out⟩
  case round =>
    clear HK1 H1 HA1
    obtain ⟨i, rfl, hi10, hgh, hk, hsk, har⟩ := hrel
    have HK := Lib.hid hk
    have H := Lib.hid hsk
    have HA := Lib.hid har
    clear hk hsk har
    by_cases hi : i < 10
    · have hiz : (i : Int) < 10 := by omega
      have hi0 : (0 : Int) ≤ (i : Int) := by omega
      have HNM := Lib.hid (nm_mem i hi)
      go_wp2_with fail
      with_reducible refine (names_any _).mono ?_
      rintro e W2 ⟨nb, rfl, hnb, k2, hc2⟩
      have hcn := hc2 i (nm i) HNM.out.1
      have HK2 := Lib.hid (HK.out.trans k2)
      have H2 := Lib.hid (H.out.keep k2 (fun h => h) (fun h => h))
      have HA2 := Lib.hid (HA.out.keep k2 (fun h => h))
      clear hnb k2 hc2
      go_wp2_with fail
      with_reducible refine (get_sk H2.out (nm i) HNM.out.2.2).mono ?_
      rintro e W3 ⟨rfl, k3⟩
      have HK3 := Lib.hid (HK2.out.trans k3)
      have H3 := Lib.hid (H2.out.keep k3 (fun h => h) (fun h => h))
      have HA3 := Lib.hid (HA2.out.keep k3 (fun h => h))
      clear k3 hcn HK2 H2 HA2
      have hbd := HB.out (nm i) HNM.out.2.1
      cases hat : atC L (nm i) with
      | some y =>
        obtain ⟨hyL, hyk⟩ := atC_some hat
        have hv : getV L (nm i) = .tuple #[ctrV (nm i) y.hi (y.hi - y.lo), .bool true] := by unfold getV; rw [hat]
        rw [hv]
        have hp := H.out.ok.pos y hyL
        have hms := H.out.ok.mem hyL
        have hlo : loOf L (nm i) = y.lo := by unfold loOf; rw [hat]
        have hhi : Ytogkkghliogpeaa.ofHi cap L (nm i) = y.hi := by unfold Ytogkkghliogpeaa.ofHi; rw [hat]
        rw [hlo, hhi] at hbd
        clear hv hat hyL hyk hlo hhi
        go_wp2_with fail
        obtain ⟨e0, e1, e2, _⟩ := three_cell W3 (.string (nm i)) (.int .i64 y.hi) (.int .i64 (y.hi - y.lo)) 37
        have k4 := (Keep.refl (fun _ => False) W3).alloc (.cells #[.string (nm i), .int .i64 y.hi, .int .i64 (y.hi - y.lo)] 37)
        have HK4 := Lib.hid (HK3.out.trans k4)
        have H4 := Lib.hid (H3.out.keep k4 (fun h => h) (fun h => h))
        have HA4 := Lib.hid (HA3.out.keep k4 (fun h => h))
        generalize W3.alloc (.cells #[.string (nm i), .int .i64 y.hi, .int .i64 (y.hi - y.lo)] 37) = W4 at *
        generalize W3.heap.size = cb at *
        have x0 := (HA4.out i (nm i) HNM.out.1).1
        generalize c (nm i) = cc at *
        clear e0 k4 HK3 H3 HA3
        have q1 : ¬ y.hi < cc := by omega
        have q2 : ¬ cc < y.hi - (y.hi - y.lo) := by omega
        have q2' : ¬ cc < y.lo := by omega
        have q3 : ¬ y.hi - y.lo < 0 := by omega
        have q4 : ¬ y.hi < y.lo := by omega
        have q5 : y.hi - (y.hi - y.lo) = y.lo := by omega
        go_quiet (fail)
        have kq := (Keep.refl (fun _ => False) W4).drewN nq
        have HK5 := Lib.hid (HK4.out.trans kq)
        have H5 := Lib.hid (H4.out.keep kq (fun h => h) (fun h => h))
        have HA5 := Lib.hid (HA4.out.keep kq (fun h => h))
        clear kq x0 e1 e2 HK4 H4 HA4 q1 q2 q2' q3 q4 q5
        generalize W4.drewN nq = W5 at *
        go_wp2_with fail
        go_quiet (fail)
        have kq := (Keep.refl (fun _ => False) W5).drewN nq
        have HK6 := Lib.hid (HK5.out.trans kq)
        have H6 := Lib.hid (H5.out.keep kq (fun h => h) (fun h => h))
        have HA6 := Lib.hid (HA5.out.keep kq (fun h => h))
        clear kq HK5 H5 HA5
        generalize W5.drewN nq = W6 at *
        go_wp2_with fail
        go_roundg (10 - (i + 1))
        case rel => exact ⟨i + 1, by go_num, by omega, by omega, HK6.out, H6.out, HA6.out⟩
        case measure => omega
      | none =>
        have hv : getV L (nm i) = .tuple #[ctrV ⟨#[]⟩ 0 0, .bool false] := by unfold getV; rw [hat]
        rw [hv]
        rw [loOf_none hat, ofHi_none hat] at hbd
        have hfs := full_sum H.out.ok
        have hmul : c (nm i) * cap ≤ leastC cap L * cap := Int.mul_le_mul_of_nonneg_right hbd.2 (by omega)
        have hmul0 : 0 ≤ c (nm i) * cap := Int.mul_nonneg hbd.1 (by omega)
        clear hv hat
        go_wp2_with fail
        have k4 := (Keep.refl (fun _ => False) W3).alloc (.cells #[.string ⟨#[]⟩, .int .i64 0, .int .i64 0] 37)
        have HK4 := Lib.hid (HK3.out.trans k4)
        have H4 := Lib.hid (H3.out.keep k4 (fun h => h) (fun h => h))
        have HA4 := Lib.hid (HA3.out.keep k4 (fun h => h))
        generalize W3.alloc (.cells #[.string ⟨#[]⟩, .int .i64 0, .int .i64 0] 37) = W4 at *
        generalize W3.heap.size = cb at *
        have HX0 : Hid (∀ W, ArrIs W w.heap.size c → W.cell? ⟨w.heap.size, i, none⟩ = some (.int .i64 (c (nm i)))) := Lib.hid (fun W h => (h i (nm i) HNM.out.1).1)
        have x0 := HX0.out _ HA4.out
        generalize c (nm i) = cc at *
        clear k4 HK3 H3 HA3
        have q1 : ¬ leastC cap L < cc := by omega
        go_quiet (fail)
        have kq := (Keep.refl (fun _ => False) W4).drewN nq
        have HK5 := Lib.hid (HK4.out.trans kq)
        have H5 := Lib.hid (H4.out.keep kq (fun h => h) (fun h => h))
        have HA5 := Lib.hid (HA4.out.keep kq (fun h => h))
        clear kq x0 HK4 H4 HA4
        generalize W4.drewN nq = W5 at *
        have x0 := HX0.out _ HA5.out
        have q2 : ¬ sumH L < cc * cap := by omega
        have q3 : IntKind.i64.wrap (cc * cap) = cc * cap := by rw [IntKind.wrap_i64]; omega
        go_wp2_with fail
        go_quiet ((go_at_call 16; exact Calls.quiet_of_same (total_q (H5.out.keep ((Keep.refl (fun _ => False) W5).drewN _) (fun h => h) (fun h => h)))))
        have kq := (Keep.refl (fun _ => False) W5).drewN nq
        have HK6 := Lib.hid (HK5.out.trans kq)
        have H6 := Lib.hid (H5.out.keep kq (fun h => h) (fun h => h))
        have HA6 := Lib.hid (HA5.out.keep kq (fun h => h))
        clear kq HK5 H5 HA5 x0
        generalize W5.drewN nq = W6 at *
        go_wp2_with fail
        go_roundg (10 - (i + 1))
        case rel => exact ⟨i + 1, by go_num, by omega, by omega, HK6.out, H6.out, HA6.out⟩
        case measure => omega
    · have hiz : ¬ (i : Int) < 10 := by omega
      go_wp2_with fail
      go_ret
      exact ⟨rfl, HK.out⟩
end Go.Proofs.Ytogkkghliogpeaa
