/-
  QueryLines: the walk.
-/
import Derived.Test.YtfcfjeieocjllaaDoorU5
import Derived.Test.YtfcfjeieocjllaaDoorW16
import Derived.Laws.IdiomStrings
namespace Go.Proofs.YtfcfjeieocjllaaDoor
open Go.RowKit Go.Shelf Go.Extern Go.Stop

theorem keep_drewN {A : Nat → Prop} {a w : World} (h : Keep A a w) (k : Nat) : Keep A a (w.drewN k) := ⟨h.os, h.tape, h.output, h.size, h.block⟩
/-- The word of a kind and the space behind it. -/
def wordS (k : Nat) : ByteArray := bs (wordK k ++ [32])
theorem words_cell (W : World) (k : Nat) (hk : 1 ≤ k ∧ k ≤ 7) : (W.alloc (.cells #[.string ⟨#[]⟩, .string ⟨#[114, 111, 119, 32]⟩, .string ⟨#[114, 111, 119, 115, 32]⟩, .string ⟨#[99, 111, 117, 110, 116, 32]⟩, .string ⟨#[115, 117, 109, 32]⟩, .string ⟨#[109, 105, 110, 32]⟩, .string ⟨#[109, 97, 120, 32]⟩, .string ⟨#[106, 111, 105, 110, 32]⟩] 9)).cell? ⟨W.heap.size, k, none⟩ = some (.string (wordS k)) := by
  rw [cell_new]
  obtain ⟨h1, h2⟩ := hk
  match k, h1, h2 with
  | 1, _, _ => rfl
  | 2, _, _ => rfl
  | 3, _, _ => rfl
  | 4, _, _ => rfl
  | 5, _, _ => rfl
  | 6, _, _ => rfl
  | 7, _, _ => rfl
theorem line_begins {q : Qy} {k : Nat} (hk : q.kd = (k : Int)) : (wordS k).size ≤ (bs (lineL q)).size ∧ (bs (lineL q)).extract 0 (wordS k).size = wordS k := by
  obtain ⟨r, hr⟩ := line_head q
  have e : (wordS k).size = (wordK q.kd ++ [32]).length := by unfold wordS; rw [bs_size, hk]
  constructor
  · rw [e, bs_size, hr]
    simp
  · rw [extract_bs, e, bs_list, hr, List.drop_zero]
    unfold wordS
    rw [show wordK q.kd ++ 32 :: r = (wordK q.kd ++ [32]) ++ r by simp, List.take_left', hk]
    rfl
theorem line_ten (q : Qy) (j : Nat) (h : j < (bs (lineL q)).size) : (bs (lineL q))[j].toNat ≠ 10 := by
  intro e
  have h2 : j < (lineL q).length := by rwa [bs_size] at h
  have h3 : (bs (lineL q))[j] = (lineL q)[j] := rfl
  exact line_no10 q _ (List.getElem_mem h2) (by
    apply UInt8.toNat_inj.1
    rw [← h3, e]
    rfl)
set_option maxRecDepth 100000 in
set_option maxHeartbeats 8000000 in
theorem lines_law (p : Addr) (q : Qy) (w : World) (hE : Env p w) : Calls Tryd.prog 8 #[qV q] w fun e w' => e = .returned (.bool true) ∧ Keep (fun _ => False) w w' := by
  have HE := Lib.hid hE
  have ka : Keep (fun _ => False) w (w.alloc (.cells #[.int .i64 q.kd, .int .i64 q.tb, .int .i64 q.cl, .int .i64 q.lo, .int .i64 q.hi, .int .i64 q.bb, .int .i64 q.ot] 23)) := (Keep.refl _ w).alloc _
  have HB1 := Lib.hid (QBox.new w q 23)
  have HK1 := Lib.hid ka
  have HPR : Hid (∀ W, Pow W → Calls Tryd.prog 10 #[qV q] W (PrintPost q W)) := Lib.hid (print_any q)
  unfold PrintPost at HPR
  clear hE ka
  go_enter Tryd.func8, Tryd.ntmps8
  go_upto_region 1 with (fail)
  generalize w.alloc (.cells #[.int .i64 q.kd, .int .i64 q.tb, .int .i64 q.cl, .int .i64 q.lo, .int .i64 q.hi, .int .i64 q.bb, .int .i64 q.ot] 23) = V1 at *
  generalize w.heap.size = z1 at *
  go_wp2_with fail
  with_reducible refine (sane05_any p V1 (HE.out.kept HK1.out)).mono ?_
  rintro e V2 ⟨rfl, k⟩
  have HB2 := Lib.hid (HB1.out.kept k)
  have HK2 := Lib.hid (HK1.out.trans k)
  clear k HB1 HK1
  obtain ⟨c0, c1, c2, c3, c4, c5, c6⟩ := HB2.out.cells
  go_wp2_with fail
  clear c0 c1 c2 c3 c4 c5 c6
  with_reducible refine (HPR.out V2 (HE.out.kept HK2.out).pow).mono ?_
  rintro e V3 ⟨rfl, k⟩
  have HB3 := Lib.hid (HB2.out.kept k)
  have HK3 := Lib.hid (HK2.out.trans k)
  clear k HB2 HK2
  by_cases hok : q.ok
  · rw [if_pos hok, if_pos hok]
    obtain ⟨k, hk⟩ : ∃ k : Nat, q.kd = (k : Int) := ⟨q.kd.toNat, by have := hok.kinds; omega⟩
    have hk17 : 1 ≤ k ∧ k ≤ 7 := by have := hok.kinds; omega
    have HLEN : Hid ((bs (lineL q)).size ≤ 42) := Lib.hid (by rw [bs_size]; exact line_len hok)
    have H10 := Lib.hid (line_ten q)
    have HBEG := Lib.hid (line_begins hk)
    clear hok
    generalize bs (lineL q) = s at *
    generalize hws : wordS k = ws at HBEG
    go_upto_region 5 with (fail)
    have HR4 := Lib.hid (words_cell V3 k hk17)
    rw [hws] at HR4
    have ka : Keep (fun _ => False) V3 (V3.alloc (.cells #[.string ⟨#[]⟩, .string ⟨#[114, 111, 119, 32]⟩, .string ⟨#[114, 111, 119, 115, 32]⟩, .string ⟨#[99, 111, 117, 110, 116, 32]⟩, .string ⟨#[115, 117, 109, 32]⟩, .string ⟨#[109, 105, 110, 32]⟩, .string ⟨#[109, 97, 120, 32]⟩, .string ⟨#[106, 111, 105, 110, 32]⟩] 9)) := (Keep.refl _ V3).alloc _
    have HB4 := Lib.hid (HB3.out.kept ka)
    have HK4 := Lib.hid (HK3.out.trans ka)
    clear ka HB3 HK3
    go_upto_region 6 with (fail)
    generalize V3.alloc (.cells #[.string ⟨#[]⟩, .string ⟨#[114, 111, 119, 32]⟩, .string ⟨#[114, 111, 119, 115, 32]⟩, .string ⟨#[99, 111, 117, 110, 116, 32]⟩, .string ⟨#[115, 117, 109, 32]⟩, .string ⟨#[109, 105, 110, 32]⟩, .string ⟨#[109, 97, 120, 32]⟩, .string ⟨#[106, 111, 105, 110, 32]⟩] 9) = V4 at *
    generalize V3.heap.size = z4 at *
    obtain ⟨c0, -⟩ := HB4.out.cells
    rw [hk] at c0
    have r0 := HR4.out
    obtain ⟨b1, b2⟩ := HBEG.out
    have hbe : ((s.extract 0 ws.size).toList == ws.toList) = true := by rw [b2]; simp
    have i1 : (1 : Int) ≤ (k : Int) := by omega
    have i7 : (k : Int) ≤ 7 := by omega
    have i8 : (k : Int) < 8 := by omega
    have i0 : (0 : Int) ≤ (k : Int) := by omega
    have b3 : (ws.size : Int) ≤ (s.size : Int) := by omega
    have b4 : (0 : Int) ≤ (ws.size : Int) := by omega
    clear hws b2
    go_quiet (fail)
    go_wp2_with fail
    go_loopg [7] s.size (fun gh v wr => ∃ k : Nat, v = .int .i64 k ∧ k + gh = s.size ∧ Keep (fun _ => False) w wr)
    case atStart => exact ⟨0, rfl, by omega, keep_drewN HK4.out nq⟩
    case round =>
      obtain ⟨j, rfl, hi, hkeep⟩ := hrel
      have HK5 := Lib.hid hkeep
      clear hkeep
      have h42 := HLEN.out
      by_cases hlt : j < s.size
      · obtain ⟨bt, hbt⟩ : ∃ bt : Nat, s[j].toNat = bt := ⟨_, rfl⟩
        have hb : bt < 256 := by rw [← hbt]; exact s[j].toNat_lt
        have hb10 : ¬ (bt : Int) = 10 := by have := H10.out j hlt; omega
        go_wp2_with fail
        go_roundg (gk - 1)
        case rel =>
          exact ⟨j + 1, by go_num, by omega, HK5.out⟩
        case measure => omega
      · obtain rfl : j = s.size := by omega
        have h42i : (s.size : Int) ≤ 42 := by omega
        go_wp2_with fail
        go_ret
        exact ⟨rfl, HK5.out⟩
  · rw [if_neg hok, if_neg hok]
    clear hok
    go_wp2_with fail
    go_ret
    exact ⟨rfl, HK3.out⟩
end Go.Proofs.YtfcfjeieocjllaaDoor
