/-
  The reference's word and Line.
-/
import Derived.Test.YtfcfjeieocjllaaDoorZ1
namespace Go.Proofs.YtfcfjeieocjllaaDoor
open Go.RowKit Go.Shelf

set_option maxRecDepth 100000 in
set_option maxHeartbeats 2000000 in
theorem word_ref (k : Int) (hk : 1 ≤ k ∧ k ≤ 7) (w : World) : Calls Tryd.prog 29 #[.int .i64 k] w fun e w' => e = .returned (.string (bs (wordK k))) ∧ Keep (fun _ => False) w w' := by
  have h := (show k = 1 ∨ k = 2 ∨ k = 3 ∨ k = 4 ∨ k = 5 ∨ k = 6 ∨ k = 7 by omega)
  clear hk
  rcases h with rfl | rfl | rfl | rfl | rfl | rfl | rfl
  · go_enter Tryd.func29, Tryd.ntmps29
    go_wp2_with fail
    go_ret
    exact ⟨rfl, (Keep.refl _ w).alloc _⟩
  · go_enter Tryd.func29, Tryd.ntmps29
    go_wp2_with fail
    go_ret
    exact ⟨rfl, (Keep.refl _ w).alloc _⟩
  · go_enter Tryd.func29, Tryd.ntmps29
    go_wp2_with fail
    go_ret
    exact ⟨rfl, (Keep.refl _ w).alloc _⟩
  · go_enter Tryd.func29, Tryd.ntmps29
    go_wp2_with fail
    go_ret
    exact ⟨rfl, (Keep.refl _ w).alloc _⟩
  · go_enter Tryd.func29, Tryd.ntmps29
    go_wp2_with fail
    go_ret
    exact ⟨rfl, (Keep.refl _ w).alloc _⟩
  · go_enter Tryd.func29, Tryd.ntmps29
    go_wp2_with fail
    go_ret
    exact ⟨rfl, (Keep.refl _ w).alloc _⟩
  · go_enter Tryd.func29, Tryd.ntmps29
    go_wp2_with fail
    go_ret
    exact ⟨rfl, (Keep.refl _ w).alloc _⟩

theorem lineF1 {q : Qy} (h : q.kd = 1) : bs (lineL q) = bs (wordK q.kd) ++ ⟨#[32]⟩ ++ bs (Lib.itoa q.tb) ++ ⟨#[32]⟩ ++ bs (Lib.itoa q.lo) := by
  apply Go.WideShapes.bytes_inj
  simp [lineL, lineWs, wordK, h, flds, pieces, glueL, glueK, Qy.get, joinW]
def tailT (s : ByteArray) (q : Qy) : ByteArray := s ++ ⟨#[32]⟩ ++ bs (Lib.itoa q.tb) ++ ⟨#[32]⟩ ++ bs (Lib.itoa q.cl) ++ ⟨#[32]⟩ ++ bs (Lib.itoa q.lo) ++ ⟨#[32]⟩ ++ bs (Lib.itoa q.hi)
theorem lineF2 {q : Qy} (h : q.kd = 2 ∨ q.kd = 3) : bs (lineL q) = tailT (bs (wordK q.kd)) q := by
  apply Go.WideShapes.bytes_inj
  rcases h with h | h <;> simp [tailT, lineL, lineWs, wordK, h, flds, pieces, glueL, glueK, Qy.get, joinW]
theorem lineF3 {q : Qy} (h : q.kd = 4 ∨ q.kd = 5 ∨ q.kd = 6) : bs (lineL q) = tailT (bs (wordK q.kd) ++ ⟨#[32]⟩ ++ bs (Lib.itoa q.bb) ++ ⟨#[32, 111, 102]⟩) q := by
  apply Go.WideShapes.bytes_inj
  rcases h with h | h | h <;> simp [tailT, lineL, lineWs, wordK, wOf, h, flds, pieces, glueL, glueK, Qy.get, joinW]
theorem lineF4 {q : Qy} (h : q.kd = 7) : bs (lineL q) = tailT (bs (wordK q.kd) ++ ⟨#[32]⟩ ++ bs (Lib.itoa q.bb) ++ ⟨#[32, 116, 111, 32]⟩ ++ bs (Lib.itoa q.ot) ++ ⟨#[32, 111, 102]⟩) q := by
  apply Go.WideShapes.bytes_inj
  simp [tailT, lineL, lineWs, wordK, wOf, wTo, h, flds, pieces, glueL, glueK, Qy.get, joinW]

/-- What the numbers of a query answer. -/
structure NumQ (q : Qy) : Prop where
  kd : ∀ w, Calls Tryd.prog 29 #[.int .i64 q.kd] w fun e w' => e = .returned (.string (bs (wordK q.kd))) ∧ Keep (fun _ => False) w w'
  tb : ∀ w, Calls Tryd.prog 37 #[.int .i64 q.tb] w fun e w' => e = .returned (.string (bs (Lib.itoa q.tb))) ∧ Keep (fun _ => False) w w'
  cl : ∀ w, Calls Tryd.prog 37 #[.int .i64 q.cl] w fun e w' => e = .returned (.string (bs (Lib.itoa q.cl))) ∧ Keep (fun _ => False) w w'
  lo : ∀ w, Calls Tryd.prog 37 #[.int .i64 q.lo] w fun e w' => e = .returned (.string (bs (Lib.itoa q.lo))) ∧ Keep (fun _ => False) w w'
  hi : ∀ w, Calls Tryd.prog 37 #[.int .i64 q.hi] w fun e w' => e = .returned (.string (bs (Lib.itoa q.hi))) ∧ Keep (fun _ => False) w w'
  bb : ∀ w, Calls Tryd.prog 37 #[.int .i64 q.bb] w fun e w' => e = .returned (.string (bs (Lib.itoa q.bb))) ∧ Keep (fun _ => False) w w'
  ot : ∀ w, Calls Tryd.prog 37 #[.int .i64 q.ot] w fun e w' => e = .returned (.string (bs (Lib.itoa q.ot))) ∧ Keep (fun _ => False) w w'
  sz : (wordK q.kd).length ≤ 5 ∧ (Lib.itoa q.tb).length ≤ 11 ∧ (Lib.itoa q.cl).length ≤ 11 ∧ (Lib.itoa q.lo).length ≤ 11 ∧ (Lib.itoa q.hi).length ≤ 11 ∧ (Lib.itoa q.bb).length ≤ 11 ∧ (Lib.itoa q.ot).length ≤ 11
theorem wordK_size (k : Int) : (wordK k).length ≤ 5 := by
  unfold wordK
  repeat' split
  all_goals decide
theorem sz1 : (⟨#[32]⟩ : ByteArray).size = 1 := rfl
theorem sz3 : (⟨#[32, 111, 102]⟩ : ByteArray).size = 3 := rfl
theorem sz4 : (⟨#[32, 116, 111, 32]⟩ : ByteArray).size = 4 := rfl
theorem wpQuiet_add {P : Program} {ops : Array Oper} {C : World → Prop} {Q : Act → Prop} {a : Act} {o : Oper} {rest : List Oper} {sx sy : ByteArray} (x y : Operand) (t u : TypeId) (hg : o.guard = none) (hop : o.op = .binOp .add t x y u)
    (hx : a.eval x = .string sx) (hy : a.eval y = .string sy) (hs : sx.size + sy.size ≤ 9223372036854775807) (hK : wpQuiet P ops C Q rest (a.put o.dst (.string (sx ++ sy)))) : wpQuiet P ops C Q (o :: rest) a := by
  refine wpQuiet_step fun K hK' => ?_
  have hw : Region.wanted o (yielded ops a.tmps) = true := by unfold Region.wanted; rw [hg]
  rw [if_pos hw]
  refine ⟨_, fun w _ => ?_, hK' _ hK⟩
  have hadd : ∀ w, (Op.stringOp .add sx sy).run P w = .ok (.string (sx ++ sy)) w := fun w => run_string_add_sum w sx sy hs
  unfold Oper.quietAt
  simp [execOp, hop, hx, hy, binOp, hadd, eqGuard, Oper.quietUpon, Result.andThen]
theorem NumQ.of {q : Qy} (h : q.ok) : NumQ q := by
  obtain ⟨h1, h2, h3, h4, h5, h6⟩ := h.near
  exact ⟨word_ref _ h.kinds, number_ref _ (by omega), number_ref _ (by omega), number_ref _ (by omega), number_ref _ (by omega), number_ref _ (by omega), number_ref _ (by omega), wordK_size _, itoa_len11 (by omega), itoa_len11 (by omega), itoa_len11 (by omega), itoa_len11 (by omega), itoa_len11 (by omega), itoa_len11 (by omega)⟩

set_option maxRecDepth 100000 in
set_option maxHeartbeats 4000000 in
theorem lineR1 (q : Qy) (h : q.kd = 1) (hN : NumQ q) (w : World) : Calls Tryd.prog 24 #[qV q] w fun e w' => e = .returned (.string (bs (lineL q))) ∧ Keep (fun _ => False) w w' := by
  have HN := Lib.hid hN
  obtain ⟨s0, s1, s2, s3, s4, s5, s6⟩ := hN.sz
  have s7 := wordK_size 7
  have s8 := wordK_size 1
  have ka : Keep (fun _ => False) w (w.alloc (.cells #[.int .i64 q.kd, .int .i64 q.tb, .int .i64 q.cl, .int .i64 q.lo, .int .i64 q.hi, .int .i64 q.bb, .int .i64 q.ot] 23)) := (Keep.refl _ w).alloc _
  have HB1 := Lib.hid (QBox.new w q 23)
  have HK1 := Lib.hid ka
  have HL := Lib.hid (lineF1 h)
  have HH := Lib.hid h
  clear h
  clear hN ka
  go_enter Tryd.func24, Tryd.ntmps24
  go_upto_region 1 with (fail)
  generalize w.alloc (.cells #[.int .i64 q.kd, .int .i64 q.tb, .int .i64 q.cl, .int .i64 q.lo, .int .i64 q.hi, .int .i64 q.bb, .int .i64 q.ot] 23) = V1 at *
  generalize w.heap.size = z at *
  obtain ⟨c0, c1, c2, c3, c4, c5, c6⟩ := HB1.out.cells
  go_wp2_with fail
  clear c0 c1 c2 c3 c4 c5 c6
  with_reducible refine (HN.out.kd V1).mono ?_
  rintro e V2 ⟨rfl, k⟩
  have HB2 := Lib.hid (HB1.out.kept k)
  have HK2 := Lib.hid (HK1.out.trans k)
  clear k HB1 HK1
  have hk1 := HH.out
  obtain ⟨c0, c1, c2, c3, c4, c5, c6⟩ := HB2.out.cells
  go_upto_region 3 with (fail)
  have r1 : ∀ p : KW V2, p.val.cell? ⟨z, 1, none⟩ = some (.int .i64 q.tb) := fun p => (HB2.out.kept p.k).cells.2.1
  have r3 : ∀ p : KW V2, p.val.cell? ⟨z, 3, none⟩ = some (.int .i64 q.lo) := fun p => (HB2.out.kept p.k).cells.2.2.2.1
  refine wp_region_quiet_kept (by kernel_rfl) (by kernel_rfl) ?_
  refine wpQuiet_step (fun K hK => ?_)
  go_simp
  refine hK _ ?_; clear hK K
  refine wpQuiet_add _ _ _ _ rfl rfl rfl rfl (by simp only [bs_size, List.length_cons, List.length_nil]; omega) ?_
  refine wpQuiet_step (fun K hK => ?_)
  go_simp
  refine hK _ ?_; clear hK K
  refine wpQuiet_step (fun K hK => ?_)
  go_simp
  refine hK _ ?_; clear hK K
  quiet_step ((go_at_call 37; exact Calls.kept_of (HN.out.tb _)))
  refine wpQuiet_add _ _ _ _ rfl rfl rfl rfl (by simp only [ByteArray.size_append, bs_size, List.length_cons, List.length_nil]; omega) ?_
  refine wpQuiet_add _ _ _ _ rfl rfl rfl rfl (by simp only [ByteArray.size_append, bs_size, List.length_cons, List.length_nil]; omega) ?_
  refine wpQuiet_step (fun K hK => ?_)
  go_simp
  refine hK _ ?_; clear hK K
  refine wpQuiet_step (fun K hK => ?_)
  go_simp
  refine hK _ ?_; clear hK K
  quiet_step ((go_at_call 37; exact Calls.kept_of (HN.out.lo _)))
  refine wpQuiet_add _ _ _ _ rfl rfl rfl rfl (by simp only [ByteArray.size_append, bs_size, List.length_cons, List.length_nil]; omega) ?_
  refine wpQuiet_step (fun K hK => ?_)
  go_simp
  refine hK _ ?_; clear hK K
  refine wpQuiet_nil ?_
  rintro _ ⟨p, rfl⟩
  have HKF := Lib.hid (HK2.out.trans p.k)
  generalize p.val = VF at *
  go_wp2_with fail
  go_ret
  exact ⟨by rw [HL.out, HH.out]; first | done | rfl, HKF.out⟩
set_option maxRecDepth 100000 in
set_option maxHeartbeats 4000000 in
theorem lineR2 (q : Qy) (h : q.kd = 2 ∨ q.kd = 3) (hN : NumQ q) (w : World) : Calls Tryd.prog 24 #[qV q] w fun e w' => e = .returned (.string (bs (lineL q))) ∧ Keep (fun _ => False) w w' := by
  have HN := Lib.hid hN
  obtain ⟨s0, s1, s2, s3, s4, s5, s6⟩ := hN.sz
  have s7 := wordK_size 7
  have s8 := wordK_size 1
  have ka : Keep (fun _ => False) w (w.alloc (.cells #[.int .i64 q.kd, .int .i64 q.tb, .int .i64 q.cl, .int .i64 q.lo, .int .i64 q.hi, .int .i64 q.bb, .int .i64 q.ot] 23)) := (Keep.refl _ w).alloc _
  have HB1 := Lib.hid (QBox.new w q 23)
  have HK1 := Lib.hid ka
  have HL := Lib.hid (lineF2 h)
  unfold tailT at HL
  have hn1 : ¬ q.kd = 1 := by omega
  have hn4 : ¬ 4 ≤ q.kd := by omega
  have hn7 : ¬ q.kd = 7 := by omega
  clear h
  clear hN ka
  go_enter Tryd.func24, Tryd.ntmps24
  go_upto_region 1 with (fail)
  generalize w.alloc (.cells #[.int .i64 q.kd, .int .i64 q.tb, .int .i64 q.cl, .int .i64 q.lo, .int .i64 q.hi, .int .i64 q.bb, .int .i64 q.ot] 23) = V1 at *
  generalize w.heap.size = z at *
  obtain ⟨c0, c1, c2, c3, c4, c5, c6⟩ := HB1.out.cells
  go_wp2_with fail
  clear c0 c1 c2 c3 c4 c5 c6
  with_reducible refine (HN.out.kd V1).mono ?_
  rintro e V2 ⟨rfl, k⟩
  have HB2 := Lib.hid (HB1.out.kept k)
  have HK2 := Lib.hid (HK1.out.trans k)
  clear k HB1 HK1
  obtain ⟨c0, c1, c2, c3, c4, c5, c6⟩ := HB2.out.cells
  go_upto_region 10 with (fail)
  have r1 : ∀ p : KW V2, p.val.cell? ⟨z, 1, none⟩ = some (.int .i64 q.tb) := fun p => (HB2.out.kept p.k).cells.2.1
  have r2 : ∀ p : KW V2, p.val.cell? ⟨z, 2, none⟩ = some (.int .i64 q.cl) := fun p => (HB2.out.kept p.k).cells.2.2.1
  have r3 : ∀ p : KW V2, p.val.cell? ⟨z, 3, none⟩ = some (.int .i64 q.lo) := fun p => (HB2.out.kept p.k).cells.2.2.2.1
  have r4 : ∀ p : KW V2, p.val.cell? ⟨z, 4, none⟩ = some (.int .i64 q.hi) := fun p => (HB2.out.kept p.k).cells.2.2.2.2.1
  refine wp_region_quiet_kept (by kernel_rfl) (by kernel_rfl) ?_
  refine wpQuiet_step (fun K hK => ?_)
  go_simp
  refine hK _ ?_; clear hK K
  refine wpQuiet_add _ _ _ _ rfl rfl rfl rfl (by simp only [bs_size, List.length_cons, List.length_nil]; omega) ?_
  refine wpQuiet_step (fun K hK => ?_)
  go_simp
  refine hK _ ?_; clear hK K
  refine wpQuiet_step (fun K hK => ?_)
  go_simp
  refine hK _ ?_; clear hK K
  quiet_step ((go_at_call 37; exact Calls.kept_of (HN.out.tb _)))
  refine wpQuiet_add _ _ _ _ rfl rfl rfl rfl (by simp only [ByteArray.size_append, bs_size, List.length_cons, List.length_nil]; omega) ?_
  refine wpQuiet_add _ _ _ _ rfl rfl rfl rfl (by simp only [ByteArray.size_append, bs_size, List.length_cons, List.length_nil]; omega) ?_
  refine wpQuiet_step (fun K hK => ?_)
  go_simp
  refine hK _ ?_; clear hK K
  refine wpQuiet_step (fun K hK => ?_)
  go_simp
  refine hK _ ?_; clear hK K
  quiet_step ((go_at_call 37; exact Calls.kept_of (HN.out.cl _)))
  refine wpQuiet_add _ _ _ _ rfl rfl rfl rfl (by simp only [ByteArray.size_append, bs_size, List.length_cons, List.length_nil]; omega) ?_
  refine wpQuiet_add _ _ _ _ rfl rfl rfl rfl (by simp only [ByteArray.size_append, bs_size, List.length_cons, List.length_nil]; omega) ?_
  refine wpQuiet_step (fun K hK => ?_)
  go_simp
  refine hK _ ?_; clear hK K
  refine wpQuiet_step (fun K hK => ?_)
  go_simp
  refine hK _ ?_; clear hK K
  quiet_step ((go_at_call 37; exact Calls.kept_of (HN.out.lo _)))
  refine wpQuiet_add _ _ _ _ rfl rfl rfl rfl (by simp only [ByteArray.size_append, bs_size, List.length_cons, List.length_nil]; omega) ?_
  refine wpQuiet_add _ _ _ _ rfl rfl rfl rfl (by simp only [ByteArray.size_append, bs_size, List.length_cons, List.length_nil]; omega) ?_
  refine wpQuiet_step (fun K hK => ?_)
  go_simp
  refine hK _ ?_; clear hK K
  refine wpQuiet_step (fun K hK => ?_)
  go_simp
  refine hK _ ?_; clear hK K
  quiet_step ((go_at_call 37; exact Calls.kept_of (HN.out.hi _)))
  refine wpQuiet_add _ _ _ _ rfl rfl rfl rfl (by simp only [ByteArray.size_append, bs_size, List.length_cons, List.length_nil]; omega) ?_
  refine wpQuiet_step (fun K hK => ?_)
  go_simp
  refine hK _ ?_; clear hK K
  refine wpQuiet_nil ?_
  rintro _ ⟨p, rfl⟩
  have HKF := Lib.hid (HK2.out.trans p.k)
  generalize p.val = VF at *
  go_wp2_with fail
  go_ret
  exact ⟨by rw [HL.out]; first | done | rfl, HKF.out⟩
set_option maxRecDepth 100000 in
set_option maxHeartbeats 4000000 in
theorem lineR3 (q : Qy) (h : q.kd = 4 ∨ q.kd = 5 ∨ q.kd = 6) (hN : NumQ q) (w : World) : Calls Tryd.prog 24 #[qV q] w fun e w' => e = .returned (.string (bs (lineL q))) ∧ Keep (fun _ => False) w w' := by
  have HN := Lib.hid hN
  obtain ⟨s0, s1, s2, s3, s4, s5, s6⟩ := hN.sz
  have s7 := wordK_size 7
  have s8 := wordK_size 1
  have ka : Keep (fun _ => False) w (w.alloc (.cells #[.int .i64 q.kd, .int .i64 q.tb, .int .i64 q.cl, .int .i64 q.lo, .int .i64 q.hi, .int .i64 q.bb, .int .i64 q.ot] 23)) := (Keep.refl _ w).alloc _
  have HB1 := Lib.hid (QBox.new w q 23)
  have HK1 := Lib.hid ka
  have HL := Lib.hid (lineF3 h)
  unfold tailT at HL
  have hn1 : ¬ q.kd = 1 := by omega
  have hn4 : 4 ≤ q.kd := by omega
  have hn7 : ¬ q.kd = 7 := by omega
  clear h
  clear hN ka
  go_enter Tryd.func24, Tryd.ntmps24
  go_upto_region 1 with (fail)
  generalize w.alloc (.cells #[.int .i64 q.kd, .int .i64 q.tb, .int .i64 q.cl, .int .i64 q.lo, .int .i64 q.hi, .int .i64 q.bb, .int .i64 q.ot] 23) = V1 at *
  generalize w.heap.size = z at *
  obtain ⟨c0, c1, c2, c3, c4, c5, c6⟩ := HB1.out.cells
  go_wp2_with fail
  clear c0 c1 c2 c3 c4 c5 c6
  with_reducible refine (HN.out.kd V1).mono ?_
  rintro e V2 ⟨rfl, k⟩
  have HB2 := Lib.hid (HB1.out.kept k)
  have HK2 := Lib.hid (HK1.out.trans k)
  clear k HB1 HK1
  obtain ⟨c0, c1, c2, c3, c4, c5, c6⟩ := HB2.out.cells
  go_wp2_with fail
  clear c0 c1 c2 c3 c4 c5 c6
  with_reducible refine (HN.out.bb V2).mono ?_
  rintro e V3 ⟨rfl, k⟩
  have HB3 := Lib.hid (HB2.out.kept k)
  have HK3 := Lib.hid (HK2.out.trans k)
  clear k HB2 HK2
  obtain ⟨c0, c1, c2, c3, c4, c5, c6⟩ := HB3.out.cells
  go_upto_region 10 with (fail)
  have r1 : ∀ p : KW V3, p.val.cell? ⟨z, 1, none⟩ = some (.int .i64 q.tb) := fun p => (HB3.out.kept p.k).cells.2.1
  have r2 : ∀ p : KW V3, p.val.cell? ⟨z, 2, none⟩ = some (.int .i64 q.cl) := fun p => (HB3.out.kept p.k).cells.2.2.1
  have r3 : ∀ p : KW V3, p.val.cell? ⟨z, 3, none⟩ = some (.int .i64 q.lo) := fun p => (HB3.out.kept p.k).cells.2.2.2.1
  have r4 : ∀ p : KW V3, p.val.cell? ⟨z, 4, none⟩ = some (.int .i64 q.hi) := fun p => (HB3.out.kept p.k).cells.2.2.2.2.1
  refine wp_region_quiet_kept (by kernel_rfl) (by kernel_rfl) ?_
  refine wpQuiet_step (fun K hK => ?_)
  go_simp
  refine hK _ ?_; clear hK K
  refine wpQuiet_add _ _ _ _ rfl rfl rfl rfl (by simp only [ByteArray.size_append, bs_size, List.length_cons, List.length_nil]; omega) ?_
  refine wpQuiet_step (fun K hK => ?_)
  go_simp
  refine hK _ ?_; clear hK K
  refine wpQuiet_step (fun K hK => ?_)
  go_simp
  refine hK _ ?_; clear hK K
  quiet_step ((go_at_call 37; exact Calls.kept_of (HN.out.tb _)))
  refine wpQuiet_add _ _ _ _ rfl rfl rfl rfl (by simp only [ByteArray.size_append, bs_size, List.length_cons, List.length_nil]; omega) ?_
  refine wpQuiet_add _ _ _ _ rfl rfl rfl rfl (by simp only [ByteArray.size_append, bs_size, List.length_cons, List.length_nil]; omega) ?_
  refine wpQuiet_step (fun K hK => ?_)
  go_simp
  refine hK _ ?_; clear hK K
  refine wpQuiet_step (fun K hK => ?_)
  go_simp
  refine hK _ ?_; clear hK K
  quiet_step ((go_at_call 37; exact Calls.kept_of (HN.out.cl _)))
  refine wpQuiet_add _ _ _ _ rfl rfl rfl rfl (by simp only [ByteArray.size_append, bs_size, List.length_cons, List.length_nil]; omega) ?_
  refine wpQuiet_add _ _ _ _ rfl rfl rfl rfl (by simp only [ByteArray.size_append, bs_size, List.length_cons, List.length_nil]; omega) ?_
  refine wpQuiet_step (fun K hK => ?_)
  go_simp
  refine hK _ ?_; clear hK K
  refine wpQuiet_step (fun K hK => ?_)
  go_simp
  refine hK _ ?_; clear hK K
  quiet_step ((go_at_call 37; exact Calls.kept_of (HN.out.lo _)))
  refine wpQuiet_add _ _ _ _ rfl rfl rfl rfl (by simp only [ByteArray.size_append, bs_size, List.length_cons, List.length_nil]; omega) ?_
  refine wpQuiet_add _ _ _ _ rfl rfl rfl rfl (by simp only [ByteArray.size_append, bs_size, List.length_cons, List.length_nil]; omega) ?_
  refine wpQuiet_step (fun K hK => ?_)
  go_simp
  refine hK _ ?_; clear hK K
  refine wpQuiet_step (fun K hK => ?_)
  go_simp
  refine hK _ ?_; clear hK K
  quiet_step ((go_at_call 37; exact Calls.kept_of (HN.out.hi _)))
  refine wpQuiet_add _ _ _ _ rfl rfl rfl rfl (by simp only [ByteArray.size_append, bs_size, List.length_cons, List.length_nil]; omega) ?_
  refine wpQuiet_step (fun K hK => ?_)
  go_simp
  refine hK _ ?_; clear hK K
  refine wpQuiet_nil ?_
  rintro _ ⟨p, rfl⟩
  have HKF := Lib.hid (HK3.out.trans p.k)
  generalize p.val = VF at *
  go_wp2_with fail
  go_ret
  exact ⟨by rw [HL.out]; first | done | rfl, HKF.out⟩
set_option maxRecDepth 100000 in
set_option maxHeartbeats 4000000 in
theorem lineR4 (q : Qy) (h : q.kd = 7) (hN : NumQ q) (w : World) : Calls Tryd.prog 24 #[qV q] w fun e w' => e = .returned (.string (bs (lineL q))) ∧ Keep (fun _ => False) w w' := by
  have HN := Lib.hid hN
  obtain ⟨s0, s1, s2, s3, s4, s5, s6⟩ := hN.sz
  have s7 := wordK_size 7
  have s8 := wordK_size 1
  have ka : Keep (fun _ => False) w (w.alloc (.cells #[.int .i64 q.kd, .int .i64 q.tb, .int .i64 q.cl, .int .i64 q.lo, .int .i64 q.hi, .int .i64 q.bb, .int .i64 q.ot] 23)) := (Keep.refl _ w).alloc _
  have HB1 := Lib.hid (QBox.new w q 23)
  have HK1 := Lib.hid ka
  have HL := Lib.hid (lineF4 h)
  unfold tailT at HL
  have hn1 : ¬ q.kd = 1 := by omega
  have hn4 : 4 ≤ q.kd := by omega
  have HH := Lib.hid h
  clear h
  clear hN ka
  go_enter Tryd.func24, Tryd.ntmps24
  go_upto_region 1 with (fail)
  generalize w.alloc (.cells #[.int .i64 q.kd, .int .i64 q.tb, .int .i64 q.cl, .int .i64 q.lo, .int .i64 q.hi, .int .i64 q.bb, .int .i64 q.ot] 23) = V1 at *
  generalize w.heap.size = z at *
  obtain ⟨c0, c1, c2, c3, c4, c5, c6⟩ := HB1.out.cells
  go_wp2_with fail
  clear c0 c1 c2 c3 c4 c5 c6
  with_reducible refine (HN.out.kd V1).mono ?_
  rintro e V2 ⟨rfl, k⟩
  have HB2 := Lib.hid (HB1.out.kept k)
  have HK2 := Lib.hid (HK1.out.trans k)
  clear k HB1 HK1
  have hk7 := HH.out
  obtain ⟨c0, c1, c2, c3, c4, c5, c6⟩ := HB2.out.cells
  go_wp2_with fail
  clear c0 c1 c2 c3 c4 c5 c6
  with_reducible refine (HN.out.bb V2).mono ?_
  rintro e V3 ⟨rfl, k⟩
  have HB3 := Lib.hid (HB2.out.kept k)
  have HK3 := Lib.hid (HK2.out.trans k)
  clear k HB2 HK2
  obtain ⟨c0, c1, c2, c3, c4, c5, c6⟩ := HB3.out.cells
  go_wp2_with fail
  clear c0 c1 c2 c3 c4 c5 c6
  with_reducible refine (HN.out.ot V3).mono ?_
  rintro e V4 ⟨rfl, k⟩
  have HB4 := Lib.hid (HB3.out.kept k)
  have HK4 := Lib.hid (HK3.out.trans k)
  clear k HB3 HK3
  obtain ⟨c0, c1, c2, c3, c4, c5, c6⟩ := HB4.out.cells
  go_upto_region 10 with (fail)
  have r1 : ∀ p : KW V4, p.val.cell? ⟨z, 1, none⟩ = some (.int .i64 q.tb) := fun p => (HB4.out.kept p.k).cells.2.1
  have r2 : ∀ p : KW V4, p.val.cell? ⟨z, 2, none⟩ = some (.int .i64 q.cl) := fun p => (HB4.out.kept p.k).cells.2.2.1
  have r3 : ∀ p : KW V4, p.val.cell? ⟨z, 3, none⟩ = some (.int .i64 q.lo) := fun p => (HB4.out.kept p.k).cells.2.2.2.1
  have r4 : ∀ p : KW V4, p.val.cell? ⟨z, 4, none⟩ = some (.int .i64 q.hi) := fun p => (HB4.out.kept p.k).cells.2.2.2.2.1
  refine wp_region_quiet_kept (by kernel_rfl) (by kernel_rfl) ?_
  refine wpQuiet_step (fun K hK => ?_)
  go_simp
  refine hK _ ?_; clear hK K
  refine wpQuiet_add _ _ _ _ rfl rfl rfl rfl (by simp only [ByteArray.size_append, bs_size, List.length_cons, List.length_nil]; omega) ?_
  refine wpQuiet_step (fun K hK => ?_)
  go_simp
  refine hK _ ?_; clear hK K
  refine wpQuiet_step (fun K hK => ?_)
  go_simp
  refine hK _ ?_; clear hK K
  quiet_step ((go_at_call 37; exact Calls.kept_of (HN.out.tb _)))
  refine wpQuiet_add _ _ _ _ rfl rfl rfl rfl (by simp only [ByteArray.size_append, bs_size, List.length_cons, List.length_nil]; omega) ?_
  refine wpQuiet_add _ _ _ _ rfl rfl rfl rfl (by simp only [ByteArray.size_append, bs_size, List.length_cons, List.length_nil]; omega) ?_
  refine wpQuiet_step (fun K hK => ?_)
  go_simp
  refine hK _ ?_; clear hK K
  refine wpQuiet_step (fun K hK => ?_)
  go_simp
  refine hK _ ?_; clear hK K
  quiet_step ((go_at_call 37; exact Calls.kept_of (HN.out.cl _)))
  refine wpQuiet_add _ _ _ _ rfl rfl rfl rfl (by simp only [ByteArray.size_append, bs_size, List.length_cons, List.length_nil]; omega) ?_
  refine wpQuiet_add _ _ _ _ rfl rfl rfl rfl (by simp only [ByteArray.size_append, bs_size, List.length_cons, List.length_nil]; omega) ?_
  refine wpQuiet_step (fun K hK => ?_)
  go_simp
  refine hK _ ?_; clear hK K
  refine wpQuiet_step (fun K hK => ?_)
  go_simp
  refine hK _ ?_; clear hK K
  quiet_step ((go_at_call 37; exact Calls.kept_of (HN.out.lo _)))
  refine wpQuiet_add _ _ _ _ rfl rfl rfl rfl (by simp only [ByteArray.size_append, bs_size, List.length_cons, List.length_nil]; omega) ?_
  refine wpQuiet_add _ _ _ _ rfl rfl rfl rfl (by simp only [ByteArray.size_append, bs_size, List.length_cons, List.length_nil]; omega) ?_
  refine wpQuiet_step (fun K hK => ?_)
  go_simp
  refine hK _ ?_; clear hK K
  refine wpQuiet_step (fun K hK => ?_)
  go_simp
  refine hK _ ?_; clear hK K
  quiet_step ((go_at_call 37; exact Calls.kept_of (HN.out.hi _)))
  refine wpQuiet_add _ _ _ _ rfl rfl rfl rfl (by simp only [ByteArray.size_append, bs_size, List.length_cons, List.length_nil]; omega) ?_
  refine wpQuiet_step (fun K hK => ?_)
  go_simp
  refine hK _ ?_; clear hK K
  refine wpQuiet_nil ?_
  rintro _ ⟨p, rfl⟩
  have HKF := Lib.hid (HK4.out.trans p.k)
  generalize p.val = VF at *
  go_wp2_with fail
  go_ret
  exact ⟨by rw [HL.out, HH.out]; first | done | rfl, HKF.out⟩
theorem line_ref (q : Qy) (h : q.ok) (w : World) : Calls Tryd.prog 24 #[qV q] w fun e w' => e = .returned (.string (bs (lineL q))) ∧ Keep (fun _ => False) w w' := by
  rcases h.2 with h1 | h1 | h1 | h1
  · exact lineR1 q h1.1 (.of h) w
  · exact lineR2 q h1.1 (.of h) w
  · exact lineR3 q h1.1 (.of h) w
  · exact lineR4 q h1.1 (.of h) w
end Go.Proofs.YtfcfjeieocjllaaDoor
