/-
  find: the form with a word.
-/
import Derived.Test.YtmndjicaofciiaaGreatDoorW8
namespace Go.Proofs.YtmndjicaofciiaaGreatDoor
open Go.RowKit Go.Shelf

theorem kind_iff (x : List UInt8) (k : Int) : kindOf x = some k ↔ 1 ≤ k ∧ k ≤ 7 ∧ wordK k = x := by
  constructor
  · intro h
    unfold kindOf at h
    repeat' split at h
    all_goals first | (obtain rfl := Option.some.inj h; subst_vars; exact ⟨by decide, by decide, rfl⟩) | cases h
  · rintro ⟨h1, h2, rfl⟩
    rcases (by omega : k = 1 ∨ k = 2 ∨ k = 3 ∨ k = 4 ∨ k = 5 ∨ k = 6 ∨ k = 7) with rfl | rfl | rfl | rfl | rfl | rfl | rfl <;> rfl
theorem str_beq (a b : ByteArray) : (a.toList == b.toList) = decide (a.data.toList = b.data.toList) := by
  rw [ByteArray.toList_eq, ByteArray.toList_eq]
  by_cases h : a.data.toList = b.data.toList
  · rw [decide_eq_true h]
    exact beq_iff_eq.2 h
  · rw [decide_eq_false h]
    exact beq_eq_false_iff_ne.2 h
def FindPost (p : Addr) (x : ByteArray) (w : World) (e : Ending) (w' : World) : Prop :=
  (∃ k o, kindOf x.data.toList = some k ∧ e = .returned (.tuple #[.int .i64 k, .agg #[.string (bs (wordK k)), .func (.func (fnK k)) #[] #[], .map o]]) ∧ GlueAt w' (.map o) k ∧ Keep (fun _ => False) w w') ∨
  (kindOf x.data.toList = none ∧ e = .panicked (errC p) ∧ Keep (fun _ => False) w w')
set_option maxRecDepth 100000 in
set_option maxHeartbeats 4000000 in
theorem find_any (p : Addr) (x : ByteArray) (w : World) (hE : Env p w) : Calls Tryz.prog 43 #[.string x] w (FindPost p x w) := by
  have HE := Lib.hid hE
  have ka : Keep (fun _ => False) w (w.alloc (.cells #[.string ⟨#[]⟩, .nilFunc, .map none] 69)) := (Keep.refl _ w).alloc _
  have HB3 := Lib.hid (Box3.new w (.string ⟨#[]⟩) .nilFunc (.map none) 69)
  have HK0 := Lib.hid ka
  clear hE ka
  go_enter Tryz.func43, Tryz.ntmps43
  go_upto_region 1 with (fail)
  generalize w.alloc (.cells #[.string ⟨#[]⟩, .nilFunc, .map none] 69) = W0 at *
  obtain ⟨z3, hz3⟩ : ∃ z, w.heap.size = z := ⟨_, rfl⟩
  have HZ3 := Lib.hid hz3
  rw [hz3] at HB3 ⊢
  clear hz3
  go_wp2_with fail
  with_reducible refine (forms_any W0).mono ?_
  rintro e W1 ⟨mb, ofb, jb, rfl, h1, h2, k1⟩
  have HF := Lib.hid h1
  have HG := Lib.hid h2
  have HK1 := Lib.hid (HK0.out.trans k1)
  have HB31 := Lib.hid (HB3.out.kept k1)
  clear h1 h2 k1 HB3 HK0
  obtain ⟨ob, left, hrun, hrg, hnd, hmem⟩ := HF.out.range Tryz.underlying70
  have HRG := Lib.hid hrg
  have HMEM := Lib.hid hmem
  have HRGI := Lib.hid hrg
  have ka : Keep (fun _ => False) W1 (W1.alloc ob) := (Keep.refl _ W1).alloc _
  have HK2 := Lib.hid (HK1.out.trans ka)
  have HB32 := Lib.hid (HB31.out.kept ka)
  have HG2 : Hid (∀ k : Int, 1 ≤ k → k ≤ 7 → GlueAt (W1.alloc ob) (glueV ofb jb k) k) := Lib.hid (fun k a b => (HG.out k a b).kept ka)
  have HZR : Hid (w.heap.size ≤ W1.heap.size ∧ z3 < W1.heap.size) := Lib.hid ⟨HK1.out.size, HB31.out.lt⟩
  clear hrg hnd hmem ka HG HK1 HB31
  go_wp2_with fail
  clear hrun
  generalize W1.alloc ob = W2 at *
  generalize W1.heap.size = r at *
  go_loopw [4, 5, 8, 9, 10, 11, 12, 13, 14, 15, 16] (fun _ _ _ _ _ _ _ _ _ _ _ wr => ∃ left, Ranging Tryz.prog 3 wr mb r (FormR ofb jb) left ∧ (∀ k : Int, 1 ≤ k → k ≤ 7 → wordK k = x.data.toList → (Value.int .i64 k, formV ofb jb k) ∈ left) ∧ Keep (fun j => j = r) W2 wr) (fun _ _ _ _ _ _ _ _ _ _ _ wr => wr.rangeLeft mb r)
  case atStart => exact ⟨left, HRG.out, fun k a b _ => (HMEM.out _ _).2 ⟨k, a, b, rfl, rfl⟩, Keep.refl _ _⟩
  case round =>
    clear HRG HMEM
    obtain ⟨left, hrg, hmem, hkeep⟩ := hrel
    have HM := Lib.hid hmem
    have HK := Lib.hid hkeep
    have HRR := Lib.hid hrg
    clear hmem hkeep
    rcases hrg.next 0 with ⟨h0, hrun⟩ | ⟨k, v, left', w', hp, hR, hrun, hrg', kk, hsz, hen⟩
    · subst h0
      have hline := (HE.out.kept (HK2.out.trans' HK.out (fun j e => .inr (by have h5 : j = r := e; have := HZR.out; omega)))).line
      clear hrg
      go_wp2_with fail
      have HKE : Hid (Keep (fun _ => False) w wr) := Lib.hid (HK2.out.trans' HK.out (fun j e => .inr (by have h5 : j = r := e; have := HZR.out; omega)))
      refine ⟨rfl, Or.inr ⟨?_, rfl, HKE.out⟩⟩
      cases e : kindOf x.data.toList with
      | none => rfl
      | some k =>
        obtain ⟨a, b, c⟩ := (kind_iff _ _).1 e
        exact absurd (HM.out k a b c) (by simp)
    · obtain ⟨kk1, ha, hb, rfl, rfl⟩ := hR
      have HP := Lib.hid hp
      have HRG' := Lib.hid hrg'
      have HKW := Lib.hid (HK.out.trans kk)
      have HLE : Hid (w'.rangeLeft mb r < wr.rangeLeft mb r) := Lib.hid (by
        rw [hrg'.left_eq, HRR.out.left_eq, hp.length_eq]
        simp)
      obtain ⟨o, ho⟩ := glueV_map ofb jb kk1
      have HGK : Hid (GlueAt W2 (.map o) kk1) := Lib.hid (by rw [← ho]; exact HG2.out kk1 ha hb)
      have HAB : Hid (1 ≤ kk1 ∧ kk1 ≤ 7) := Lib.hid ⟨ha, hb⟩
      clear hrg hp hrg' kk ha hb
      unfold formV at hrun hen
      rw [ho] at hrun hen
      have HO := Lib.hid ho
      clear ho
      generalize hs0 : bs (wordK kk1) = s0 at hrun hen
      generalize hfk : fnK kk1 = fk at hrun hen
      have HS0 := Lib.hid hs0
      have HFK := Lib.hid hfk
      clear hs0 hfk
      have ka : Keep (fun _ => False) w' (w'.alloc (.cells #[.string s0, .func (.func fk) #[] #[], .map o] 69)) := (Keep.refl _ w').alloc _
      have HB5 := Lib.hid (Box3.new w' (.string s0) (.func (.func fk) #[] #[]) (.map o) 69)
      have HRG5 := Lib.hid (HRG'.out.of_heap (ka.block mb HRG'.out.lt.2.1 (fun h => h)) (ka.block r HRG'.out.lt.1 (fun h => h)))
      have HK5 := Lib.hid (HKW.out.trans (ka.mono (fun _ h => h.elim)))
      have HLE5 : Hid ((w'.alloc (.cells #[.string s0, .func (.func fk) #[] #[], .map o] 69)).rangeLeft mb r < wr.rangeLeft mb r) := Lib.hid (by
        rw [HRG5.out.left_eq, ← HRG'.out.left_eq]; exact HLE.out)
      clear ka HLE
      have hsz2 := hsz
      go_upto_region 4 with (fail)
      rw [hsz2] at HB5
      have HZ5 : Hid (r < wr.heap.size ∧ W2.heap.size ≤ wr.heap.size) := Lib.hid ⟨HRR.out.lt.1, HK.out.size⟩
      clear hsz hsz2 hrun hen
      generalize w'.alloc (.cells #[.string s0, .func (.func fk) #[] #[], .map o] 69) = W5 at *
      generalize wr.heap.size = z5 at *
      obtain ⟨y0, y1, y2, -⟩ := HB5.out
      by_cases hw : wordK kk1 = x.data.toList
      · have hbe : (s0.toList == x.toList) = true := by rw [str_beq, ← HS0.out, bs_list]; simpa using hw
        have HW := Lib.hid hw
        have HKE : Hid (Keep (fun _ => False) w W5) := Lib.hid (HK2.out.trans' HK5.out (fun j e => .inr (by have h5 : j = r := e; have := HZR.out; omega)))
        have HB35 := Lib.hid (HB32.out.keep HK5.out (fun e => by have h5 : z3 = r := e; have := HZR.out; omega))
        have HGE : Hid (GlueAt W5 (.map o) kk1) := Lib.hid (by
          rcases HGK.out with h | ⟨m, h1, h2⟩
          · exact .inl h
          · refine .inr ⟨m, h1, h2.of_heap (HK5.out.block m h2.lt (fun e => ?_))⟩
            have h5 : m = r := e
            subst h5
            obtain ⟨es, c, hm, -⟩ := h2
            obtain ⟨es', c', s', sn, c0, -, -, -, -, -, -, hi, -⟩ := HRGI.out
            rw [hm] at hi
            cases hi)
        clear hw
        go_upto_region 5 with (fail)
        clear y0 y1 y2 hbe
        have HZ35 : Hid (z5 ≠ z3) := Lib.hid (fun e => by have := HZR.out; have := HZ5.out; omega)
        have r0 : ∀ p : KA (fun j => j = z3) W5, p.val.cell? ⟨z5, 0, none⟩ = some (.string s0) := fun p => (HB5.out.keep p.k HZ35.out).1
        have r1 : ∀ p : KA (fun j => j = z3) W5, p.val.cell? ⟨z5, 1, none⟩ = some (.func (.func fk) #[] #[]) := fun p => (HB5.out.keep p.k HZ35.out).2.1
        have r2 : ∀ p : KA (fun j => j = z3) W5, p.val.cell? ⟨z5, 2, none⟩ = some (.map o) := fun p => (HB5.out.keep p.k HZ35.out).2.2.1
        refine wp_region_walk [(true, 0), (true, 1), (false, 2), (false, 3)] (inKA (fun j => j = z3) W5) (by kernel_rfl) (by kernel_rfl) ?_
        have HKD : Hid (Keep (fun _ => False) W5 W5.drew) := Lib.hid (Keep.refl _ W5).drew
        iterate 2 (refine walkW_read rfl (fun K hK => ?_); go_simp; refine hK _ ?_; clear hK K)
        clear r0 r1 r2
        have HB3D := Lib.hid (HB35.out.kept HKD.out)
        have HGD := Lib.hid (HGE.out.kept HKD.out)
        have HKF := Lib.hid (HKE.out.trans HKD.out)
        generalize W5.drew = D at *
        refine walkW_do rfl (inKA.of (HKD.out.mono (fun _ h => h.elim))) (fun K hK => ?_)
        go_simp
        refine hK _ _ ?_; clear hK K
        obtain ⟨y0, y1, y2, yf⟩ := HB3D.out
        refine walkW_do rfl (inKA.of (HKD.out.mono (fun _ h => h.elim))) (fun K hK => ?_)
        go_simp
        refine hK _ _ ?_; clear hK K
        have kq : Keep (fun j => j = z3) D (((D.setCell ⟨z3, 0, none⟩ (.string s0)).setCell ⟨z3, 1, none⟩ (.func (.func fk) #[] #[])).setCell ⟨z3, 2, none⟩ (.map o)) := (((Keep.refl (fun j => j = z3) D).setCell (p := ⟨z3, 0, none⟩) _ (.inl rfl)).setCell (p := ⟨z3, 1, none⟩) _ (.inl rfl)).setCell (p := ⟨z3, 2, none⟩) _ (.inl rfl)
        have HB3Q := Lib.hid (HB3D.out.put (.string s0) (.func (.func fk) #[] #[]) (.map o))
        have HGQ : Hid (GlueAt (((D.setCell ⟨z3, 0, none⟩ (.string s0)).setCell ⟨z3, 1, none⟩ (.func (.func fk) #[] #[])).setCell ⟨z3, 2, none⟩ (.map o)) (.map o) kk1) := Lib.hid (by
          rcases HGD.out with h | ⟨m, h1, h2⟩
          · exact .inl h
          · exact .inr ⟨m, h1, h2.of_heap (kq.block m h2.lt (fun e => h2.not_cell HB3D.out.1 e.symm))⟩)
        have HKQ : Hid (Keep (fun _ => False) w (((D.setCell ⟨z3, 0, none⟩ (.string s0)).setCell ⟨z3, 1, none⟩ (.func (.func fk) #[] #[])).setCell ⟨z3, 2, none⟩ (.map o))) := Lib.hid (HKF.out.trans' kq (fun j e => .inr (by have h5 : j = z3 := e; have := HZ3.out; omega)))
        have HKC : Hid (Keep (fun j => j = z3) W5 (((D.setCell ⟨z3, 0, none⟩ (.string s0)).setCell ⟨z3, 1, none⟩ (.func (.func fk) #[] #[])).setCell ⟨z3, 2, none⟩ (.map o))) := Lib.hid ((HKD.out.mono (fun _ h => h.elim)).trans kq)
        clear y0 y1 y2 yf kq HB3D HGD
        generalize ((D.setCell ⟨z3, 0, none⟩ (.string s0)).setCell ⟨z3, 1, none⟩ (.func (.func fk) #[] #[])).setCell ⟨z3, 2, none⟩ (.map o) = D2 at *
        refine ⟨inKA.of HKC.out, ?_⟩
        obtain ⟨y0, y1, y2, -⟩ := HB3Q.out
        go_wp2_with fail
        refine bodyPost_ret (v := .tuple #[.int .i64 kk1, .agg #[.string s0, .func (.func fk) #[] #[], .map o]]) (by simp [results, Tryz.results43, go_sem, y0, y1, y2]) rfl ?_
        refine Or.inl ⟨kk1, o, (kind_iff _ _).2 ⟨HAB.out.1, HAB.out.2, HW.out⟩, by rw [HS0.out, HFK.out], HGQ.out, HKQ.out⟩
      · have hbe : (s0.toList == x.toList) = false := by rw [str_beq, ← HS0.out, bs_list]; simpa using hw
        have HW := Lib.hid hw
        clear hw
        go_wp2_with fail
        refine ⟨⟨left', HRG5.out, fun k a b c => ?_, HK5.out⟩, HLE5.out⟩
        have h1 := HP.out.mem_iff.1 (HM.out k a b c)
        rcases List.mem_cons.1 h1 with h2 | h2
        · have h3 : k = kk1 := (Value.int.inj (Prod.mk.inj h2).1).2
          subst h3
          exact absurd c HW.out
        · exact h2
end Go.Proofs.YtmndjicaofciiaaGreatDoor
