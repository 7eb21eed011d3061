/-
  slices.SortFunc of at most twelve keys.
-/
import Derived.Test.YtogkkghliogpeaaC1
import Derived.Deep.LoopGhost
import Derived.BigRegion
namespace Go.Proofs.Ytogkkghliogpeaa
open Go.RowKit Go.Shelf

/-- The row at blk reads as ks; all else is as in w. -/
structure Row (w : World) (blk : Nat) (ks : List ByteArray) (W : World) : Prop where
  k : Keep (fun i => i = blk) w W
  c : ∀ i x, ks[i]? = some x → W.cell? ⟨blk, i, none⟩ = some (.string x)
  f : ∀ i, W.frozen? ⟨blk, i, none⟩ = false

theorem Row.keep {w W W' : World} {blk : Nat} {ks : List ByteArray} (h : Row w blk ks W) (hb : blk < W.heap.size) (k : Keep (fun _ => False) W W') : Row w blk ks W' :=
  ⟨h.k.trans (k.mono (fun _ h => h.elim)), fun i x hx => k.cell (h.c i x hx) (fun h => h), fun i => (k.frozen hb (fun h => h) i).trans (h.f i)⟩

theorem get_mid {A R : List ByteArray} {x : ByteArray} : (A ++ x :: R)[A.length]? = some x := by simp

theorem Row.swap {w W : World} {blk : Nat} {A B : List ByteArray} {x y : ByteArray} (h : Row w blk (A ++ y :: x :: B) W) :
    Row w blk (A ++ x :: y :: B) ((W.setCell ⟨blk, A.length + 1, none⟩ (.string y)).setCell ⟨blk, A.length, none⟩ (.string x)).drew := by
  have cy := h.c A.length y (by simp)
  have cx := h.c (A.length + 1) x (by rw [List.getElem?_append_right (by omega)]; simp)
  refine ⟨((h.k.setCell (p := ⟨blk, A.length + 1, none⟩) _ (.inl rfl)).setCell (p := ⟨blk, A.length, none⟩) _ (.inl rfl)).drew, fun i z hz => ?_, fun i => ?_⟩
  · show ((W.setCell ⟨blk, A.length + 1, none⟩ (.string y)).setCell ⟨blk, A.length, none⟩ (.string x)).cell? _ = _
    by_cases h1 : i = A.length
    · subst h1
      rw [List.getElem?_append_right (by omega)] at hz
      simp at hz
      subst hz
      exact cell_set_same ((cell_set_off (by omega)).trans cy)
    · rw [cell_set_off (by omega)]
      by_cases h2 : i = A.length + 1
      · subst h2
        rw [List.getElem?_append_right (by omega)] at hz
        simp at hz
        subst hz
        exact cell_set_same cx
      · rw [cell_set_off (by omega)]
        apply h.c
        by_cases h3 : i < A.length
        · rw [List.getElem?_append_left h3] at hz ⊢; exact hz
        · rw [List.getElem?_append_right (by omega)] at hz ⊢
          obtain ⟨m, hm⟩ : ∃ m, i - A.length = m + 2 := ⟨i - A.length - 2, by omega⟩
          rw [hm] at hz ⊢
          simpa using hz
  · show ((W.setCell ⟨blk, A.length + 1, none⟩ (.string y)).setCell ⟨blk, A.length, none⟩ (.string x)).frozen? _ = _
    rw [World.frozen?_setCell, World.frozen?_setCell]; exact h.f i

/-- Between two steps of the inner loop: x at its place among those before it. -/
structure InS (L : List C) (ks : List ByteArray) (i j : Nat) (A B R : List ByteArray) (x : ByteArray) : Prop where
  pm : (A ++ x :: (B ++ R)).Perm ks
  ja : A.length = j
  ib : A.length + B.length = i
  so : (A ++ B).Pairwise (Bef L)
  xb : ∀ b ∈ B, Bef L x b

def OutR (w : World) (L : List C) (blk : Nat) (ks : List ByteArray) (i : Nat) (W : World) : Prop := ∃ ds, Row w blk ds W ∧ ds.Perm ks ∧ (ds.take i).Pairwise (Bef L)

theorem Bef.total {L : List C} {a b : ByteArray} (h : a ≠ b) : Bef L a b ∨ Bef L b a := by
  rcases cmpK_cases L a b with ⟨_, h1⟩ | ⟨_, h1⟩ | ⟨_, h1⟩
  · exact .inl h1
  · exact absurd h1 h
  · exact .inr h1

theorem InS.done {L : List C} {ks : List ByteArray} {i j : Nat} {A B R : List ByteArray} {x : ByteArray} (h : InS L ks i j A B R x) (hA : ∀ a ∈ A, Bef L a x) : ((A ++ x :: (B ++ R)).take (i + 1)).Pairwise (Bef L) := by
  have e : (A ++ x :: (B ++ R)).take (i + 1) = A ++ x :: B := by
    have : A ++ x :: (B ++ R) = (A ++ x :: B) ++ R := by simp
    rw [this, List.take_append_of_le_length (by simp; have := h.ib; omega), List.take_of_length_le (by simp; have := h.ib; omega)]
  rw [e]
  have hs := List.pairwise_append.1 h.so
  rw [List.pairwise_append]
  refine ⟨hs.1, List.pairwise_cons.2 ⟨h.xb, hs.2.1⟩, fun a ha b hb => ?_⟩
  rcases List.mem_cons.1 hb with rfl | hb
  · exact hA a ha
  · exact hs.2.2 a ha b hb
theorem InS.step {L : List C} {ks : List ByteArray} {i j : Nat} {A B R : List ByteArray} {x y : ByteArray} (h : InS L ks i (j + 1) (A ++ [y]) B R x) (hxy : Bef L x y) : InS L ks i j A (y :: B) R x := by
  refine ⟨?_, by have := h.ja; simp at this; omega, by have := h.ib; simp at this ⊢; omega, ?_, ?_⟩
  · refine List.Perm.trans ?_ h.pm
    rw [List.append_assoc]
    exact List.Perm.append_left A (List.Perm.swap y x (B ++ R))
  · have := h.so
    rw [List.append_assoc] at this
    exact this
  · intro b hb
    rcases List.mem_cons.1 hb with rfl | hb
    · exact hxy
    · exact h.xb b hb
theorem InS.last {L : List C} {ks : List ByteArray} {i j : Nat} {A B R : List ByteArray} {x y : ByteArray} (h : InS L ks i j (A ++ [y]) B R x) (hyx : Bef L y x) : ∀ a ∈ A ++ [y], Bef L a x := by
  intro a ha
  rcases List.mem_append.1 ha with ha | ha
  · have hs := (List.pairwise_append.1 h.so).1
    exact ((List.pairwise_append.1 hs).2.2 a ha y (by simp)).trans hyx
  · rw [List.mem_singleton] at ha; rw [ha]; exact hyx

abbrev cmpV (s : Nat) : Value := .func (.func 43) #[ptr s] #[]

set_option maxRecDepth 100000 in
set_option maxHeartbeats 2000000 in
theorem insertion_sk {w : World} {s bm blk c : Nat} {cap tot : Int} {L : List C} (h : SkAt w s bm cap tot L) (hs : s ≠ blk) (hbm : bm ≠ blk) (hblk : blk < w.heap.size) (ks : List ByteArray) (hn : ks.Nodup) (hks : ∀ k ∈ ks, k.size ≤ maxLen) (hl : ks.length ≤ 12) (hr : Row w blk ks w) :
    Calls Try.prog 58 #[.slice (some ⟨blk, 0, none⟩) ks.length c, .int .i64 0, .int .i64 ks.length, cmpV s] w fun e w' => e = .returned (.tuple #[]) ∧ OutR w L blk ks ks.length w' := by
  have H := Lib.hid h
  have HR := Lib.hid hr
  have HN := Lib.hid hn
  have HKS := Lib.hid hks
  have HNE := Lib.hid (And.intro hs hbm)
  obtain ⟨n, hn'⟩ : ∃ n, n = ks.length := ⟨_, rfl⟩
  have HLN := Lib.hid hn'
  rw [← hn'] at hl ⊢
  clear h hr hn hks hs hbm hn'
  go_enter Try.func58, Try.ntmps58
  go_wp2_with fail
  go_loopg [8] n (fun g1 vi wr => ∃ i : Nat, vi = .int .i64 i ∧ 1 ≤ i ∧ (i ≤ n ∨ i = 1) ∧ n ≤ g1 + i ∧ OutR w L blk ks i wr)
  case atStart => exact ⟨1, rfl, Nat.le_refl _, .inr rfl, by omega, ks, HR.out, List.Perm.refl _, by cases ks with | nil => simp | cons a r => simp⟩
  case round =>
    obtain ⟨i, rfl, hi1, hin, hg1, ds, hrow, hpm, hsort⟩ := hrel
    by_cases hlt : i < n
    · have hltz : (i : Int) < (n : Int) := by omega
      obtain ⟨A, x, R, hA, hds⟩ : ∃ A x R, A.length = i ∧ ds = A ++ x :: R := by
        have hlen : i < ds.length := by rw [hpm.length_eq, ← HLN.out]; exact hlt
        exact ⟨ds.take i, ds[i], ds.drop (i + 1), by simp; omega, by rw [← List.drop_eq_getElem_cons hlen, List.take_append_drop]⟩
      have HIN : Hid (InS L ks i i A [] R x) := Lib.hid ⟨by rw [hds] at hpm; exact hpm, hA, by simpa using hA, by rw [List.append_nil]; rw [hds, ← hA, List.take_left] at hsort; exact hsort, by simp⟩
      rw [hds] at hrow
      have HROW := Lib.hid hrow
      clear hrow hpm hsort hA hds
      go_wp2_with fail
      go_loopg [9] i (fun g2 vj wr2 => ∃ (j : Nat) (A B : List ByteArray), vj = .int .i64 j ∧ j ≤ g2 ∧ j ≤ i ∧ InS L ks i j A B R x ∧ Row w blk (A ++ x :: (B ++ R)) wr2)
      case atStart => exact ⟨i, A, [], rfl, Nat.le_refl _, Nat.le_refl _, HIN.out, HROW.out⟩
      case round =>
        clear HIN HROW
        obtain ⟨j, A, B, rfl, hg2, hji, hin', hrow⟩ := hrel
        have HIN := Lib.hid hin'
        have HROW := Lib.hid hrow
        clear hin' hrow
        have HSK := Lib.hid (H.out.keep HROW.out.k HNE.out.1 HNE.out.2)
        have HBL := Lib.hid (Nat.lt_of_lt_of_le hblk HROW.out.k.size)
        by_cases hj : 0 < j
        · obtain ⟨jp, rfl⟩ : ∃ q, j = q + 1 := ⟨j - 1, by omega⟩
          obtain ⟨A, y, rfl⟩ : ∃ A' y, A = A' ++ [y] := by
            rcases List.eq_nil_or_concat A with rfl | ⟨A', y, e⟩
            · have := HIN.out.ja; simp at this
            · exact ⟨A', y, by simpa using e⟩
          have hjA : A.length = jp := by have := HIN.out.ja; simp at this; exact this
          have hmx : x ∈ ks := HIN.out.pm.mem_iff.1 (by simp)
          have hmy : y ∈ ks := HIN.out.pm.mem_iff.1 (by simp)
          have HKX := Lib.hid (HKS.out x hmx)
          have HKY := Lib.hid (HKS.out y hmy)
          have HXY : Hid (x ≠ y) := Lib.hid (by
            have := HIN.out.pm.nodup_iff.2 HN.out
            rw [List.append_assoc, List.nodup_append] at this
            have h2 := this.2.1
            simp only [List.singleton_append, List.nodup_cons, List.mem_cons, not_or] at h2
            exact fun e => h2.1.1 e.symm)
          have hrow' : Row w blk (A ++ y :: x :: (B ++ R)) wr := by have := HROW.out; rw [List.append_assoc] at this; exact this
          have cy0 := hrow'.c jp y (by rw [← hjA]; simp)
          have cx0 := hrow'.c (jp + 1) x (by rw [← hjA, List.getElem?_append_right (by omega)]; simp)
          have HRW := Lib.hid hrow'
          have cy : ∀ p : KW wr, p.val.cell? ⟨blk, jp, none⟩ = some (.string y) := fun p => p.k.cell cy0 (fun h => h)
          have cx : ∀ p : KW wr, p.val.cell? ⟨blk, jp + 1, none⟩ = some (.string x) := fun p => p.k.cell cx0 (fun h => h)
          have hb1 : (jp : Int) + 1 < (n : Int) := by omega
          have hb0 : (jp : Int) < (n : Int) := by omega
          have hb2 : (0 : Int) ≤ (jp : Int) + 1 := by omega
          have hb3 : (0 : Int) ≤ (jp : Int) := by omega
          have hb4 : IntKind.i64.wrap (jp : Int) = (jp : Int) := by rw [IntKind.wrap_i64]; omega
          clear hrow' cy0 cx0 hmx hmy
          cases hlv : decide (cmpK L x y < 0) with
          | true =>
            go_wp2_with fail
            refine wp_region_quiet_kept (by kernel_rfl) (by kernel_rfl) ?_
            repeat (quiet_step ((go_at_call 43; refine Calls.kept_of (compare_sk (HSK.out.keep (KW.k _) (fun h => h) (fun h => h)) x y HKX.out HKY.out))))
            refine wpQuiet_nil ?_
            rintro _ ⟨p, rfl⟩
            have HR2 := Lib.hid (HRW.out.keep HBL.out p.k)
            clear cx cy
            generalize p.val = W2 at *
            have cy := HR2.out.c jp y (by rw [← hjA]; simp)
            have cx := HR2.out.c (jp + 1) x (by rw [← hjA, List.getElem?_append_right (by omega)]; simp)
            have fy := HR2.out.f jp
            have fx := HR2.out.f (jp + 1)
            have cy2 : (W2.setCell ⟨blk, jp + 1, none⟩ (.string y)).cell? ⟨blk, jp, none⟩ = some (.string y) := (cell_set_off (by omega)).trans cy
            have HR3 : Hid (Row w blk (A ++ x :: y :: (B ++ R)) ((W2.setCell ⟨blk, jp + 1, none⟩ (.string y)).setCell ⟨blk, jp, none⟩ (.string x)).drew) := Lib.hid (by rw [← hjA]; exact HR2.out.swap)
            have HXB := Lib.hid (HIN.out.step (cmpK_neg.1 (of_decide_eq_true hlv)))
            go_wp2_with fail
            go_big_region
            clear cx cy fx fy cy2 HR2
            generalize ((W2.setCell ⟨blk, jp + 1, none⟩ (.string y)).setCell ⟨blk, jp, none⟩ (.string x)).drew = W3 at *
            go_wp2_with fail
            go_roundg jp
            case rel => exact ⟨jp, A, y :: B, by go_num, Nat.le_refl _, by omega, HXB.out, HR3.out⟩
            case measure => omega
          | false =>
            have HOUT : Hid (∀ a ∈ A ++ [y], Bef L a x) := Lib.hid (HIN.out.last ((Bef.total HXY.out).resolve_left (fun h => by have := cmpK_neg.2 h; have := of_decide_eq_false hlv; omega)))
            go_wp2_with fail
            refine wp_region_quiet_kept (by kernel_rfl) (by kernel_rfl) ?_
            repeat (quiet_step ((go_at_call 43; refine Calls.kept_of (compare_sk (HSK.out.keep (KW.k _) (fun h => h) (fun h => h)) x y HKX.out HKY.out))))
            refine wpQuiet_nil ?_
            rintro _ ⟨p, rfl⟩
            have HR2 := Lib.hid (HROW.out.keep HBL.out p.k)
            clear cx cy
            generalize p.val = W2 at *
            go_wp2_with fail
            go_roundg (n - (i + 1))
            case rel => exact ⟨i + 1, by go_num, by omega, .inl (by omega), by omega, _, HR2.out, HIN.out.pm, HIN.out.done HOUT.out⟩
            case measure => omega
        · obtain rfl : j = 0 := by omega
          have HOUT : Hid (∀ a ∈ A, Bef L a x) := Lib.hid (fun a ha => by have := HIN.out.ja; rw [List.length_eq_zero_iff] at this; rw [this] at ha; cases ha)
          go_wp2_with fail
          go_big_region
          have HR2 := Lib.hid (HROW.out.keep HBL.out (Keep.refl (fun _ => False) wr).drew)
          generalize wr.drew = W2 at *
          go_wp2_with fail
          go_roundg (n - (i + 1))
          case rel => exact ⟨i + 1, by go_num, by omega, .inl (by omega), by omega, _, HR2.out, HIN.out.pm, HIN.out.done HOUT.out⟩
          case measure => omega
    · have hltz : ¬ (i : Int) < (n : Int) := by omega
      have HROW := Lib.hid hrow
      have HF : Hid (OutR w L blk ks n wr) := Lib.hid ⟨ds, hrow, hpm, by
        have e : ds.length = n := by rw [hpm.length_eq, ← HLN.out]
        rw [List.take_of_length_le (by omega)]
        rw [List.take_of_length_le (by omega)] at hsort
        exact hsort⟩
      clear hrow hpm hsort
      go_wp2_with fail
      go_end0
      exact ⟨rfl, HF.out⟩
end Go.Proofs.Ytogkkghliogpeaa
