/-
  SketchMerged: the walk.
-/
import Derived.Test.YtogkkghliogpeaaI1
import Derived.Test.YtogkkghliogpeaaG7
import Derived.Test.YtogkkghliogpeaaP2
namespace Go.Proofs.Ytogkkghliogpeaa
open Go.RowKit Go.Shelf

/-- A sketch's counters that are exact. -/
structure Ex (L : List C) (c : ByteArray → Int) (B : Int) : Prop where
  ex : Exact L c
  nn : ∀ k, 0 ≤ c k
  nm : Named L
  sm : sumH L ≤ B
theorem Ex.nil : Ex [] (fun _ => 0) 0 := ⟨Exact.nil, fun _ => Int.le_refl _, (fun x hx => nomatch hx), (by simp [sumH])⟩
theorem Ex.add {cap : Nat} {L : List C} {c : ByteArray → Int} {B n : Int} (h : Ex L c B) (ok : OkL cap L) (hc : 10 < cap) {key : ByteArray} (hk : key ∈ nms) (hn : 1 ≤ n) (hn2 : n ≤ 1000) : Ex (addC cap L key n) (plus c key n) (B + 1000) :=
  ⟨h.ex.add ok h.nn hn (by have := h.nm.len ok.keys; omega), fun k => by unfold plus; have := h.nn k; split <;> omega, h.nm.add hk, by rw [addC_sum ok]; have := h.sm; omega⟩
theorem Ex.up {L : List C} {c : ByteArray → Int} {B B' : Int} (h : Ex L c B) (hB : B ≤ B') : Ex L c B' := ⟨h.ex, h.nn, h.nm, by have := h.sm; omega⟩
theorem Ex.mrg {cap cap' : Nat} {L L' : List C} {c c' : ByteArray → Int} {B B' : Int} (h : Ex L c B) (h' : Ex L' c' B') (ok : OkL cap L) (ok' : OkL cap' L') (hB : B ≤ 1000000) (hB' : B' ≤ 1000000) (hc : cap ≤ cap') : Mrg cap L cap' L' :=
  ⟨ok, ok', by have := h.sm; omega, by have := h.sm; have := h'.sm; omega, hc, by have := h.nm.union h'.nm ok.keys ok'.keys; omega⟩
theorem Ex.merge {cap cap' : Nat} {L L' : List C} {c c' : ByteArray → Int} {B B' : Int} (h : Ex L c B) (h' : Ex L' c' B') (ok : OkL cap L) (ok' : OkL cap' L') (hB : B ≤ 1000000) (hB' : B' ≤ 1000000) (hc : cap ≤ cap') (h10 : 10 < cap) : Ex (mergeC cap L cap' L') (fun k => c k + c' k) 12000000000000000 := by
  have m := h.mrg h' ok ok' hB hB' hc
  have hu := h.nm.union h'.nm ok.keys ok'.keys
  refine ⟨Exact.merge m h.ex h'.ex h.nn h'.nn (by have := h.nm.len ok.keys; omega) (by have := h'.nm.len ok'.keys; omega) (by omega), fun k => by have := h.nn k; have := h'.nn k; show 0 ≤ c k + c' k; omega, h.nm.merge h'.nm, ?_⟩
  have hsub : (mergeC cap L cap' L').Sublist (joinC cap L cap' L') := List.take_sublist _ _
  exact (m.part (m.join_keys.sublist (hsub.map _)) (fun x hx => hsub.mem hx)).2
theorem Ex.eq {cap cap' : Nat} {L M : List C} {c d : ByteArray → Int} {B B' : Int} (h : Ex L c B) (h' : Ex M d B') (ok : OkL cap L) (ok' : OkL cap' M) (e : ∀ k, d k = c k) : L = M :=
  exact_eq ok.keys ok'.keys ok.sorted ok'.sorted h.ex (h'.ex.congr (fun k => (e k).symm))

theorem nms_key (t : Nat) (ht : t < 10) : ∃ key, nms[t]? = some key ∧ key.size ≤ maxLen ∧ key ∈ nms := by
  obtain ⟨key, h1, h2⟩ := nms_get t ht
  exact ⟨key, h1, h2, List.mem_of_getElem? h1⟩

/-- At the head of a round. -/
structure MG (w W : World) (s1 b1 s2 b2 s3 b3 s4 b4 s5 b5 s6 b6 : Nat) (i : Int) (La Lb Ld : List C) : Prop where
  fam : Fam w W [⟨s1, b1, 64, La⟩, ⟨s2, b2, 64, Lb⟩, ⟨s3, b3, 64, La⟩, ⟨s4, b4, 64, Ld⟩, ⟨s5, b5, 64, []⟩, ⟨s6, b6, 63, []⟩]
  ex : ∃ ca cb, Ex La ca (1000 * i) ∧ Ex Lb cb (1000 * i) ∧ Ex Ld (fun k => ca k + cb k) (1000 * i)

theorem plus_l (ca cb : ByteArray → Int) (key : ByteArray) (n : Int) (k : ByteArray) : plus ca key n k + cb k = plus (fun k => ca k + cb k) key n k := by
  unfold plus; by_cases h : k = key
  · rw [if_pos h, if_pos h]; show ca k + n + cb k = ca k + cb k + n; omega
  · rw [if_neg h, if_neg h]
theorem plus_r (ca cb : ByteArray → Int) (key : ByteArray) (n : Int) (k : ByteArray) : ca k + plus cb key n k = plus (fun k => ca k + cb k) key n k := by
  unfold plus; by_cases h : k = key
  · rw [if_pos h, if_pos h]; show ca k + (cb k + n) = ca k + cb k + n; omega
  · rw [if_neg h, if_neg h]
theorem Ex.congr {L : List C} {c d : ByteArray → Int} {B : Int} (h : Ex L c B) (e : ∀ k, d k = c k) : Ex L d B := ⟨h.ex.congr e, fun k => by rw [e]; exact h.nn k, h.nm, h.sm⟩

theorem mrgBad_cap {cap cap' : Nat} {L L' : List C} (h : cap' < cap) : mrgBad cap L cap' L' := .inl h
theorem top_all {w : World} {s bm cap : Nat} {L : List C} (h : Sk w s bm cap L) (hl : L.length ≤ 12) : Calls Try.prog 15 #[ptr s, .int .i64 64] w (TopPost w (L.map ctrOf)) := by
  have h1 := top_sk h hl 64
  rwa [show topC L 64 = L.map ctrOf from topC_all L 64 (by omega)] at h1
theorem same_eq {W : World} {va vb : Value} {l : List K3} (ha : CtrsAt W va l) (hb : CtrsAt W vb l) (hl : l.length ≤ 12) : Calls Try.prog 19 #[va, vb] W fun e w' => e = .returned (.bool true) ∧ ∃ k, w' = W.drewN k :=
  (same_any va vb l l W ha hb (by omega) (by omega)).mono fun _ _ ⟨h1, h2⟩ => ⟨by rw [h1]; simp, h2⟩
theorem Fam.pair {w W : World} {A B : List SE} {e x : SE} (h : Fam w W (A ++ e :: B)) (hx : x ∈ A ++ B) : Sk W x.s x.bm x.cap x.L ∧ e.s ≠ x.s ∧ e.bm ≠ x.bm := by
  have ho := h.other hx
  have hx' : x ∈ A ++ e :: B := by simp only [List.mem_append, List.mem_cons] at hx ⊢; rcases hx with h | h <;> simp [h]
  exact ⟨(h.sk x hx').1, fun e' => ho.1 e'.symm, fun e' => ho.2.1 e'.symm⟩

set_option maxRecDepth 100000 in
set_option maxHeartbeats 8000000 in
theorem merged_go (a : Option Addr) (b off n c : Nat) (f : Nat → Nat → Int) (w : World) (hn : n ≤ 9223372036854775807) (ha : 0 < n → a = some ⟨b, off, none⟩) (hst : Steps w b off n f) :
    Calls Try.prog 5 #[.slice a n c] w fun e w' => e = .returned (.bool true) ∧ Keep (fun _ => False) w w' := by
  have hn64 : ∀ w, Calls Try.prog 12 #[.int .i64 64] w (NewPost 64 w) := fun w => new_ok 64 (by decide) (by decide) w
  have hn63 : ∀ w, Calls Try.prog 12 #[.int .i64 63] w (NewPost 63 w) := fun w => new_ok 63 (by decide) (by decide) w
  have HN64 := Lib.hid hn64
  have HN63 := Lib.hid hn63
  have HST := Lib.hid hst
  have HAD := Lib.hid ha
  clear hn64 hn63 hst ha
  go_enter Try.func5, Try.ntmps5
  go_wp2_with fail
  with_reducible refine (sane_any _).mono ?_
  rintro e W0 ⟨rfl, k0⟩
  have HF0 := Lib.hid (Fam.nil k0)
  clear k0
  go_wp2_with fail
  with_reducible refine (HN64.out _).mono ?_
  rintro e W1 ⟨s1, b1, rfl, hs, kk, hl1, hl2⟩
  have HF1 := Lib.hid (HF0.out.new hs kk hl1 hl2)
  clear hs kk hl1 hl2 HF0
  go_wp2_with fail
  with_reducible refine (HN64.out _).mono ?_
  rintro e W2 ⟨s2, b2, rfl, hs, kk, hl1, hl2⟩
  have HF2 := Lib.hid (HF1.out.new hs kk hl1 hl2)
  clear hs kk hl1 hl2 HF1
  go_wp2_with fail
  with_reducible refine (HN64.out _).mono ?_
  rintro e W3 ⟨s3, b3, rfl, hs, kk, hl1, hl2⟩
  have HF3 := Lib.hid (HF2.out.new hs kk hl1 hl2)
  clear hs kk hl1 hl2 HF2
  go_wp2_with fail
  with_reducible refine (HN64.out _).mono ?_
  rintro e W4 ⟨s4, b4, rfl, hs, kk, hl1, hl2⟩
  have HF4 := Lib.hid (HF3.out.new hs kk hl1 hl2)
  clear hs kk hl1 hl2 HF3
  go_wp2_with fail
  with_reducible refine (HN64.out _).mono ?_
  rintro e W5 ⟨s5, b5, rfl, hs, kk, hl1, hl2⟩
  have HF5 := Lib.hid (HF4.out.new hs kk hl1 hl2)
  clear hs kk hl1 hl2 HF4
  go_wp2_with fail
  with_reducible refine (HN63.out _).mono ?_
  rintro e W6 ⟨s6, b6, rfl, hs, kk, hl1, hl2⟩
  have HF6 : Hid (MG w W6 s1 b1 s2 b2 s3 b3 s4 b4 s5 b5 s6 b6 0 [] [] []) := Lib.hid ⟨HF5.out.new hs kk hl1 hl2, _, _, Ex.nil, Ex.nil, Ex.nil.congr (fun _ => rfl)⟩
  clear hs kk hl1 hl2 HF5 HN64 HN63
  go_wp2_with fail
  go_loopg [16] 60 (fun gh vi wr => ∃ (i : Nat) (La Lb Ld : List C), vi = .int .i64 i ∧ i ≤ 60 ∧ 60 ≤ gh + i ∧ MG w wr s1 b1 s2 b2 s3 b3 s4 b4 s5 b5 s6 b6 i La Lb Ld)
  case atStart => exact ⟨0, [], [], [], rfl, by omega, by omega, HF6.out⟩
  case round =>
    clear HF6
    obtain ⟨i, La, Lb, Ld, rfl, hi60, hgh, hmg⟩ := hrel
    have HF := Lib.hid hmg
    clear hmg
    by_cases hgo : i < n ∧ i < 60
    · obtain ⟨hin, hi⟩ := hgo
      obtain rfl := HAD.out (by omega)
      have hinz : (i : Int) < (n : Int) := by omega
      have hiz : (i : Int) < 60 := by omega
      have hi0 : (0 : Int) ≤ (i : Int) := by omega
      have hf0 : -9223372036854775808 ≤ f i 0 ∧ f i 0 ≤ 9223372036854775807 := ⟨HST.out.lo i 0, HST.out.hi i 0⟩
      have hf1 : -9223372036854775808 ≤ f i 1 ∧ f i 1 ≤ 9223372036854775807 := ⟨HST.out.lo i 1, HST.out.hi i 1⟩
      have hf2 : -9223372036854775808 ≤ f i 2 ∧ f i 2 ≤ 9223372036854775807 := ⟨HST.out.lo i 2, HST.out.hi i 2⟩
      obtain ⟨n0, hn0', hn0l⟩ := pk_int (f i 0) 2 (by decide)
      obtain ⟨n2, hn2, hn2l⟩ := pk_int (f i 2) 1000 (by decide)
      obtain ⟨t, ht, htl⟩ := pk_int (f i 1) 10 (by decide)
      obtain ⟨key, hkey, hks, hkn⟩ := nms_key t (by omega)
      have HP0 := Lib.hid hn0'
      have HP2 := Lib.hid hn2
      have HPT := Lib.hid ht
      have HKEY := Lib.hid (And.intro hkey (And.intro hks hkn))
      clear hn0' hn2 ht hkey hks hkn
      go_wp2_with fail
      have c1 : ∀ p : KA (fun _ => False) wr, p.val.cell? ⟨b, off + i * 3 + 1, none⟩ = some (.int .i64 (f i 1)) := fun p => p.k.cell (HF.out.fam.k.cell (HST.out.cell i 1 hin (by decide)) (fun h => h)) (fun h => h)
      refine wp_region_walk [(true, 1), (true, 2), (true, 3), (true, 4), (true, 5), (false, 0), (false, 6), (false, 7), (false, 8), (false, 9)] (inKA (fun _ => False) wr) (by kernel_rfl) (by kernel_rfl) ?_
      iterate 5 (refine walkW_read rfl (fun K hK => ?_); go_simp; refine hK _ ?_; clear hK K)
      clear c1
      refine walkW_do rfl (inKA.of (Keep.refl _ wr).drew) (fun K hK => ?_)
      go_simp
      refine (names_any _).mono ?_
      rintro e W7 ⟨nb, rfl, hnb, k7, hc7⟩
      have HK7 : Hid (Keep (fun _ => False) wr W7) := Lib.hid ((Keep.refl _ wr).drew.trans k7)
      have HCN := Lib.hid (hc7 t key HKEY.out.1)
      clear hnb k7 hc7
      refine hK _ _ ?_; clear hK K
      refine walkW_do rfl (inKA.of HK7.out) (fun K hK => ?_)
      go_simp
      refine (pick_int (f i 1) 10 t _ hf1.1 hf1.2 (by decide) (by decide) HPT.out).mono ?_
      rintro e W7' ⟨rfl, rfl⟩
      refine hK _ _ ?_; clear hK K
      have ht0 : (0 : Int) ≤ (t : Int) := by omega
      have hcn := HCN.out
      refine walkW_do rfl (inKA.of HK7.out) (fun K hK => ?_)
      go_simp
      refine hK _ _ ?_; clear hK K
      refine walkW_do rfl (inKA.of HK7.out) (fun K hK => ?_)
      go_simp
      refine hK _ _ ?_; clear hK K
      refine walkW_do rfl (inKA.of HK7.out) (fun K hK => ?_)
      go_simp
      refine hK _ _ ?_; clear hK K
      refine ⟨inKA.of HK7.out, ?_⟩
      clear hcn
      have HF7 := Lib.hid (HF.out.fam.keep HK7.out)
      have q2 := HF7.out.k.cell (HST.out.cell i 2 hin (by decide)) (fun h => h)
      go_wp2_with fail
      with_reducible refine (pick_int (f i 2) 1000 n2 _ hf2.1 hf2.2 (by decide) (by decide) HP2.out).mono ?_
      rintro e W7' ⟨rfl, rfl⟩
      obtain ⟨ca, cb, ha, hb, hd⟩ := HF.out.ex
      have okA := (HF7.out.sk _ (List.mem_cons_self)).1.ok
      have okD := (HF7.out.at_ (A := [_, _, _]) (B := [_, _])).ok
      have okB := (HF7.out.at_ (A := [_]) (B := [_, _, _, _])).ok
      have hsA := ha.sm
      have hsB := hb.sm
      have hsD := hd.sm
      have HEX := Lib.hid (And.intro ha (And.intro hb hd))
      have HOK := Lib.hid (And.intro okA (And.intro okB okD))
      clear ha hb hd okA okB okD
      go_wp2_with fail
      with_reducible refine (add_ok (HF7.out.at_ (A := [_, _, _]) (B := [_, _])) key HKEY.out.2.1 (1 + (n2 : Int)) (by omega) (by omega) (by simp only []; omega)).mono ?_
      rintro e W8 ⟨rfl, hsk, k8⟩
      have HF8 := Lib.hid (HF7.out.upd (A := [_, _, _]) (B := [_, _]) k8 hsk)
      clear hsk k8 HF7
      have q0 := HF8.out.k.cell (HST.out.cell i 0 hin (by decide)) (fun h => h)
      rw [Nat.add_zero] at q0
      clear q2
      go_wp2_with fail
      with_reducible refine (pick_int (f i 0) 2 n0 _ hf0.1 hf0.2 (by decide) (by decide) HP0.out).mono ?_
      rintro e W8' ⟨rfl, rfl⟩
      clear q0
      by_cases hz : n0 = 0
      · subst hz
        go_wp2_with fail
        with_reducible refine (add_ok (HF8.out.at_ (A := []) (B := [_, _, _, _, _])) key HKEY.out.2.1 (1 + (n2 : Int)) (by omega) (by omega) (by simp only []; omega)).mono ?_
        rintro e W9 ⟨rfl, hsk, k9⟩
        have HF9 := Lib.hid (HF8.out.upd (A := []) (B := [_, _, _, _, _]) k9 hsk)
        clear hsk k9 HF8
        go_wp2_with fail
        with_reducible refine (add_ok (HF9.out.at_ (A := [_, _]) (B := [_, _, _])) key HKEY.out.2.1 (1 + (n2 : Int)) (by omega) (by omega) (by simp only []; omega)).mono ?_
        rintro e W10 ⟨rfl, hsk, k10⟩
        have HFT : Hid (MG w W10 s1 b1 s2 b2 s3 b3 s4 b4 s5 b5 s6 b6 ((i : Int) + 1) (addC 64 La key (1 + (n2 : Int))) Lb (addC 64 Ld key (1 + (n2 : Int)))) := Lib.hid ⟨HF9.out.upd (A := [_, _]) (B := [_, _, _]) k10 hsk, plus ca key (1 + (n2 : Int)), cb,
          (HEX.out.1.add HOK.out.1 (by decide) HKEY.out.2.2 (by omega) (by omega)).up (by omega), HEX.out.2.1.up (by omega), ((HEX.out.2.2.add HOK.out.2.2 (by decide) HKEY.out.2.2 (by omega) (by omega)).up (by omega)).congr (fun k => plus_l ca cb key _ k)⟩
        clear hsk k10 HF9
        go_wp2_with fail
        go_roundg (60 - (i + 1))
        case rel => exact ⟨i + 1, _, _, _, by go_num, by omega, by omega, by simpa using HFT.out⟩
        case measure => omega
      · have hnz : ((n0 : Int) == 0) = false := by simp; omega
        go_wp2_with fail
        with_reducible refine (add_ok (HF8.out.at_ (A := [_]) (B := [_, _, _, _])) key HKEY.out.2.1 (1 + (n2 : Int)) (by omega) (by omega) (by simp only []; omega)).mono ?_
        rintro e W9 ⟨rfl, hsk, k9⟩
        have HFT : Hid (MG w W9 s1 b1 s2 b2 s3 b3 s4 b4 s5 b5 s6 b6 ((i : Int) + 1) La (addC 64 Lb key (1 + (n2 : Int))) (addC 64 Ld key (1 + (n2 : Int)))) := Lib.hid ⟨HF8.out.upd (A := [_]) (B := [_, _, _, _]) k9 hsk, ca, plus cb key (1 + (n2 : Int)),
          HEX.out.1.up (by omega), (HEX.out.2.1.add HOK.out.2.1 (by decide) HKEY.out.2.2 (by omega) (by omega)).up (by omega), ((HEX.out.2.2.add HOK.out.2.2 (by decide) HKEY.out.2.2 (by omega) (by omega)).up (by omega)).congr (fun k => plus_r ca cb key _ k)⟩
        clear hsk k9 HF8
        go_wp2_with fail
        go_roundg (60 - (i + 1))
        case rel => exact ⟨i + 1, _, _, _, by go_num, by omega, by omega, by simpa using HFT.out⟩
        case measure => omega
    · obtain ⟨ca, cb, ha, hb, hd⟩ := HF.out.ex
      have okA : OkL 64 La := (HF.out.fam.at_ (A := []) (B := [_, _, _, _, _])).ok
      have okB : OkL 64 Lb := (HF.out.fam.at_ (A := [_]) (B := [_, _, _, _])).ok
      have okD : OkL 64 Ld := (HF.out.fam.at_ (A := [_, _, _]) (B := [_, _])).ok
      have HEX := Lib.hid (And.intro ha (And.intro hb hd))
      have HOK := Lib.hid (And.intro okA (And.intro okB okD))
      have HB : Hid (1000 * (i : Int) ≤ 1000000) := Lib.hid (by omega)
      clear ha hb hd okA okB okD
      have HFM := Lib.hid HF.out.fam
      clear HF
      have hx : (¬ (i : Int) < (n : Int)) ∨ ((i : Int) < (n : Int) ∧ ¬ (i : Int) < 60) := by omega
      clear hgo
      rcases hx with hinz | ⟨hinz, hiz⟩
      all_goals
        have lA := HEX.out.1.nm.len HOK.out.1.keys
        have lB := HEX.out.2.1.nm.len HOK.out.2.1.keys
        have lD := HEX.out.2.2.nm.len HOK.out.2.2.keys
        have okN : OkL 64 [] := OkL.nil (by decide) (by decide)
        have exN : Ex [] (fun _ => 0) 0 := Ex.nil
        have hB := HB.out
        have E1 : Hid (mergeC 64 La 64 [] = La) := Lib.hid (by
          have hm := HEX.out.1.mrg exN HOK.out.1 okN hB (by decide) (by decide)
          exact (HEX.out.1.merge exN HOK.out.1 okN hB (by decide) (by decide) (by decide)).eq HEX.out.1 (mergeC_ok hm) HOK.out.1 (fun k => by simp))
        have E2 : Hid (mergeC 64 La 64 Lb = Ld) := Lib.hid (by
          have hm := HEX.out.1.mrg HEX.out.2.1 HOK.out.1 HOK.out.2.1 hB hB (by decide)
          exact (HEX.out.1.merge HEX.out.2.1 HOK.out.1 HOK.out.2.1 hB hB (by decide) (by decide)).eq HEX.out.2.2 (mergeC_ok hm) HOK.out.2.2 (fun k => rfl))
        have E3 : Hid (mergeC 64 Lb 64 La = Ld) := Lib.hid (by
          have hm := HEX.out.2.1.mrg HEX.out.1 HOK.out.2.1 HOK.out.1 hB hB (by decide)
          exact (HEX.out.2.1.merge HEX.out.1 HOK.out.2.1 HOK.out.1 hB hB (by decide) (by decide)).eq HEX.out.2.2 (mergeC_ok hm) HOK.out.2.2 (fun k => Int.add_comm _ _))
        have M1 := Lib.hid (HEX.out.1.mrg exN HOK.out.1 okN hB (by decide) (show 64 ≤ 64 by decide))
        have M2 := Lib.hid (HEX.out.1.mrg HEX.out.2.1 HOK.out.1 HOK.out.2.1 hB hB (show 64 ≤ 64 by decide))
        have M3 := Lib.hid (HEX.out.2.1.mrg HEX.out.1 HOK.out.2.1 HOK.out.1 hB hB (show 64 ≤ 64 by decide))
        clear okN exN
        go_wp2_with fail
        have P1 := HFM.out.pair (A := []) (B := [_, _, _, _, _]) (x := ⟨s5, b5, 64, []⟩) (by simp)
        with_reducible refine (merge_sk (HFM.out.at_ (A := []) (B := [_, _, _, _, _])) P1.1 P1.2.1 P1.2.2 M1.out).mono ?_
        rintro e W20 ⟨bn, rfl, hsk, kk, hle⟩
        rw [E1.out] at hsk
        have HF1 := Lib.hid (HFM.out.merged (A := []) (B := [_, _, _, _, _]) kk hsk hle)
        clear hsk kk hle P1 HFM
        go_wp2_with fail
        with_reducible refine (top_all (HF1.out.at_ (A := []) (B := [_, _, _, _, _])) (by simp only []; omega)).mono ?_
        rintro e W21 ⟨v1, rfl, ho1, k21⟩
        have HF2 := Lib.hid (HF1.out.keep k21)
        have HV1 := Lib.hid (CtrsAt.of_owns ho1)
        clear ho1 k21 HF1
        go_wp2_with fail
        with_reducible refine (top_all (HF2.out.at_ (A := [_, _]) (B := [_, _, _])) (by simp only []; omega)).mono ?_
        rintro e W22 ⟨v2, rfl, ho2, k22⟩
        have HF3 := Lib.hid (HF2.out.keep k22)
        have HSA := Lib.hid (same_eq (HV1.out.keep k22 (fun _ _ h => h)) (CtrsAt.of_owns ho2) (by rw [List.length_map]; omega))
        clear ho2 k22 HF2 HV1
        go_wp2_with fail
        with_reducible refine HSA.out.mono ?_
        rintro e W23 ⟨rfl, kq, rfl⟩
        have HF4 := Lib.hid (HF3.out.drewN kq)
        clear HSA HF3
        generalize W22.drewN kq = W23 at *
        go_wp2_with fail
        have P1 := HF4.out.pair (A := []) (B := [_, _, _, _, _]) (x := ⟨s2, b2, 64, Lb⟩) (by simp)
        with_reducible refine (merge_sk (HF4.out.at_ (A := []) (B := [_, _, _, _, _])) P1.1 P1.2.1 P1.2.2 M2.out).mono ?_
        rintro e W24 ⟨bn2, rfl, hsk, kk, hle⟩
        rw [E2.out] at hsk
        have HF5 := Lib.hid (HF4.out.merged (A := []) (B := [_, _, _, _, _]) kk hsk hle)
        clear hsk kk hle P1 HF4
        go_wp2_with fail
        have P1 := HF5.out.pair (A := [_]) (B := [_, _, _, _]) (x := ⟨s3, b3, 64, La⟩) (by simp)
        with_reducible refine (merge_sk (HF5.out.at_ (A := [_]) (B := [_, _, _, _])) P1.1 P1.2.1 P1.2.2 M3.out).mono ?_
        rintro e W25 ⟨bn3, rfl, hsk, kk, hle⟩
        rw [E3.out] at hsk
        have HF6 := Lib.hid (HF5.out.merged (A := [_]) (B := [_, _, _, _]) kk hsk hle)
        clear hsk kk hle P1 HF5
        go_wp2_with fail
        with_reducible refine (merge_bad (HF6.out.at_ (A := []) (B := [_, _, _, _, _])) (HF6.out.at_ (A := [_, _, _, _, _]) (B := [])) (mrgBad_cap (show 63 < 64 by decide))).mono ?_
        rintro e W26 ⟨rfl, k26⟩
        have HF7 := Lib.hid (HF6.out.keep k26)
        clear k26 HF6
        go_wp2_with fail
        with_reducible refine (top_all (HF7.out.at_ (A := []) (B := [_, _, _, _, _])) (by simp only []; omega)).mono ?_
        rintro e W27 ⟨v3, rfl, ho1, k21⟩
        have HF8 := Lib.hid (HF7.out.keep k21)
        have HV1 := Lib.hid (CtrsAt.of_owns ho1)
        clear ho1 k21 HF7
        go_wp2_with fail
        with_reducible refine (top_all (HF8.out.at_ (A := [_, _, _]) (B := [_, _])) (by simp only []; omega)).mono ?_
        rintro e W28 ⟨v4, rfl, ho2, k22⟩
        have HF9 := Lib.hid (HF8.out.keep k22)
        have HSA := Lib.hid (same_eq (HV1.out.keep k22 (fun _ _ h => h)) (CtrsAt.of_owns ho2) (by rw [List.length_map]; omega))
        clear ho2 k22 HF8 HV1
        go_wp2_with fail
        with_reducible refine HSA.out.mono ?_
        rintro e W29 ⟨rfl, kq, rfl⟩
        have HF10 := Lib.hid (HF9.out.drewN kq)
        clear HSA HF9
        generalize W28.drewN kq = W29 at *
        go_wp2_with fail
        with_reducible refine (top_all (HF10.out.at_ (A := [_]) (B := [_, _, _, _])) (by simp only []; omega)).mono ?_
        rintro e W30 ⟨v5, rfl, ho1, k21⟩
        have HF11 := Lib.hid (HF10.out.keep k21)
        have HV1 := Lib.hid (CtrsAt.of_owns ho1)
        clear ho1 k21 HF10
        go_wp2_with fail
        with_reducible refine (top_all (HF11.out.at_ (A := [_, _, _]) (B := [_, _])) (by simp only []; omega)).mono ?_
        rintro e W31 ⟨v6, rfl, ho2, k22⟩
        have HF12 := Lib.hid (HF11.out.keep k22)
        have HSA := Lib.hid (same_eq (HV1.out.keep k22 (fun _ _ h => h)) (CtrsAt.of_owns ho2) (by rw [List.length_map]; omega))
        clear ho2 k22 HF11 HV1
        go_wp2_with fail
        with_reducible refine HSA.out.mono ?_
        rintro e W32 ⟨rfl, kq, rfl⟩
        have HF13 := Lib.hid (HF12.out.drewN kq)
        clear HSA HF12
        generalize W31.drewN kq = W32 at *
        have HTO : Hid (Calls Try.prog 16 #[ptr s5] W32 fun e w' => e = .returned (.int .i64 0) ∧ W32 = w') := Lib.hid (total_sk (HF13.out.at_ (A := [_, _, _, _]) (B := [_])))
        go_wp2_with fail
        with_reducible refine HTO.out.mono ?_
        rintro e W33 ⟨rfl, rfl⟩
        go_wp2_with fail
        go_ret
        exact ⟨rfl, HF13.out.k⟩

theorem sketchMerged_walk (a : Option Addr) (len cap : Nat) (w : World) (hs : IsSteps w a len) :
    Calls Try.prog 5 #[.slice a len cap] w fun e w' => e = .returned (.bool true) ∧ Below w.heap.size w w' := by
  have h : Calls Try.prog 5 #[.slice a len cap] w fun e w' => e = .returned (.bool true) ∧ Keep (fun _ => False) w w' := by
    by_cases h0 : 0 < len
    · obtain ⟨b, off, f, rfl, hst⟩ := hs.2 h0
      exact merged_go _ b off len cap f w hs.1 (fun _ => rfl) hst
    · obtain rfl : len = 0 := by omega
      exact merged_go a 0 0 0 cap (fun _ _ => 0) w (by omega) (fun h => by omega) ⟨fun i j h => by omega, fun _ _ => by omega, fun _ _ => by omega⟩
  exact h.mono fun _ _ ⟨h1, h2⟩ => ⟨h1, ⟨h2.os, h2.tape, h2.output, h2.size, fun i hi => h2.block i hi (fun h => h)⟩⟩
end Go.Proofs.Ytogkkghliogpeaa
