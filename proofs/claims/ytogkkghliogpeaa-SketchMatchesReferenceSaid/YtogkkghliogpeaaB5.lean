/-
  bounds.add, Add.
-/
import Derived.Test.YtogkkghliogpeaaB4
namespace Go.Proofs.Ytogkkghliogpeaa
open Go.RowKit

set_option maxRecDepth 100000 in
set_option maxHeartbeats 400000 in
theorem add_bounds (a b c d : Int) (w : World) (h1 : 0 ≤ a ∧ a ≤ 4611686018427387903) (h2 : 0 ≤ b ∧ b ≤ 4611686018427387903) (h3 : 0 ≤ c ∧ c ≤ 4611686018427387903) (h4 : 0 ≤ d ∧ d ≤ 4611686018427387903) :
    Calls Try.prog 33 #[bnd a b, bnd c d] w fun e w' => e = .returned (bnd (a + c) (b + d)) ∧ Keep (fun _ => False) w w' := by
  obtain ⟨a1, a2⟩ := h1
  obtain ⟨b1, b2⟩ := h2
  obtain ⟨c1, c2⟩ := h3
  obtain ⟨d1, d2⟩ := h4
  go_enter Try.func33, Try.ntmps33
  go_wp2_with fail
  refine bodyPost_ret (v := bnd (a + c) (b + d)) (by simp [results, Try.results33, go_sem]) rfl ⟨rfl, ?_⟩
  exact (((Keep.refl _ w).alloc _).alloc _).alloc _

/-- Add's answer. -/
def addE (L : List C) (n : Int) : Int := if n < 1 ∨ 1000000000 < n ∨ 4611686018427387903 - n < sumH L then 140 else 0

set_option maxRecDepth 100000 in
set_option maxHeartbeats 400000 in
theorem add_nil (key : ByteArray) (n : Int) (w : World) : Calls Try.prog 13 #[.pointer none, .string key, .int .i64 n] w fun e w' => e = .returned (.int .i64 1) ∧ w = w' := by
  go_enter Try.func13, Try.ntmps13
  go_wp2_with fail
  go_ret
  exact ⟨rfl, rfl⟩
set_option maxRecDepth 100000 in
set_option maxHeartbeats 400000 in
theorem add_bad {w : World} {s bm cap : Nat} {L : List C} (h : Sk w s bm cap L) (key : ByteArray) (n : Int) (hn : n < 1 ∨ 1000000000 < n ∨ 4611686018427387903 - n < sumH L) : Calls Try.prog 13 #[ptr s, .string key, .int .i64 n] w fun e w' => e = .returned (.int .i64 140) ∧ w = w' := by
  have c1 := h.at_.c1
  have H := Lib.hid h
  clear h
  by_cases h1 : n < 1
  · clear hn
    go_enter Try.func13, Try.ntmps13
    go_wp2_with fail
    go_ret
    exact ⟨rfl, rfl⟩
  · by_cases h2 : 1000000000 < n
    · clear hn
      go_enter Try.func13, Try.ntmps13
      go_wp2_with fail
      go_ret
      exact ⟨rfl, rfl⟩
    · have h3 : 4611686018427387903 - n < sumH L := by omega
      clear hn
      go_enter Try.func13, Try.ntmps13
      go_wp2_with fail
      go_ret
      exact ⟨rfl, rfl⟩

set_option maxRecDepth 100000 in
set_option maxHeartbeats 1000000 in
theorem add_known {w : World} {s bm cap : Nat} {L : List C} (h : Sk w s bm cap L) (key : ByteArray) (hk : key.size ≤ maxLen) (n : Int) (h1 : ¬ n < 1) (h2 : ¬ 1000000000 < n) (h3 : ¬ 4611686018427387903 - n < sumH L) (hat : (atC L key).isSome = true) :
    Calls Try.prog 13 #[ptr s, .string key, .int .i64 n] w fun e w' => e = .returned (.int .i64 0) ∧ SkAt w' s bm cap (sumH L + n) (putC L ⟨key, loOf L key + n, hiOf L key + n⟩) ∧ Keep (fun k => k = s ∨ k = bm) w w' := by
  have c1 := h.at_.c1
  have c2 := h.at_.c2
  have lk := look_two (w := w) h.at_.map hk
  rw [hat] at lk
  obtain ⟨hb1, hb2, hb3, hb4⟩ := h.ok.hi0 key
  have hs := h.ok.sum
  have H := Lib.hid h
  clear h
  go_enter Try.func13, Try.ntmps13
  go_wp2_with fail
  obtain ⟨b0, b1, bf⟩ := two_cell w (.int .i64 (loOf L key)) (.int .i64 (hiOf L key)) 60
  have kal := (Keep.refl (fun _ => False) w).alloc (.cells #[.int .i64 (loOf L key), .int .i64 (hiOf L key)] 60)
  have hs1 := H.out.keep kal (fun h => h) (fun h => h)
  generalize w.alloc (.cells #[.int .i64 (loOf L key), .int .i64 (hiOf L key)] 60) = W at *
  have HK := Lib.hid kal
  have HS1 := Lib.hid hs1
  clear kal hs1 c1 c2 lk bf
  go_quiet (fail)
  go_wp2_with fail
  with_reducible refine (add_bounds _ _ _ _ _ (by omega) (by omega) (by omega) (by omega)).mono ?_
  rintro e W2 ⟨rfl, k2⟩
  have HS2 := Lib.hid ((HS1.out.keep ((Keep.refl (fun _ => False) W).drewN nq) (fun h => h) (fun h => h)).keep k2 (fun h => h) (fun h => h))
  have HK2 := Lib.hid ((HK.out.drewN nq).trans k2)
  clear k2 b0 b1
  go_wp2_with fail
  with_reducible refine (put_sk HS2.out.at_ ⟨key, loOf L key + n, hiOf L key + n⟩ hk (by simp only []; omega) (by omega)).mono ?_
  rintro e W3 ⟨rfl, hsk, k3, -⟩
  have HS3 := Lib.hid hsk
  have HK3 := Lib.hid k3
  clear hsk k3
  go_wp2_with fail
  go_ret
  refine ⟨rfl, ?_, (HK2.out.mono (fun _ h => h.elim)).trans HK3.out⟩
  have := HS3.out
  rwa [show sumH L + ((⟨key, loOf L key + n, hiOf L key + n⟩ : C).hi - hiOf L (⟨key, loOf L key + n, hiOf L key + n⟩ : C).key) = sumH L + n by simp only []; omega] at this

set_option maxRecDepth 100000 in
set_option maxHeartbeats 1000000 in
theorem add_free {w : World} {s bm cap : Nat} {L : List C} (h : Sk w s bm cap L) (key : ByteArray) (hk : key.size ≤ maxLen) (n : Int) (h1 : ¬ n < 1) (h2 : ¬ 1000000000 < n) (h3 : ¬ 4611686018427387903 - n < sumH L) (hat : atC L key = none) (hlen : ¬ L.length = cap) :
    Calls Try.prog 13 #[ptr s, .string key, .int .i64 n] w fun e w' => e = .returned (.int .i64 0) ∧ SkAt w' s bm cap (sumH L + n) (putC L ⟨key, n, n⟩) ∧ Keep (fun k => k = s ∨ k = bm) w w' := by
  have c1 := h.at_.c1
  have c2 := h.at_.c2
  have lk := look_two (w := w) h.at_.map hk
  have eh : hiOf L key = 0 := by unfold hiOf; rw [hat]
  have el : loOf L key = 0 := by unfold loOf; rw [hat]
  rw [hat, eh, el] at lk
  simp only [Option.isSome_none] at lk
  have HEH := Lib.hid eh
  have hs := h.ok.sum
  have h0 := (h.ok.hi0 key).2.1
  rw [eh] at h0
  have H := Lib.hid h
  have hd : ((L.length : Int) == (cap : Int)) = false := by simp; omega
  have HAT := Lib.hid hat
  have HL := Lib.hid hlen
  clear h hat eh el hlen
  go_enter Try.func13, Try.ntmps13
  go_wp2_with fail
  obtain ⟨b0, b1, bf⟩ := two_cell w (.int .i64 0) (.int .i64 0) 60
  have kal := (Keep.refl (fun _ => False) w).alloc (.cells #[.int .i64 0, .int .i64 0] 60)
  have hs1 := H.out.keep kal (fun h => h) (fun h => h)
  generalize w.alloc (.cells #[.int .i64 0, .int .i64 0] 60) = W at *
  have HK := Lib.hid kal
  have HS1 := Lib.hid hs1
  clear kal hs1 c1 c2 lk bf
  have hln : ∀ (n : Nat) ty, (Builtin.len_ #[56] ty #[.map (some bm)]).run Try.prog (W.drewN n) = .ok (.int .i64 L.length) (W.drewN n) := fun n ty => (HS1.out.keep ((Keep.refl (fun _ => False) W).drewN n) (fun h => h) (fun h => h)).at_.len ty
  have c0 := HS1.out.at_.c0
  have c2 := HS1.out.at_.c2
  have hlen := HL.out
  go_quiet (fail)
  clear hln c0 c2 hlen
  go_wp2_with fail
  with_reducible refine (add_bounds _ _ _ _ _ (by omega) (by omega) (by omega) (by omega)).mono ?_
  rintro e W2 ⟨rfl, k2⟩
  have HS2 := Lib.hid ((HS1.out.keep ((Keep.refl (fun _ => False) W).drewN nq) (fun h => h) (fun h => h)).keep k2 (fun h => h) (fun h => h))
  have HK2 := Lib.hid ((HK.out.drewN nq).trans k2)
  clear k2 b0 b1
  rw [Int.zero_add]
  go_wp2_with fail
  with_reducible refine (put_sk HS2.out.at_ ⟨key, n, n⟩ hk (by have := HEH.out; simp only []; omega) (by omega)).mono ?_
  rintro e W3 ⟨rfl, hsk, k3, -⟩
  have HS3 := Lib.hid hsk
  have HK3 := Lib.hid k3
  clear hsk k3
  go_wp2_with fail
  go_ret
  refine ⟨rfl, ?_, (HK2.out.mono (fun _ h => h.elim)).trans HK3.out⟩
  have := HS3.out
  have e0 := HEH.out
  rwa [show sumH L + ((⟨key, n, n⟩ : C).hi - hiOf L (⟨key, n, n⟩ : C).key) = sumH L + n by simp only []; omega] at this

set_option maxRecDepth 100000 in
set_option maxHeartbeats 1000000 in
theorem add_full {w : World} {s bm cap : Nat} {L : List C} (h : Sk w s bm cap L) (key : ByteArray) (hk : key.size ≤ maxLen) (n : Int) (h1 : ¬ n < 1) (h2 : ¬ 1000000000 < n) (h3 : ¬ 4611686018427387903 - n < sumH L) (hat : atC L key = none) (hlen : L.length = cap) :
    Calls Try.prog 13 #[ptr s, .string key, .int .i64 n] w fun e w' => e = .returned (.int .i64 0) ∧ SkAt w' s bm cap (sumH L + n) (putC (delC L (lastK L)) ⟨key, n, leastC cap L + n⟩) ∧ Keep (fun k => k = s ∨ k = bm) w w' := by
  have c1 := h.at_.c1
  have c2 := h.at_.c2
  have lk := look_two (w := w) h.at_.map hk
  have eh : hiOf L key = 0 := by unfold hiOf; rw [hat]
  have el : loOf L key = 0 := by unfold loOf; rw [hat]
  rw [hat, eh, el] at lk
  simp only [Option.isSome_none] at lk
  have HEH := Lib.hid eh
  have hs := h.ok.sum
  have h0 := (h.ok.hi0 key).2.1
  rw [eh] at h0
  obtain ⟨hl0, hl1⟩ := h.ok.least
  have H := Lib.hid h
  have hd : ((L.length : Int) == (cap : Int)) = true := by simp; omega
  have HNE : Hid (L ≠ []) := Lib.hid (fun e => by rw [e] at hlen; have := h.ok.cap1; simp at hlen; omega)
  have HAT := Lib.hid hat
  have HLA := Lib.hid (hiOf_last h.ok (by omega))
  have HL := Lib.hid hlen
  clear h hat eh el hlen
  go_enter Try.func13, Try.ntmps13
  go_wp2_with fail
  obtain ⟨b0, b1, bf⟩ := two_cell w (.int .i64 0) (.int .i64 0) 60
  have kal := (Keep.refl (fun _ => False) w).alloc (.cells #[.int .i64 0, .int .i64 0] 60)
  have hs1 := H.out.keep kal (fun h => h) (fun h => h)
  have HSB := Lib.hid (H.out.at_.lt)
  have HWS : Hid ((w.alloc (.cells #[.int .i64 0, .int .i64 0] 60)).heap.size = w.heap.size + 1) := Lib.hid (by simp)
  generalize w.alloc (.cells #[.int .i64 0, .int .i64 0] 60) = W at *
  have HK := Lib.hid kal
  have HS1 := Lib.hid hs1
  have HB := Lib.hid (And.intro b0 (And.intro b1 bf))
  clear kal hs1 c1 c2 lk bf b0 b1
  have hln : ∀ (n : Nat) ty, (Builtin.len_ #[56] ty #[.map (some bm)]).run Try.prog (W.drewN n) = .ok (.int .i64 L.length) (W.drewN n) := fun n ty => (HS1.out.keep ((Keep.refl (fun _ => False) W).drewN n) (fun h => h) (fun h => h)).at_.len ty
  have c0 := HS1.out.at_.c0
  have c2 := HS1.out.at_.c2
  have hlen := HL.out
  go_quiet (fail)
  clear hln c0 c2 hlen
  go_wp2_with fail
  have HKD := Lib.hid ((Keep.refl (fun _ => False) W).drewN nq)
  generalize W.drewN nq = W1 at *
  have HS2 := Lib.hid (HS1.out.keep HKD.out (fun h => h) (fun h => h))
  with_reducible refine (least_sk HS2.out).mono ?_
  rintro e W2 ⟨rfl, k2⟩
  have HS3 := Lib.hid (HS2.out.keep k2 (fun h => h) (fun h => h))
  have HK2 := Lib.hid (HKD.out.trans k2)
  have b0 := HK2.out.cell HB.out.1 (fun h => h)
  have b1 := HK2.out.cell HB.out.2.1 (fun h => h)
  have bf := (HK2.out.frozen (b := w.heap.size) (by have := HWS.out; omega) (fun h => h) 1).trans (HB.out.2.2 1)
  clear k2
  go_wp2_with fail
  have kse : Keep (fun k => k = w.heap.size) W2 (W2.setCell ⟨w.heap.size, 1, none⟩ (.int .i64 (leastC cap L))) := (Keep.refl _ _).setCell _ (.inl rfl)
  have HS4 := Lib.hid (HS3.out.keep kse (fun e => by have := HSB.out.1; omega) (fun e => by have := HSB.out.2; omega))
  have HKS := Lib.hid kse
  have HB4 : Hid ((W2.setCell ⟨w.heap.size, 1, none⟩ (.int .i64 (leastC cap L))).cell? ⟨w.heap.size, 0, none⟩ = some (.int .i64 0) ∧ (W2.setCell ⟨w.heap.size, 1, none⟩ (.int .i64 (leastC cap L))).cell? ⟨w.heap.size, 1, none⟩ = some (.int .i64 (leastC cap L))) := Lib.hid ⟨(cell_set_off (by decide)).trans b0, cell_set_same b1⟩
  generalize W2.setCell ⟨w.heap.size, 1, none⟩ (.int .i64 (leastC cap L)) = W3 at *
  clear kse b0 b1 bf
  with_reducible refine (last_key HS4.out.at_ HS4.out.ok.sorted HNE.out).mono ?_
  rintro e W4 ⟨rfl, k4⟩
  have HS5 := Lib.hid (HS4.out.keep k4 (fun h => h) (fun h => h))
  have HK4 := Lib.hid k4
  clear k4
  go_wp2_with fail
  with_reducible refine (drop_sk HS5.out.at_ (lastK L) (last_size HS5.out.ok) (by have := HLA.out; omega) (by omega)).mono ?_
  rintro e W5 ⟨rfl, hsk, k5⟩
  have HS6 := Lib.hid hsk
  have HK5 := Lib.hid k5
  have b0 := k5.cell (HK4.out.cell HB4.out.1 (fun h => h)) (fun e => by have := HSB.out; omega)
  have b1 := k5.cell (HK4.out.cell HB4.out.2 (fun h => h)) (fun e => by have := HSB.out; omega)
  clear hsk k5
  go_wp2_with fail
  with_reducible refine (add_bounds _ _ _ _ _ (by omega) (by omega) (by omega) (by omega)).mono ?_
  rintro e W6 ⟨rfl, k6⟩
  have HS7 := Lib.hid (HS6.out.keep k6 (fun h => h) (fun h => h))
  have HK6 := Lib.hid k6
  clear k6 b0 b1
  rw [Int.zero_add]
  go_wp2_with fail
  have HH : Hid (hiOf (delC L (lastK L)) key = 0) := Lib.hid (by
    have hn := atC_none HAT.out
    unfold hiOf
    cases e : atC (delC L (lastK L)) key with
    | none => rfl
    | some x => obtain ⟨h1, h2⟩ := atC_some e; exact absurd h2 (hn x (mem_delC.1 h1).1))
  with_reducible refine (put_sk HS7.out ⟨key, n, leastC cap L + n⟩ hk (by have := HH.out; simp only []; omega) (by have := HLA.out; omega)).mono ?_
  rintro e W7 ⟨rfl, hsk, k7, -⟩
  have HS8 := Lib.hid hsk
  have HK7 := Lib.hid k7
  clear hsk k7
  go_wp2_with fail
  go_ret
  refine ⟨rfl, ?_, ?_⟩
  · have := HS8.out
    have e0 := HH.out
    have e1 := HLA.out
    rwa [show sumH L - hiOf L (lastK L) + ((⟨key, n, leastC cap L + n⟩ : C).hi - hiOf (delC L (lastK L)) (⟨key, n, leastC cap L + n⟩ : C).key) = sumH L + n by simp only []; omega] at this
  · have k1 : Keep (fun k => k = s ∨ k = bm) w W2 := (HK.out.trans HK2.out).mono (fun _ h => h.elim)
    have k2 : Keep (fun k => k = s ∨ k = bm) w W3 := k1.trans' HKS.out (fun i e => .inr (by omega))
    exact (((k2.trans (HK4.out.mono (fun _ h => h.elim))).trans HK5.out).trans (HK6.out.mono (fun _ h => h.elim))).trans HK7.out

theorem lastK_del {L : List C} (hk : (L.map C.key).Nodup) (hne : L ≠ []) : delC L (lastK L) = L.dropLast := by
  obtain ⟨X, x, rfl⟩ : ∃ X x, L = X ++ [x] := by
    rcases List.eq_nil_or_concat L with rfl | ⟨X, x, e⟩
    · exact absurd rfl hne
    · exact ⟨X, x, by simpa using e⟩
  have e : lastK (X ++ [x]) = x.key := by unfold lastK; simp
  rw [e, List.dropLast_concat]
  rw [List.map_append, List.nodup_append] at hk
  unfold delC
  rw [List.filter_append]
  rw [List.filter_eq_self.2 (fun y hy => by simpa using fun e : y.key = x.key => hk.2.2 y.key (List.mem_map_of_mem hy) x.key (by simp) e)]
  simp

/-- Add. -/
theorem add_ok {w : World} {s bm cap : Nat} {L : List C} (h : Sk w s bm cap L) (key : ByteArray) (hk : key.size ≤ maxLen) (n : Int) (h1 : ¬ n < 1) (h2 : ¬ 1000000000 < n) (h3 : ¬ 4611686018427387903 - n < sumH L) :
    Calls Try.prog 13 #[ptr s, .string key, .int .i64 n] w fun e w' => e = .returned (.int .i64 0) ∧ Sk w' s bm cap (addC cap L key n) ∧ Keep (fun k => k = s ∨ k = bm) w w' := by
  have hok := addC_ok h.ok hk (show 1 ≤ n by omega) (show sumH L + n ≤ 4611686018427387903 by omega)
  have hsum := addC_sum h.ok key n
  cases hat : atC L key with
  | some x =>
    refine (add_known h key hk n h1 h2 h3 (by rw [hat]; rfl)).mono fun e w' ⟨he, hsk, hkp⟩ => ⟨he, ⟨?_, hok⟩, hkp⟩
    rw [hsum]
    refine hsk.perm ?_
    unfold addC putC
    have e1 : loOf L key = x.lo := by unfold loOf; rw [hat]
    have e2 : hiOf L key = x.hi := by unfold hiOf; rw [hat]
    rw [hat, e1, e2]
    exact (insC_perm _ _).symm
  | none =>
    by_cases hl : L.length = cap
    · refine (add_full h key hk n h1 h2 h3 hat hl).mono fun e w' ⟨he, hsk, hkp⟩ => ⟨he, ⟨?_, hok⟩, hkp⟩
      rw [hsum]
      refine hsk.perm ?_
      have hne : L ≠ [] := fun e => by rw [e] at hl; have := h.ok.cap1; simp at hl; omega
      unfold addC putC
      rw [hat]
      simp only []
      rw [if_pos hl, lastK_del h.ok.keys hne]
      refine List.Perm.trans ?_ (insC_perm _ _).symm
      rw [delC_none]
      cases e : atC L.dropLast key with
      | none => rfl
      | some x => obtain ⟨a1, a2⟩ := atC_some e; exact absurd a2 (atC_none hat x ((List.dropLast_sublist L).mem a1))
    · refine (add_free h key hk n h1 h2 h3 hat hl).mono fun e w' ⟨he, hsk, hkp⟩ => ⟨he, ⟨?_, hok⟩, hkp⟩
      rw [hsum]
      refine hsk.perm ?_
      unfold addC putC
      rw [hat]
      simp only []
      rw [if_neg hl, delC_none hat]
      exact (insC_perm _ _).symm
end Go.Proofs.Ytogkkghliogpeaa
