/-
  Halve.
-/
import Derived.Test.YtogkkghliogpeaaB6
namespace Go.Proofs.Ytogkkghliogpeaa
open Go.RowKit

set_option maxRecDepth 100000 in
set_option maxHeartbeats 400000 in
theorem halve_nil (w : World) : Calls Try.prog 17 #[.pointer none] w fun e w' => e = .returned (.tuple #[]) ∧ w = w' := by
  go_enter Try.func17, Try.ntmps17
  go_wp2_with fail
  exact bodyPost_ret (v := .tuple #[]) (by simp [results, Try.results17, go_sem]) rfl ⟨rfl, rfl⟩

/-- The loop of Halve: S has been halved, l is to come. -/
structure HalveR (w : World) (s bm cap : Nat) (L S l : List C) (wr : World) : Prop where
  k : Keep (fun k => k = s ∨ k = bm) w wr
  rg : Ranging Try.prog 9 wr bm w.heap.size (CRel (S.map halfC ++ l)) (l.map encC)
  pm : L.Perm (S ++ l)
  sk : SkAt wr s bm cap (sumH (S.map halfC ++ l)) (S.map halfC ++ l)

theorem halve_step {L S X Y : List C} {y : C} (hk : (L.map C.key).Nodup) (pm : L.Perm (S ++ (X ++ y :: Y))) :
    (putC (S.map halfC ++ (X ++ y :: Y)) (halfC y)).Perm ((S ++ [y]).map halfC ++ (X ++ Y)) ∧ hiOf (S.map halfC ++ (X ++ y :: Y)) y.key = y.hi ∧ (∀ z ∈ X ++ Y, z.key ≠ y.key) := by
  have hkeys : ((S.map halfC ++ (X ++ y :: Y)).map C.key).Nodup := by
    rw [List.map_append, half_keys, ← List.map_append]
    exact (pm.map C.key).nodup_iff.1 hk
  have hy : y ∈ S.map halfC ++ (X ++ y :: Y) := by simp
  have hpm : (S.map halfC ++ (X ++ y :: Y)).Perm (y :: (S.map halfC ++ (X ++ Y))) := by
    rw [← List.append_assoc, ← List.append_assoc]; exact List.perm_middle
  have hdel : (delC (S.map halfC ++ (X ++ y :: Y)) y.key).Perm (S.map halfC ++ (X ++ Y)) := by
    have := (delC_split hkeys hy).symm.trans hpm
    exact List.Perm.cons_inv this
  refine ⟨?_, hiOf_mem hkeys hy, fun z hz e => ?_⟩
  · unfold putC
    rw [List.map_append]
    show (halfC y :: delC _ y.key).Perm _
    refine (List.Perm.cons _ hdel).trans ?_
    rw [List.append_assoc]
    exact (List.perm_middle (l₁ := S.map halfC) (l₂ := X ++ Y) (a := halfC y)).symm
  · have h2 := (hpm.map C.key).nodup_iff.1 hkeys
    rw [List.map_cons, List.nodup_cons] at h2
    exact h2.1 (by rw [← e]; exact List.mem_map_of_mem (List.mem_append_right _ hz))

theorem sum_mid {L S l : List C} {cap : Nat} (h : OkL cap L) (pm : L.Perm (S ++ l)) : 0 ≤ sumH (S.map halfC ++ l) ∧ sumH (S.map halfC ++ l) ≤ 4611686018427387903 := by
  have h1 := sumH_perm pm
  rw [sumH_append] at h1
  have h2 := h.sum
  have hS : ∀ x ∈ S, x ∈ L := fun x hx => pm.mem_iff.2 (by simp [hx])
  have h3 := sumH_half (L := S) (fun x hx => by have := h.pos x (hS x hx); omega)
  have h4 := sumH_nonneg (L := S.map halfC) (fun x hx => by
    obtain ⟨z, hz, rfl⟩ := List.mem_map.1 hx
    have := h.pos z (hS z hz)
    show 0 ≤ (z.hi + 1) / 2
    omega)
  have h5 := sumH_nonneg (L := l) (fun x hx => by have := h.pos x (pm.mem_iff.2 (by simp [hx])); omega)
  rw [sumH_append]
  omega

set_option maxRecDepth 100000 in
set_option maxHeartbeats 1000000 in
theorem halve_sk {w : World} {s bm cap : Nat} {L : List C} (h : Sk w s bm cap L) : Calls Try.prog 17 #[ptr s] w fun e w' => e = .returned (.tuple #[]) ∧ Sk w' s bm cap (halveC L) ∧ Keep (fun k => k = s ∨ k = bm) w w' := by
  have c2 := h.at_.c2
  obtain ⟨ob, left, hrun, hrg, hnd, hmem⟩ := h.at_.map.range (t := 56) Try.underlying56
  have hrg' := hrg.perm (list_of_rel h.ok.keys hnd hmem).symm
  have kal : Keep (fun k => k = s ∨ k = bm) w (w.alloc ob) := (Keep.refl _ w).alloc ob
  have kal0 : Keep (fun _ => False) w (w.alloc ob) := (Keep.refl _ w).alloc ob
  have HR : Hid (HalveR w s bm cap L [] L (w.alloc ob)) := Lib.hid ⟨kal, hrg', List.Perm.refl _, h.at_.keep kal0 (fun h => h) (fun h => h)⟩
  have HLT := Lib.hid h.at_.lt
  have H := Lib.hid h
  clear h hrg hrg' hnd hmem kal kal0
  go_enter Try.func17, Try.ntmps17
  go_wp2_with fail
  generalize w.alloc ob = W4 at *
  clear hrun c2
  go_loopw [2, 3, 11, 12, 13, 14, 15] (fun _ _ _ _ _ _ _ wr => ∃ S l, HalveR w s bm cap L S l wr) (fun _ _ _ _ _ _ _ wr => wr.rangeLeft bm w.heap.size)
  case atStart => exact ⟨[], L, HR.out⟩
  case round =>
    obtain ⟨S, l, hr⟩ := hrel
    have HRR := Lib.hid hr
    rcases hr.rg.next 0 with ⟨h0, hrun⟩ | ⟨k, v, left', w', hp, hR, hrun, hrg', kk, hsz, hen⟩
    · have hl : l = [] := by simpa using h0
      subst hl
      clear hr h0
      go_wp2_with fail
      go_end0
      have hpm := HRR.out.pm
      rw [List.append_nil] at hpm
      have hsk := HRR.out.sk
      rw [List.append_nil] at hsk
      have hok := halveC_ok H.out.ok
      have hp2 : (S.map halfC).Perm (halveC L) := ((hpm.map halfC).symm).trans (ordC_perm _).symm
      refine ⟨rfl, ⟨?_, hok⟩, HRR.out.k⟩
      rw [← sumH_perm hp2]
      exact hsk.perm hp2
    · obtain ⟨x, hxl, hxe⟩ := List.mem_map.1 (hp.mem_iff.2 (List.mem_cons_self))
      obtain ⟨rfl, rfl⟩ := encC_key hxe
      obtain ⟨X, Y, rfl⟩ := List.append_of_mem hxl
      have hp2 : ((X ++ Y).map encC).Perm left' := by
        have h1 : ((X ++ x :: Y).map encC).Perm (encC x :: (X ++ Y).map encC) := (List.perm_middle).map encC
        have h2 := h1.symm.trans hp
        exact List.Perm.cons_inv h2
      have hrg2 := hrg'.perm hp2.symm
      have hxL : x ∈ L := hr.pm.mem_iff.2 (by simp)
      have hxp := H.out.ok.pos x hxL
      have hxm := H.out.ok.mem hxL
      have hsum := H.out.ok.sum
      have HKX := Lib.hid (H.out.ok.ks x hxL)
      obtain ⟨st1, st2, st3⟩ := halve_step H.out.ok.keys hr.pm
      have hmid := sum_mid H.out.ok hr.pm
      have kk2 : Keep (fun k => k = s ∨ k = bm) w w' := hr.k.trans' kk (fun i hi => .inr (by omega))
      have HKK := Lib.hid kk2
      have hsk : SkAt w' s bm cap (sumH (S.map halfC ++ (X ++ x :: Y))) (S.map halfC ++ (X ++ x :: Y)) := hr.sk.keep kk (fun e => by have := HLT.out.1; omega) (fun e => by have := HLT.out.2; omega)
      have kbx := (Keep.refl (fun _ => False) w').alloc (.cells #[.int .i64 x.lo, .int .i64 x.hi] 60)
      have HRG := Lib.hid hrg2
      have HSK := Lib.hid hsk
      have HKB := Lib.hid kbx
      have HST := Lib.hid (And.intro st1 (And.intro st2 st3))
      clear hr hp hp2 hrg' hrg2 hxl hxe hR kk kk2 hsk kbx st1 st2 st3
      obtain ⟨q1, q2, q3⟩ := hxp
      go_wp2_with fail
      generalize w'.alloc (.cells #[.int .i64 x.lo, .int .i64 x.hi] 60) = W5 at *
      have HSK5 := Lib.hid (HSK.out.keep HKB.out (fun h => h) (fun h => h))
      have HRG5 := Lib.hid (HRG.out.of_heap (HKB.out.block _ HRG.out.lt.2.1 (fun h => h)) (HKB.out.block _ HRG.out.lt.1 (fun h => h)))
      have hput : Calls Try.prog 32 #[ptr s, .string x.key, bnd (x.lo / 2) ((x.hi + 1) / 2)] W5 (PutPost W5 s bm cap (sumH (S.map halfC ++ (X ++ x :: Y))) (S.map halfC ++ (X ++ x :: Y)) (halfC x)) :=
        put_sk HSK5.out (halfC x) HKX.out (by rw [show hiOf (S.map halfC ++ (X ++ x :: Y)) (halfC x).key = x.hi from HST.out.2.1]; show -4611686018427387904 ≤ (x.hi + 1) / 2 - x.hi ∧ (x.hi + 1) / 2 - x.hi ≤ 4611686018427387904; omega) hmid
      with_reducible refine hput.mono ?_
      clear hput
      rintro e W6 ⟨rfl, hsk, k6, hrr⟩
      have HSK6 := Lib.hid hsk
      have HRG6 := Lib.hid (hrr _ _ HRG5.out (fun p hp => by
        obtain ⟨z, hz, rfl⟩ := List.mem_map.1 hp
        exact fun e => HST.out.2.2 z hz (Value.string.inj e)) ⟨x, by simp, rfl⟩ (by have := HLT.out.1; omega))
      have HKK6 := Lib.hid (((HKK.out.trans (HKB.out.mono (fun _ h => h.elim)))).trans k6)
      clear hsk k6 hrr
      have HN : Hid (HalveR w s bm cap L (S ++ [x]) (X ++ Y) W6) := Lib.hid (by
        refine ⟨HKK6.out, ?_, perm_step HRR.out.pm, ?_⟩
        · obtain ⟨es, clock, since, seen, c0, a1, a2, a3, a4, a5⟩ := HRG6.out
          exact ⟨es, clock, since, seen, c0, a1, a2, a3, fun k v => (CRel.perm HST.out.1 k v).trans (a4 k v), a5⟩
        · have h1 := HSK6.out.perm HST.out.1
          have h2 : sumH (S.map halfC ++ (X ++ x :: Y)) + ((halfC x).hi - hiOf (S.map halfC ++ (X ++ x :: Y)) (halfC x).key) = sumH ((S ++ [x]).map halfC ++ (X ++ Y)) := by
            rw [← sumH_perm HST.out.1, sumH_put HSK.out.keys]
          rwa [h2] at h1)
      go_wp2_with fail
      go_roundw
      case rel => exact ⟨S ++ [x], X ++ Y, HN.out⟩
      case measure => rw [HN.out.rg.left_eq, HRR.out.rg.left_eq]; simp
end Go.Proofs.Ytogkkghliogpeaa
