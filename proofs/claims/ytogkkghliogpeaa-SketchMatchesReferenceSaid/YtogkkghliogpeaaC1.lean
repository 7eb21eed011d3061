/-
  maps.Keys, slices.Collect.
-/
import Derived.Test.YtogkkghliogpeaaB7
import Derived.Shelf.SlIter.Collect
import Derived.RangeFuncBox
namespace Go.Proofs.Ytogkkghliogpeaa
open Go.RowKit Go.Shelf

def apRen : Go.Shelf.Ren := ⟨fun | 11 => 55 | n => n, fun | 0 => 0 | 24 => 32 | 26 => 9 | 28 => 78 | 33 => 75 | n => n, fun n => n⟩
theorem apLays : SlLaysZ.n11 Try.prog apRen := {
  mixed := by kernel_rfl
  f11 := ⟨Try.f55.name, by decide, Try.func55.trans (congrArg some (by kernel_rfl))⟩
  t0 := Try.underlying0
  a0 := Try.isAgg0
  z0 := Try.sizeOf0
  v0 := Try.zeroValue0
  t24 := Try.underlying32
  a24 := Try.isAgg32
  z24 := Try.sizeOf32
  v24 := Try.zeroValue32
  t26 := Try.underlying9
  a26 := Try.isAgg9
  z26 := Try.sizeOf9
  v26 := Try.zeroValue9
  t28 := Try.underlying78
  a28 := Try.isAgg78
  z28 := Try.sizeOf78
  v28 := Try.zeroValue78
  i26 := by kernel_rfl }

theorem Ranging.walks {P : Program} {kt : TypeId} {w w' : World} {b r : Nat} {R : Value → Value → Prop} {left : List (Value × Value)} (h : Ranging P kt w b r R left) (hk : KeepsWalks w w') : Ranging P kt w' b r R left := by
  obtain ⟨es, clock, since, seen, c0, h1, h2, h3, h4, h5, h6, h7, r⟩ := h
  exact ⟨es, clock, since, seen, c0, hk.same b _ h1 rfl, h2, h3, h4, h5, h6, hk.same _ _ h7 rfl, r⟩
theorem Ranging.iter {P : Program} {kt : TypeId} {w : World} {b r : Nat} {R : Value → Value → Prop} {left : List (Value × Value)} (h : Ranging P kt w b r R left) : ∃ o : Obj, w.heap[r]? = some o ∧ o.isWalk = true := by
  obtain ⟨es, clock, since, seen, c0, h1, h2, h3, h4, h5, h6, h7, r⟩ := h
  exact ⟨_, h7, rfl⟩

/-- The keys come, each once, in some order. -/
def KeysOf (L : List C) (ss : List (List UInt8)) : Prop := ss.Perm (L.map fun x => x.key.data.toList)

theorem enc_key (s : ByteArray) : encStr s.data.toList = .string s := by
  cases s
  simp [encStr]

set_option maxRecDepth 100000 in
set_option maxHeartbeats 1000000 in
theorem keys_gives {w : World} {s bm Bm : Nat} {cap tot : Int} {L : List C} (h : SkAt w s bm cap tot L) (hB : Bm < w.heap.size) (hm : w.cell? ⟨Bm, 0, none⟩ = some (.map (some bm))) (F : Fence) (n : Nat) (h52 : F.fn 52) (hro : F.round = none) (hn : 1 ≤ n) :
    SeqGives F n Try.prog 52 #[ptr Bm] encStr (KeysOf L) L.length w := fun l J W hW hJ hY h0 => by
  have hbm := h.lt.2
  have hmap : MapRel Try.prog 9 W bm (CRel L) := h.map.of_heap (hW.block _ hbm)
  have hcm : W.cell? ⟨Bm, 0, none⟩ = some (.map (some bm)) := (hW.cell (p := ⟨Bm, 0, none⟩) hB).trans hm
  obtain ⟨ob, left, hrun, hrg, hnd, hmem⟩ := hmap.range (t := 56) Try.underlying56
  have hrg' := hrg.perm (list_of_rel h.keys hnd hmem).symm
  have hg0 : W.grownBy (W.alloc ob) none := World.grownBy_alloc _ _ _
  have HJ0 := Lib.hid (hJ [] W (W.alloc ob) none h0 hg0 (fun r e => by cases e))
  have HRG := Lib.hid hrg'
  have HH := Lib.hid h
  clear h hrg hrg' hnd hmem hg0 h0 hmap
  refine callsIn_of_wp Try.func52 rfl h52 ?_ hro
  simp only [Try.ntmps52, List.size_toArray, List.length_cons, List.length_nil, Nat.reduceAdd, Nat.reduceSub, Array.replicate_succ, Array.replicate_zero, List.push_toArray, List.append_toArray, List.nil_append, List.cons_append]
  gi_wp2_with fail
  generalize hW5 : W.alloc ob = W5 at *
  have HW5 := Lib.hid hW5
  clear hrun hcm hW5
  gi_loopw [3] (fun _ wr => ∃ S k, L.Perm (S ++ k) ∧ Ranging Try.prog 9 wr bm W.heap.size (CRel L) (k.map encC) ∧ J (S.map fun x => x.key.data.toList) wr) (fun _ wr => wr.rangeLeft bm W.heap.size)
  case atStart => exact ⟨[], L, List.Perm.refl _, HRG.out, HJ0.out⟩
  case round =>
    obtain ⟨S, k, pm, rg, hJs⟩ := hrel
    have HRR := Lib.hid rg
    have HPM := Lib.hid pm
    rcases rg.next 0 with ⟨hk0, hrun⟩ | ⟨key, v, left', w', hp, hR, hrun, hrg', kk, hsz, hen⟩
    · have hl : k = [] := by simpa using hk0
      subst hl
      clear rg hk0 pm
      have HJS := Lib.hid hJs
      clear hJs
      gi_wp2_with fail
      go_end0
      have hpm := HPM.out
      rw [List.append_nil] at hpm
      exact ⟨⟨_, rfl⟩, _, (hpm.map _).symm, HJS.out⟩
    · obtain ⟨x, hxl, hxe⟩ := List.mem_map.1 (hp.mem_iff.2 (List.mem_cons_self))
      obtain ⟨rfl, rfl⟩ := encC_key hxe
      obtain ⟨X, Y, rfl⟩ := List.append_of_mem hxl
      have hp2 : ((X ++ Y).map encC).Perm left' := by
        have h1 : ((X ++ x :: Y).map encC).Perm (encC x :: (X ++ Y).map encC) := (List.perm_middle).map encC
        have h2 := h1.symm.trans hp
        exact List.Perm.cons_inv h2
      have hrg2 := hrg'.perm hp2.symm
      have hJ2 : J (S.map fun x => x.key.data.toList) w' := hJ _ wr w' (some W.heap.size) hJs ⟨kk.os, kk.tape, kk.output, kk.size, fun i hi hn => kk.block i hi (fun e => hn (by rw [e]))⟩ (fun r e => by cases e; exact ⟨Nat.le_refl _, rg.iter⟩)
      have hlen : (S.map fun x => x.key.data.toList).length < L.length := by
        have := pm.length_eq
        rw [List.length_map, this]; simp; omega
      obtain ⟨fn, tmps, assign, body, hy, hRo⟩ := hY _ x.key.data.toList w' hJ2 hlen
      rw [enc_key] at hy
      have HRG2 := Lib.hid hrg2
      clear rg pm hp hp2 hrg' hrg2 hxl hxe hR kk hJs hJ2 hlen
      gi_wp2_with fail
      refine hRo.mono ?_
      rintro e W3 ⟨rfl, hJ3, hk3⟩
      have HJ3 := Lib.hid hJ3
      have HRG3 := Lib.hid (HRG2.out.walks hk3)
      clear hJ3 hk3
      gi_wp2_with fail
      go_roundw
      case rel => exact ⟨S ++ [x], X ++ Y, perm_step HPM.out, HRG3.out, by rw [List.map_append]; exact HJ3.out⟩
      case measure => rw [HRG3.out.left_eq, HRR.out.left_eq]; simp

set_option maxHeartbeats 400000 in
theorem keys_any (bm : Nat) (w : World) : Calls Try.prog 45 #[.map (some bm)] w fun e w' => e = .returned (.func (.func 52) #[] #[ptr w.heap.size]) ∧ w' = w.alloc (.cells #[.map (some bm)] 56) := by
  go_enter Try.func45, Try.ntmps45
  go_wp2_with fail
  go_ret
  exact ⟨rfl, rfl⟩

def CollectPost (w : World) (L : List C) (e : Ending) (w' : World) : Prop := ∃ v ss, e = .returned v ∧ KeysOf L ss ∧ w'.ownsRow w.heap.size 9 1 v ss.length (ss.map encStr) ∧ Keep (fun _ => False) w w'

set_option maxHeartbeats 400000 in
theorem collect_sk {w : World} {s bm Bm : Nat} {cap tot : Int} {L : List C} (h : SkAt w s bm cap tot L) (hB : Bm < w.heap.size) (hm : w.cell? ⟨Bm, 0, none⟩ = some (.map (some bm))) (hl : L.length ≤ 1000) :
    Calls Try.prog 50 #[.func (.func 52) #[] #[ptr Bm]] w (CollectPost w L) := by
  have hap : Calls Try.prog 55 #[.slice none 0 0, .func (.func 52) #[] #[ptr Bm]] w (CollectPost w L) := by
    refine (callsIn_wide (n := 2)).1 ?_
    refine (AnyZ.appendSeq_in apLays Fence.wide 2 trivial rfl (Nat.le_refl _) 52 #[ptr Bm] trivial (enters_of Try.func52 (by kernel_rfl) rfl) (KeysOf L) L.length (by unfold maxLen; omega) (by omega) w (keys_gives h hB hm Fence.wide 1 trivial rfl (Nat.le_refl _))).mono ?_
    rintro e w' ⟨v, ss, rfl, hS, hrow, _, hb⟩
    exact ⟨v, ss, rfl, hS, hrow, ⟨hb.os, hb.tape, hb.output, hb.size, fun k hk _ => hb.block k hk⟩⟩
  clear h hm hB
  go_enter Try.func50, Try.ntmps50
  go_wp2_with fail
  with_reducible refine hap.mono ?_
  rintro e w' ⟨v, ss, rfl, hS, hrow, hk⟩
  have HA := Lib.hid (And.intro hS (And.intro hrow hk))
  clear hS hrow hk hap
  go_wp2_with fail
  go_ret
  exact ⟨v, ss, rfl, HA.out⟩
end Go.Proofs.Ytogkkghliogpeaa
