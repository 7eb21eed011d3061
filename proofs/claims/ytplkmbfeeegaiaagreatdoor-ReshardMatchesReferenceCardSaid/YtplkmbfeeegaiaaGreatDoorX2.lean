/-
  Several texts in one, each under its own heading below (merged by a program of ours): the contracts of the functions that the law reaches, part 2 of 7.
-/
import Derived.Test.YtplkmbfeeegaiaaGreatDoorX1
import Derived.Laws.CopyOwn
import Derived.Shelf.Strconv.Itoa3
import Derived.Ground.NamesProg
import Derived.Test.YtplkmbfeeegaiaaGreatDoorProg
import Derived.WalkKit
import Derived.Shelf.SlGeneric
import Derived.Shelf.SlSortCmp.WholeK
import Derived.Ground.SlsfProg
import Derived.Maps.AppendAt
import Derived.OwnWalk
import Derived.RangeFuncBox
import Derived.WideShapes
import Derived.RangeFuncNested
import Derived.RangeFuncBound
import Derived.RangeFuncCalls
import Derived.RangeFuncLeaves
import Derived.Shelf.Abstract
import Derived.Shelf.RegionOpen
import Derived.OwnWalkIn
import Derived.TacticsInMore
import Derived.LoopNIn
import Derived.LoopIn

/-
  ValidRing, Owner, Load of package ring.
-/
namespace Go.Proofs.YtplkmbfeeegaiaaGreatDoor
open Go.RowKit Go.Shelf

/-- A ring as a value. -/
abbrev ringV (ep : Int) (vm vo : Value) : Value := .agg #[.int .i64 ep, vm, vo]
/-- A ring in memory. -/
structure Rng (W : World) (v : Value) (ep : Int) (l : List Mb) (ow : List Int) : Prop where
  bd : I64 ep
  at_ : ∃ vm vo, v = ringV ep vm vo ∧ Mbs W vm l ∧ Its W vo ow
theorem Rng.kept {W W' : World} {v : Value} {ep : Int} {l : List Mb} {ow : List Int} (h : Rng W v ep l ow) (k : Keep (fun _ => False) W W') : Rng W' v ep l ow := by
  obtain ⟨vm, vo, rfl, h1, h2⟩ := h.at_
  exact ⟨h.bd, vm, vo, rfl, h1.kept k, h2.kept k⟩

set_option maxRecDepth 100000 in
set_option maxHeartbeats 400000 in
theorem load_any (v : Value) (ep : Int) (l : List Mb) (ow : List Int) (w : World) (h : Rng w v ep l ow) (q : Int) : Calls Tryz.prog 51 #[v, .int .i64 q] w fun e w' => e = .returned (.int .i64 (cnt ow q)) ∧ Keep (fun _ => False) w w' := by
  obtain ⟨-, vm, vo, rfl, -, hi⟩ := h
  obtain ⟨hn, -, a, c, b, off, rfl, hc, ha, hcell⟩ := hi
  have HC := Lib.hid hcell
  have HA := Lib.hid ha
  clear hcell ha
  obtain ⟨n, hn'⟩ : ∃ n, ow.length = n := ⟨_, rfl⟩
  have HL := Lib.hid hn'
  rw [hn'] at hn hc ⊢
  clear hn'
  have HK0 : Hid (Keep (fun _ => False) w (w.alloc (.cells #[.int .i64 ep, vm, .slice a n c] 27))) := Lib.hid ((Keep.refl _ w).alloc _)
  go_enter Tryz.func51, Tryz.ntmps51
  go_wp2_with fail
  generalize w.alloc (.cells #[.int .i64 ep, vm, .slice a n c] 27) = W0 at *
  go_loopg [5, 11] n (fun gh v5 v wr => ∃ k : Nat, gh + k = n ∧ v = .int .i64 k ∧ v5 = .int .i64 (cnt (ow.take k) q) ∧ wr = W0)
  case atStart => exact ⟨0, by omega, rfl, by simp [cnt], rfl⟩
  case round =>
    obtain ⟨k, hk, rfl, rfl, rfl⟩ := hrel
    by_cases hlt : k < n
    · obtain ⟨x, hx⟩ : ∃ x, ow[k]? = some x := ⟨_, List.getElem?_eq_getElem (by have := HL.out; omega)⟩
      obtain rfl := HA.out (by have := HL.out; omega)
      have c1 := HK0.out.cell (HC.out k x hx) (fun h => h)
      have HS := Lib.hid (cnt_take_succ hx q)
      have hb0 := cnt_nn (ow.take k) q
      have hb1 : cnt (ow.take k) q ≤ k := by
        unfold cnt
        have := List.count_le_length (a := q) (l := ow.take k)
        rw [List.length_take] at this
        omega
      have hkz : (k : Int) < (n : Int) := by omega
      have hk0 : (0 : Int) ≤ (k : Int) := by omega
      clear hx
      generalize cnt (ow.take k) q = s0 at *
      by_cases hxq : x = q
      · subst hxq
        have hbe : (x == x) = true := by simp
        go_wp2_with fail
        go_roundg (gk - 1)
        case rel => exact ⟨k + 1, by omega, by go_num, by rw [HS.out]; simp, rfl⟩
        case measure => omega
      · have hbe : (x == q) = false := by simpa using hxq
        have HN := Lib.hid hxq
        clear hxq
        go_wp2_with fail
        go_roundg (gk - 1)
        case rel => exact ⟨k + 1, by omega, by go_num, by rw [HS.out, if_neg (fun e => HN.out e.symm), Int.add_zero], rfl⟩
        case measure => omega
    · have HE : Hid (cnt (ow.take k) q = cnt ow q) := Lib.hid (by rw [List.take_of_length_le (by have := HL.out; omega)])
      rw [HE.out]
      go_wp2_with fail
      go_ret
      exact ⟨rfl, HK0.out⟩

/-- The owner of a key. -/
def ownerOf (ow : List Int) (key : ByteArray) : Int := if ow.length = 64 then ow.getD (slotOf key) 0 else -1
set_option maxRecDepth 100000 in
set_option maxHeartbeats 400000 in
theorem owner_any (v : Value) (ep : Int) (l : List Mb) (ow : List Int) (w : World) (h : Rng w v ep l ow) (key : ByteArray) (hk : key.size ≤ 1000000) (hT : Tab w) : Calls Tryz.prog 49 #[v, .string key] w fun e w' => e = .returned (.int .i64 (ownerOf ow key)) ∧ Keep (fun _ => False) w w' := by
  obtain ⟨-, vm, vo, rfl, -, hi⟩ := h
  obtain ⟨hn, -, a, c, b, off, rfl, hc, ha, hcell⟩ := hi
  have HC := Lib.hid hcell
  have HA := Lib.hid ha
  have HK0 : Hid (Keep (fun _ => False) w (w.alloc (.cells #[.int .i64 ep, vm, .slice a ow.length c] 27))) := Lib.hid ((Keep.refl _ w).alloc _)
  have HT3 := Lib.hid (three_cell w (.int .i64 ep) vm (.slice a ow.length c) 27)
  have HS : Hid (∀ W, Tab W → Calls Tryz.prog 97 #[.string key] W fun e w' => e = .returned (.int .i64 (slotOf key : Nat)) ∧ W = w') := Lib.hid (fun W h => slot_any key hk W h)
  have HTB := Lib.hid hT
  have hsl := slotOf_lt key
  clear hcell ha hT
  by_cases h64 : ow.length = 64
  · have HO : Hid (ownerOf ow key = ow.getD (slotOf key) 0) := Lib.hid (by unfold ownerOf; rw [if_pos h64])
    obtain ⟨x, hx⟩ : ∃ x, ow[slotOf key]? = some x := ⟨_, List.getElem?_eq_getElem (by omega)⟩
    have HX : Hid (ownerOf ow key = x) := Lib.hid (by rw [HO.out, List.getD_eq_getElem?_getD, hx]; rfl)
    obtain rfl := HA.out (by omega)
    have HCX := Lib.hid (HC.out _ x hx)
    rw [h64] at hn hc HK0 HT3 ⊢
    clear hx h64
    generalize slotOf key = sl at *
    go_enter Tryz.func49, Tryz.ntmps49
    go_wp2_with fail
    generalize w.alloc (.cells #[.int .i64 ep, vm, .slice (some ⟨b, off, none⟩) 64 c] 27) = W0 at *
    generalize w.heap.size = z at *
    have d2 : W0.cell? ⟨z, 2, none⟩ = some (.slice (some ⟨b, off, none⟩) 64 c) := HT3.out.2.2.1
    have dx : W0.cell? ⟨b, off + sl, none⟩ = some (.int .i64 x) := HK0.out.cell HCX.out (fun h => h)
    have HT0 : Hid (∀ n, Tab (W0.drewN n)) := Lib.hid (fun n => HTB.out.kept (HK0.out.drewN n))
    have hs0 : (0 : Int) ≤ (sl : Int) := by omega
    have hs1 : (sl : Int) < 64 := by omega
    go_quiet ((go_at_call 97; exact quiet_same (HS.out _ (HT0.out _))))
    go_wp2_with fail
    go_ret
    exact ⟨by rw [HX.out]; rfl, HK0.out.drewN _⟩
  · have HO : Hid (ownerOf ow key = -1) := Lib.hid (by unfold ownerOf; rw [if_neg h64])
    obtain ⟨n, hn'⟩ : ∃ n, ow.length = n := ⟨_, rfl⟩
    rw [hn'] at hn hc h64 HK0 ⊢
    have hne : ((n : Int) != 64) = true := by simp; omega
    clear hn' h64 HT3
    go_enter Tryz.func49, Tryz.ntmps49
    go_wp2_with fail
    go_ret
    exact ⟨by rw [HO.out]; rfl, HK0.out⟩

/-- ValidRing. -/
def validRB (ep : Int) (l : List Mb) (ow : List Int) : Bool := ow.all (fun n => decide (cnt ow n ≤ limitL l n)) && (decide (1 ≤ ep ∧ ep ≤ 1000000) && (validL l && decide (ow.length = 64)))
theorem validRB_iff (ep : Int) (l : List Mb) (ow : List Int) : validRB ep l ow = true ↔ okRing ep l ow := by
  unfold validRB okRing
  simp only [Bool.and_eq_true, List.all_eq_true, decide_eq_true_eq, validL_iff]
  constructor
  · rintro ⟨h1, h2, h3, h4⟩
    refine ⟨h2.1, h2.2, h3, h4, fun n => ?_⟩
    by_cases hn : n ∈ ow
    · exact h1 n hn
    · have : cnt ow n = 0 := by
        have h5 := cnt_nn ow n
        by_cases h6 : 0 < cnt ow n
        · exact absurd (cnt_pos_mem h6) hn
        · omega
      rw [this]; exact (limitL_nn l n).1
  · rintro ⟨h1, h2, h3, h4, h5⟩
    exact ⟨fun n _ => h5 n, ⟨h1, h2⟩, h3, h4⟩

set_option maxRecDepth 100000 in
set_option maxHeartbeats 1000000 in
theorem validRing_any (v : Value) (ep : Int) (l : List Mb) (ow : List Int) (w : World) (h : Rng w v ep l ow) : Calls Tryz.prog 50 #[v] w fun e w' => e = .returned (.bool (validRB ep l ow)) ∧ Keep (fun _ => False) w w' := by
  obtain ⟨-, vm, vo, rfl, hmb, hi⟩ := h
  have HLI : Hid (∀ W, Keep (fun _ => False) w W → Calls Tryz.prog 98 #[vm] W (LimPost l W)) := Lib.hid (fun W k => limits_any vm l W (hmb.kept k))
  have HVA : Hid (∀ W, Keep (fun _ => False) w W → Calls Tryz.prog 67 #[vm] W fun e w' => e = .returned (.bool (validL l)) ∧ Keep (fun _ => False) W w') := Lib.hid (fun W k => valid_any vm l W (hmb.kept k))
  obtain ⟨hn, hbd, a, c, b, off, rfl, hc, ha, hcell⟩ := hi
  have HC := Lib.hid hcell
  have HA := Lib.hid ha
  have HBD := Lib.hid hbd
  clear hcell ha hmb hbd
  obtain ⟨n, hn'⟩ : ∃ n, ow.length = n := ⟨_, rfl⟩
  have HL := Lib.hid hn'
  rw [hn'] at hn hc ⊢
  clear hn'
  have HK0 : Hid (Keep (fun _ => False) w (w.alloc (.cells #[.int .i64 ep, vm, .slice a n c] 27))) := Lib.hid ((Keep.refl _ w).alloc _)
  have HT3 := Lib.hid (three_cell w (.int .i64 ep) vm (.slice a n c) 27)
  have HZ : Hid (w.heap.size < (w.alloc (.cells #[.int .i64 ep, vm, .slice a n c] 27)).heap.size) := Lib.hid (by simp)
  have HZ0 : Hid (w.heap.size ≤ w.heap.size) := Lib.hid (Nat.le_refl _)
  go_enter Tryz.func50, Tryz.ntmps50
  go_wp2_with fail
  generalize w.alloc (.cells #[.int .i64 ep, vm, .slice a n c] 27) = W0 at *
  generalize hz : w.heap.size = z at HT3 HZ
  have HZE := Lib.hid hz
  clear hz
  with_reducible refine (HLI.out _ HK0.out).mono ?_
  rintro e W1 ⟨bm, rfl, hbm, hmf, k1⟩
  have HK1 := Lib.hid (HK0.out.trans k1)
  have HBM : Hid (w.heap.size ≤ bm ∧ z ≠ bm) := Lib.hid ⟨by have := HK0.out.size; omega, by have := HZ.out; omega⟩
  have HM1 : Hid (MapF W1 bm (fun q => limitL l q - cnt (ow.take 0) q)) := Lib.hid (hmf.congr (fun q => by simp [cnt]))
  have HZC := Lib.hid (And.intro (k1.cell HT3.out.1 (fun h => h)) (And.intro (k1.cell HT3.out.2.1 (fun h => h)) (k1.cell HT3.out.2.2.1 (fun h => h))))
  clear k1 hbm hmf HT3 HLI
  have d2 := HZC.out.2.2
  go_wp2_with fail
  clear d2
  go_loopg [12] n (fun gh v wr => ∃ k : Nat, gh + k = n ∧ v = .int .i64 k ∧ MapF wr bm (fun q => limitL l q - cnt (ow.take k) q) ∧ (∀ q, cnt (ow.take k) q ≤ limitL l q) ∧ Keep (fun _ => False) w wr ∧ Keep (fun x => x = bm) W1 wr)
  case atStart => exact ⟨0, by omega, rfl, HM1.out, fun q => by have := (limitL_nn l q).1; simp [cnt]; omega, HK1.out, Keep.refl _ _⟩
  case round =>
    clear HM1 HK1
    obtain ⟨k, hk, rfl, hmf, hle, hkeep, hkp⟩ := hrel
    have HMF := Lib.hid hmf
    have HLE := Lib.hid hle
    have HK := Lib.hid hkeep
    have HKP := Lib.hid hkp
    clear hmf hle hkeep hkp
    by_cases hlt : k < n
    · obtain ⟨x, hx⟩ : ∃ x, ow[k]? = some x := ⟨_, List.getElem?_eq_getElem (by have := HL.out; omega)⟩
      obtain rfl := HA.out (by have := HL.out; omega)
      have c1 := HK.out.cell (HC.out k x hx) (fun h => h)
      have hxb := HBD.out x (List.mem_of_getElem? hx)
      have HXB := Lib.hid hxb
      have HS := Lib.hid (cnt_take_succ hx)
      have HXM := Lib.hid (List.mem_of_getElem? hx)
      have hb0 := cnt_nn (ow.take k) x
      have hb1 := HLE.out x
      have hb2 := limitL_nn l x
      obtain ⟨g, hg⟩ : ∃ g, limitL l x - cnt (ow.take k) x = g := ⟨_, rfl⟩
      have hgb : 0 ≤ g ∧ g ≤ 1280 := by omega
      have lk := HMF.out.look hxb

      rw [hg] at lk
      obtain ⟨es', ck', hup, hmr⟩ := HMF.out.update hxb (g - 1)
      have HGX := Lib.hid hg
      have HM2 : Hid (MapF (wr.putObj bm (.map es' ck')) bm (fun q => limitL l q - cnt (ow.take (k + 1)) q)) := Lib.hid (hmr.congr (fun q => by
        unfold upd
        rw [HS.out q]
        by_cases e : q = x
        · subst e; rw [if_pos rfl, if_pos rfl]; have := HGX.out; omega
        · rw [if_neg e, if_neg e, Int.add_zero]))
      have lk2 := HM2.out.look hxb

      have HLK : Hid (limitL l x - cnt (ow.take (k + 1)) x = g - 1) := Lib.hid (by rw [HS.out x, if_pos rfl]; have := HGX.out; omega)
      rw [HLK.out] at lk2
      have HK2 : Hid (Keep (fun _ => False) w (wr.putObj bm (.map es' ck'))) := Lib.hid (HK.out.putObj _ (.inr HBM.out.1))
      have HKP2 : Hid (Keep (fun x => x = bm) W1 (wr.putObj bm (.map es' ck'))) := Lib.hid (HKP.out.putObj _ (.inl rfl))
      have hkz : (k : Int) < (n : Int) := by omega
      have hk0 : (0 : Int) ≤ (k : Int) := by omega
      clear hx hmr hg hb0 hb1 hb2 hxb
      by_cases hneg : g - 1 < 0
      · have HF : Hid (validRB ep l ow = false) := Lib.hid (by
          cases e : validRB ep l ow with
          | false => rfl
          | true =>
            have h1 := ((validRB_iff ep l ow).1 e).2.2.2.2 x
            have h2 := cnt_take_le ow (k + 1) x
            have := HLK.out
            omega)
        go_wp2_with fail
        go_ret
        exact ⟨by rw [HF.out]; rfl, HK2.out⟩
      · have HLE2 : Hid (∀ q, cnt (ow.take (k + 1)) q ≤ limitL l q) := Lib.hid (fun q => by
          have h1 := HLE.out q
          have h2 := HS.out q
          by_cases e : q = x
          · subst e; have := HLK.out; omega
          · rw [if_neg e] at h2; omega)
        go_wp2_with fail
        clear lk lk2 hup c1
        generalize wr.putObj bm (.map es' ck') = W2 at *
        go_roundg (gk - 1)
        case rel => exact ⟨k + 1, by omega, by go_num, HM2.out, HLE2.out, HK2.out, HKP2.out⟩
        case measure => omega
    · have HALL : Hid (ow.all (fun n => decide (cnt ow n ≤ limitL l n)) = true) := Lib.hid (by
        rw [List.all_eq_true]
        intro q _
        have := HLE.out q
        rw [List.take_of_length_le (by have := HL.out; omega)] at this
        exact decide_eq_true this)
      have d0 := HKP.out.cell HZC.out.1 HBM.out.2
      have d1 := HKP.out.cell HZC.out.2.1 HBM.out.2
      have d2 := HKP.out.cell HZC.out.2.2 HBM.out.2
      have HRB : Hid (validRB ep l ow = (decide (1 ≤ ep ∧ ep ≤ 1000000) && (validL l && decide (n = 64)))) := Lib.hid (by unfold validRB; rw [HALL.out, HL.out]; rfl)
      go_wp2_with fail
      by_cases h1 : 1 ≤ ep ∧ ep ≤ 1000000
      · have H1 := Lib.hid (decide_eq_true h1)
        clear h1
        with_reducible refine (within_b ep 1 1000000 true H1.out _).mono ?_
        rintro e w' ⟨rfl, rfl⟩
        go_wp2_with fail
        with_reducible refine (HVA.out _ HK.out).mono ?_
        rintro e W3 ⟨rfl, k3⟩
        have HK3 := Lib.hid (HK.out.trans k3)
        have d2' := k3.cell d2 (fun h => h)
        clear d2 d1 d0 k3
        cases hva : validL l with
        | false =>
          have HVF := Lib.hid hva
          clear hva
          go_wp2_with fail
          go_ret
          exact ⟨by rw [HRB.out, H1.out, HVF.out]; rfl, HK3.out⟩
        | true =>
          have HVF := Lib.hid hva
          clear hva
          by_cases h64 : n = 64
          · subst h64
            go_wp2_with fail
            go_ret
            exact ⟨by rw [HRB.out, H1.out, HVF.out]; rfl, HK3.out⟩
          · have hb : ((n : Int) == 64) = false := by simp; omega
            have HN := Lib.hid (decide_eq_false h64)
            clear h64
            go_wp2_with fail
            go_ret
            exact ⟨by rw [HRB.out, H1.out, HVF.out, HN.out]; rfl, HK3.out⟩
      · have H1 := Lib.hid (decide_eq_false h1)
        clear h1
        with_reducible refine (within_b ep 1 1000000 false H1.out _).mono ?_
        rintro e w' ⟨rfl, rfl⟩
        go_wp2_with fail
        go_ret
        exact ⟨by rw [HRB.out, H1.out]; rfl, HK.out⟩
end Go.Proofs.YtplkmbfeeegaiaaGreatDoor

/-
  copy within a row that the call itself made, elements of k cells.
-/
namespace Go.Proofs.YtplkmbfeeegaiaaGreatDoor
open Go.RowKit

theorem run_copy_zero {P : Program} (w : World) (dT sT ty elem : TypeId) (k : Nat) (dp sp : Option Addr) (dLen dCap sLen sCap : Nat) (hu : P.underlying dT = some (.slice elem)) (hs : (P.info? elem).map (·.size) = some k) (hn : Nat.min sLen dLen = 0) :
    (Builtin.copy_ #[dT, sT] ty #[.slice dp dLen dCap, .slice sp sLen sCap]).run P w = .ok (goInt 0) w := by
  cases hq : P.info? elem with
  | none => simp [hq] at hs
  | some i =>
    have hl : ∀ a : Addr, (loadCells a 0).run P w = .ok #[] w := fun a => run_loadCells_list (P := P) w a [] (fun j v hj => by simp at hj)
    cases sp with
    | none =>
      cases dp <;> simp [Builtin.copy_, run_underlying hu, Builtin.lenOf, Builtin.firstCells, sizeOf, typeInfo, hq, hn, storeCells]
    | some a =>
      cases dp <;> simp [Builtin.copy_, run_underlying hu, Builtin.lenOf, Builtin.firstCells, sizeOf, typeInfo, hq, hn, storeCells, hl]
theorem run_copy_k {P : Program} (w : World) (dT sT ty elem : TypeId) (k g o dLen dCap : Nat) (a : Addr) (sLen sCap : Nat) (cur : Array Value) (t : TypeId) (cs : List Value) (m : Nat)
    (hu : P.underlying dT = some (.slice elem)) (hs : (P.info? elem).map (·.size) = some k)
    (hg : w.heap[g]? = some (.cells cur t (0, 0))) (hn : Nat.min sLen dLen = m) (hc : cs.length = m * k)
    (hsrc : ∀ j v, cs[j]? = some v → w.cell? (a.add j) = some v) (hfit : o + cs.length ≤ cur.size) (h1 : ∀ v ∈ cs, v.oneCell' = true) :
    (Builtin.copy_ #[dT, sT] ty #[.slice (some ⟨g, o, none⟩) dLen dCap, .slice (some a) sLen sCap]).run P w =
      .ok (goInt m) (w.setRow g (cur.toList.take o ++ cs ++ cur.toList.drop (o + cs.length)).toArray) := by
  have hl := run_loadCells_list (P := P) w a cs hsrc
  have hst := run_storeCells_at P g o t cs 0 cur w hg (by simpa using hfit) h1
  cases hq : P.info? elem with
  | none => simp [hq] at hs
  | some i =>
    have hi : i.size = k := by simpa [hq] using hs
    simp [Builtin.copy_, run_underlying hu, Builtin.lenOf, Builtin.firstCells, sizeOf, typeInfo, hq, hi, hn, ← hc, hl, hst]
theorem Keep.setRow (w : World) (g : Nat) (cs : Array Value) : Keep (fun j => j = g) w (w.setRow g cs) :=
  ⟨rfl, rfl, rfl, by simp [World.setRow], fun k _ hk => setRow_other w g k cs (fun e => hk e)⟩
theorem copy_within {P : Program} {W : World} {base : Nat} {e : TypeId} {k g cap n : Nat} {xs : List Value} (h : W.ownsRow base e k (.slice (some ⟨g, 0, none⟩) n cap) n xs) (h1 : ∀ u ∈ xs, u.oneCell' = true)
    (dT sT ty elem : TypeId) (hu : P.underlying dT = some (.slice elem)) (hs : (P.info? elem).map (·.size) = some k)
    (dp sp : Option Addr) (dLen dCap sLen sCap o so m : Nat) (hm : Nat.min sLen dLen = m) (hpos : 0 < m → dp = some ⟨g, o, none⟩ ∧ sp = some ⟨g, so, none⟩) (ho : o + m * k ≤ n * k) (hso : so + m * k ≤ n * k) :
    ∃ W', (Builtin.copy_ #[dT, sT] ty #[.slice dp dLen dCap, .slice sp sLen sCap]).run P W = .ok (goInt m) W' ∧ W'.ownsRow base e k (.slice (some ⟨g, 0, none⟩) n cap) n (xs.take o ++ ((xs.drop so).take (m * k) ++ xs.drop (o + m * k))) ∧ Keep (fun j => j = g) W W' := by
  have h' := h
  obtain ⟨hlen, hrow⟩ := h
  rcases hrow with ⟨e0, _⟩ | ⟨g', cap', cur, e0, hb, hg, hn, hmax, hcur, htake⟩
  · cases e0
  · cases e0
    by_cases h0 : m = 0
    · subst h0
      refine ⟨W, run_copy_zero W dT sT ty elem k dp sp dLen dCap sLen sCap hu hs hm, ?_, Keep.refl _ W⟩
      simpa using h'
    · obtain ⟨rfl, rfl⟩ := hpos (by omega)
      have hcl : ((xs.drop so).take (m * k)).length = m * k := by rw [List.length_take, List.length_drop]; omega
      have hnc : n * k ≤ cap * k := Nat.mul_le_mul_right k hn
      have hfull : cur.toList = xs ++ cur.toList.drop (n * k) := by rw [← htake, List.take_append_drop]
      refine ⟨_, run_copy_k W dT sT ty elem k g o dLen dCap ⟨g, so, none⟩ sLen sCap cur e ((xs.drop so).take (m * k)) m hu hs hg hm hcl (fun j v hj => ?_) (by rw [hcl]; omega) (fun v hv => h1 v (List.mem_of_mem_drop (List.mem_of_mem_take hv))), ?_, Keep.setRow W g _⟩
      · have hj1 : j < m * k := by have := (List.getElem?_eq_some_iff.1 hj).1; omega
        rw [List.getElem?_take_of_lt hj1, List.getElem?_drop] at hj
        rw [Addr.add_lit, h'.cellAt (so + j) (by omega)]
        exact hj
      · refine ⟨by simp only [List.length_append, List.length_take, List.length_drop]; omega, .inr ⟨g, cap, _, rfl, hb, setRow_heap W g cur _ e _ hg, hn, hmax, ?_, ?_⟩⟩
        · simp only [List.size_toArray, List.length_append, List.length_take, List.length_drop, Array.length_toList]
          omega
        · rw [hcl]
          show List.take (n * k) (cur.toList.take o ++ (xs.drop so).take (m * k) ++ cur.toList.drop (o + m * k)) = _
          generalize (xs.drop so).take (m * k) = cs at *
          generalize cur.toList.drop (n * k) = D at hfull
          have e1 : (xs ++ D).take o = xs.take o := List.take_append_of_le_length (by omega)
          have e2 : (xs ++ D).drop (o + m * k) = xs.drop (o + m * k) ++ D := List.drop_append_of_le_length (by omega)
          rw [hfull, e1, e2]
          have e : xs.take o ++ cs ++ (xs.drop (o + m * k) ++ D) = (xs.take o ++ (cs ++ xs.drop (o + m * k))) ++ D := by simp
          rw [e, List.take_append_of_le_length (by simp only [List.length_append, List.length_take, List.length_drop]; omega)]
          exact List.take_of_length_le (by simp only [List.length_append, List.length_take, List.length_drop]; omega)
end Go.Proofs.YtplkmbfeeegaiaaGreatDoor

/-
  The reference's SameInts, Sum, Point, Digits.
-/
namespace Go.Proofs.YtplkmbfeeegaiaaGreatDoor
open Go.RowKit Go.Shelf

set_option maxRecDepth 100000 in
set_option maxHeartbeats 2000000 in
theorem sameInts_any (va vb : Value) (xs ys : List Int) (w : World) (ha : Its w va xs) (hb : Its w vb ys) : Calls Tryz.prog 26 #[va, vb] w fun e w' => e = .returned (.bool (decide (xs = ys))) ∧ Keep (fun _ => False) w w' := by
  obtain ⟨hn1, -, a, c, b, off, rfl, hc, ha, hcell⟩ := ha
  obtain ⟨hn2, -, a', c', b', off', rfl, hc', ha', hcell'⟩ := hb
  have HCA := Lib.hid hcell
  have HCB := Lib.hid hcell'
  have HAA := Lib.hid ha
  have HAB := Lib.hid ha'
  clear hcell hcell' ha ha'
  by_cases hl : xs.length = ys.length
  · obtain ⟨n, hn⟩ : ∃ n, xs.length = n := ⟨_, rfl⟩
    have hny : ys.length = n := by omega
    have HN := Lib.hid hn
    have HNY := Lib.hid hny
    rw [hn] at hn1 hc ⊢
    rw [hny] at hn2 hc' ⊢
    have hd : ((n : Int) != (n : Int)) = false := by simp
    clear hl hn hny
    go_enter Tryz.func26, Tryz.ntmps26
    go_wp2_with fail
    go_loopg [5] (n) (fun gh i wr => ∃ (k m : Nat), gh + k = n ∧ i = .int .i64 k ∧ wr = w.drewN m ∧ Hid (xs.take k = ys.take k))
    case atStart => exact ⟨0, 0, Nat.add_zero _, rfl, rfl, rfl⟩
    case round =>
      obtain ⟨k, m, hk, rfl, rfl, HE⟩ := hrel
      by_cases hlt : k < n
      · have hkx : k < xs.length := by rw [HN.out]; exact hlt
        have hky : k < ys.length := by rw [HNY.out]; exact hlt
        obtain rfl := HAA.out (by omega)
        obtain rfl := HAB.out (by omega)
        have t1 : xs.take (k + 1) = xs.take k ++ [xs[k]] := by rw [List.take_add_one, List.getElem?_eq_getElem hkx]; rfl
        have t2 : ys.take (k + 1) = ys.take k ++ [ys[k]] := by rw [List.take_add_one, List.getElem?_eq_getElem hky]; rfl
        have hb0 : (0 : Int) ≤ (k : Int) := by omega
        have hb1 : (k : Int) < (n : Int) := by omega
        have ca0 := HCA.out k _ (List.getElem?_eq_getElem hkx)
        have cb0 := HCB.out k _ (List.getElem?_eq_getElem hky)
        -- the elements
        by_cases hst : xs[k] = ys[k]
        · have HT : Hid (xs.take (k + 1) = ys.take (k + 1)) := by
            show _ = _
            rw [t1, t2, HE.out, hst]
          rw [← hst] at cb0
          clear t1 t2 hst
          generalize xs[k] = x at *
          clear hkx hky
          have hb : (x != x) = false := by simp
          go_wp2_with fail
          go_quiet (fail)
          go_wp2_with fail
          go_roundg (gk - 1)
          case rel => exact ⟨k + 1, _, by omega, by go_num, by first | rfl | exact World.drewN_drewN _ _ _, HT⟩
          case measure => omega
        · have HT : Hid (decide (xs = ys) = false) := Lib.hid (by
            rw [decide_eq_false_iff_not]
            intro e
            subst e
            exact hst rfl)
          generalize xs[k] = x at *
          generalize ys[k] = y at *
          have hb : (x != y) = true := by simpa using hst
          clear hkx hky t1 t2 hst
          go_wp2_with fail
          go_quiet (fail)
          go_wp2_with fail
          go_ret
          exact ⟨by rw [HT.out]; rfl, ((Keep.refl _ w).drewN _).drewN _⟩
      · have HT : Hid (decide (xs = ys) = true) := by
          show _ = _
          rw [decide_eq_true_eq]
          have h1 := HE.out
          rw [List.take_of_length_le (by have := HN.out; omega), List.take_of_length_le (by have := HNY.out; omega)] at h1
          exact h1
        go_wp2_with fail
        go_ret
        exact ⟨by rw [HT.out]; rfl, (Keep.refl _ w).drewN _⟩
  · have hd : ((xs.length : Int) != (ys.length : Int)) = true := by simp; omega
    have HT : Hid (decide (xs = ys) = false) := by
      show _ = _
      rw [decide_eq_false_iff_not]
      intro e
      subst e
      exact hl rfl
    go_enter Tryz.func26, Tryz.ntmps26
    go_wp2_with fail
    go_ret
    exact ⟨by rw [HT.out]; rfl, Keep.refl _ w⟩

/-- k bits. -/
def bitsN (r : Nat) : Nat → Nat
  | 0 => r
  | k + 1 => bit1 (bitsN r k)
theorem bit1_lt {r : Nat} (h : r < 4294967296) : bit1 r < 4294967296 := by
  unfold bit1
  refine Nat.xor_lt_two_pow (n := 32) (by omega) ?_
  unfold poly
  split <;> omega
theorem bitsN_lt {r : Nat} (h : r < 4294967296) : ∀ k, bitsN r k < 4294967296
  | 0 => h
  | k + 1 => bit1_lt (bitsN_lt h k)
theorem bitsN_8 (r b : Nat) : bitsN (r ^^^ b) 8 = byteN r b := by
  unfold byteN
  rw [← nib_eq, ← nib_eq]
  rfl
set_option maxRecDepth 100000 in
set_option maxHeartbeats 2000000 in
theorem refSum_any (s : ByteArray) (hs : s.size ≤ 1000000) (w : World) : Calls Tryz.prog 113 #[.string s] w fun e w' => e = .returned (.int .i64 (sumN s.data.toList : Nat)) ∧ w = w' := by
  go_enter Tryz.func113, Tryz.ntmps113
  go_wp2_with fail
  go_loopg [3, 4] s.size (fun gh v3 v4 wr => ∃ i : Nat, v4 = .int .i64 i ∧ i + gh = s.size ∧ v3 = .int .u32 (regN (s.data.toList.take i) : Nat) ∧ w = wr)
  case atStart => exact ⟨0, rfl, by omega, by simp [regN], rfl⟩
  case round =>
    obtain ⟨i, rfl, hi, rfl, rfl⟩ := hrel
    by_cases hlt : i < s.size
    · obtain ⟨bt, hbt⟩ : ∃ bt : Nat, s[i].toNat = bt := ⟨_, rfl⟩
      have hb : bt < 256 := by rw [← hbt]; exact s[i].toNat_lt
      have hreg := regN_lt (s.data.toList.take i)
      have hsn : Hid (regN (s.data.toList.take (i + 1)) = byteN (regN (s.data.toList.take i)) bt) := Lib.hid (by
        rw [List.take_add_one, List.getElem?_eq_getElem (by simpa using hlt), ← hbt]
        exact regN_snoc _ _)
      obtain ⟨r0, hr0⟩ : ∃ r0, regN (s.data.toList.take i) = r0 := ⟨_, rfl⟩
      rw [hr0] at hreg hsn
      have e0 : (bt : Int) % 4294967296 = (bt : Int) := by omega
      obtain ⟨r1, hr1⟩ : ∃ r1, r0 ^^^ bt = r1 := ⟨_, rfl⟩
      have h1 : r1 < 4294967296 := by rw [← hr1]; exact Nat.xor_lt_two_pow (n := 32) hreg (by omega)
      have e1 : bits .xor .u32 (r0 : Int) (bt : Int) = (r1 : Int) := by rw [u32_xor_nat _ _ hreg (by omega), hr1]
      have HR : Hid (regN (s.data.toList.take (i + 1)) = bitsN r1 8) := Lib.hid (by rw [hsn.out, ← hr1, bitsN_8])
      clear hr1 hsn
      rw [hr0]
      clear hr0
      have HLT := Lib.hid hlt
      go_wp2_with fail
      clear e0 e1 hbt hb
      go_loopg [3, 5] 8 (fun gh2 v3 v5 wr => ∃ k : Nat, v5 = .int .i64 k ∧ k + gh2 = 8 ∧ v3 = .int .u32 (bitsN r1 k : Nat) ∧ w = wr)
      case atStart => exact ⟨0, rfl, by omega, rfl, rfl⟩
      case round =>
        obtain ⟨k, rfl, hk, rfl, rfl⟩ := hrel
        have hbl := bitsN_lt h1 k
        by_cases hlt2 : k < 8
        · have HB : Hid (bitsN r1 (k + 1) = bit1 (bitsN r1 k)) := Lib.hid rfl
          obtain ⟨q, hq⟩ : ∃ q, bitsN r1 k = q := ⟨_, rfl⟩
          rw [hq] at hbl HB ⊢
          clear hq
          have hkz : (k : Int) < 8 := by omega
          have hp : q / 2 < 4294967296 := by omega
          by_cases hodd : q % 2 = 1
          · have em : (q : Int) % 2 = 1 := by omega
            have ex : bits .xor .u32 ((q : Int) / 2) 2197175160 = ((bit1 q : Nat) : Int) := by
              have := u32_xor_nat (q / 2) 2197175160 hp (by decide)
              unfold bit1 poly
              rw [if_pos hodd]
              rw [show ((q / 2 : Nat) : Int) = (q : Int) / 2 by omega] at this
              exact this
            rw [← HB.out] at ex
            go_wp2_with fail
            go_roundg (gk - 1)
            case rel => exact ⟨k + 1, by go_num, by omega, rfl, rfl⟩
            case measure => omega
          · have em : (q : Int) % 2 = 0 := by omega
            have ex : (q : Int) / 2 = ((bit1 q : Nat) : Int) := by
              unfold bit1
              rw [if_neg hodd, Nat.xor_zero]
              omega
            rw [← HB.out] at ex
            have HEX := Lib.hid ex
            clear ex
            go_wp2_with fail
            go_roundg (gk - 1)
            case rel => exact ⟨k + 1, by go_num, by omega, by rw [← HEX.out], rfl⟩
            case measure => omega
        · obtain rfl : k = 8 := by omega
          go_wp2_with fail
          go_roundg (s.size - (i + 1))
          case rel => exact ⟨i + 1, by go_num, by have := HLT.out; omega, by rw [HR.out], rfl⟩
          case measure => omega
    · obtain rfl : i = s.size := by omega
      have e : s.data.toList.take s.size = s.data.toList := List.take_of_length_le (by show s.data.toList.length ≤ s.data.size; rw [Array.length_toList]; exact Nat.le_refl _)
      rw [e]
      have hreg := regN_lt s.data.toList
      have HS : Hid (4294967295 ^^^ regN s.data.toList = sumN s.data.toList) := Lib.hid rfl
      have hl := sumN_lt s.data.toList
      obtain ⟨z, hz⟩ : ∃ z, sumN s.data.toList = z := ⟨_, rfl⟩
      rw [hz] at HS hl
      have HZ := Lib.hid hz
      clear hz
      generalize regN s.data.toList = r at *
      have e1 : bits .xor .u32 IntKind.u32.max (r : Int) = (z : Int) := by
        show bits .xor .u32 4294967295 (r : Int) = (z : Int)
        have := u32_xor_nat 4294967295 r (by decide) hreg
        rw [HS.out] at this
        exact this
      have ew : wrap64 (z : Int) = (z : Int) := by unfold wrap64; omega
      go_wp2_with fail
      go_ret
      exact ⟨by rw [HZ.out]; rfl, rfl⟩
set_option maxRecDepth 100000 in
theorem refPoint_any (s : ByteArray) (hs : s.size ≤ 1000000) (w : World) : Calls Tryz.prog 78 #[.string s] w fun e w' => e = .returned (.int .i64 (pt s : Nat)) ∧ w = w' := by
  have HS := Lib.hid (refSum_any s hs w)
  go_enter Tryz.func78, Tryz.ntmps78
  go_wp2_with fail
  with_reducible refine HS.out.mono ?_
  rintro e w' ⟨rfl, rfl⟩
  go_wp2_with fail
  go_ret
  exact ⟨rfl, rfl⟩
end Go.Proofs.YtplkmbfeeegaiaaGreatDoor

/-
  DERIVED: THE SHELF's CONTRACTS AT THIS DUMP, IN PLAIN WORDS (tools/lay-plain.mjs out of 'YtplkmbfeeegaiaaGreatDoorT0.lean', which tools/lay-shelf.mjs wrote): THE SAME DECLARATIONS UNDER THE SAME NAMES: 'import', 'namespace', 'open', 'def', 'theorem' AND NOTHING ELSE: no command of the shelf's: FOR A HAND-IN. Each laying: the table of numbers ('.._ren') and one theorem, a field a fact of the dump's own or the kernel's comparison; each contract: ONE APPLICATION.
-/
namespace Go.Proofs
open Go.Shelf
def Tryz.lays171_ren : Go.Shelf.Ren := ⟨fun | 171 => 71 | 243 => 110 | 246 => 136 | 283 => 158 | 284 => 159 | 285 => 160 | 286 => 161 | 129 => 157 | 317 => 189 | 318 => 190 | 319 => 191 | 320 => 192 | 337 => 203 | 338 => 204 | n => n, fun | 3 => 3 | 9 => 9 | 2 => 2 | 4 => 4 | 171 => 198 | 0 => 0 | 53 => 197 | 37 => 146 | 5 => 5 | 173 => 200 | 212 => 223 | 51 => 174 | 20 => 20 | 213 => 224 | 46 => 140 | 232 => 241 | 233 => 242 | n => n, fun | 17 => 1 | 18 => 2 | 19 => 3 | n => n⟩
theorem Tryz.lays171 : Go.Proofs.Lays.n171 Tryz.prog Tryz.lays171_ren := {
  mixed := by kernel_rfl
  f129 := Tryz.func157.trans (congrArg some (by kernel_rfl))
  f171 := Tryz.func71.trans (congrArg some (by kernel_rfl))
  f243 := Tryz.func110.trans (congrArg some (by kernel_rfl))
  f246 := Tryz.func136.trans (congrArg some (by kernel_rfl))
  f283 := Tryz.func158.trans (congrArg some (by kernel_rfl))
  f284 := Tryz.func159.trans (congrArg some (by kernel_rfl))
  f285 := Tryz.func160.trans (congrArg some (by kernel_rfl))
  f286 := Tryz.func161.trans (congrArg some (by kernel_rfl))
  f317 := Tryz.func189.trans (congrArg some (by kernel_rfl))
  f318 := Tryz.func190.trans (congrArg some (by kernel_rfl))
  f319 := Tryz.func191.trans (congrArg some (by kernel_rfl))
  f320 := Tryz.func192.trans (congrArg some (by kernel_rfl))
  f337 := Tryz.func203.trans (congrArg some (by kernel_rfl))
  f338 := Tryz.func204.trans (congrArg some (by kernel_rfl))
  t0 := Tryz.underlying0
  a0 := Tryz.isAgg0
  z0 := Tryz.sizeOf0
  v0 := Tryz.zeroValue0
  t2 := Tryz.underlying2
  a2 := Tryz.isAgg2
  z2 := Tryz.sizeOf2
  v2 := Tryz.zeroValue2
  t3 := Tryz.underlying3
  a3 := Tryz.isAgg3
  z3 := Tryz.sizeOf3
  v3 := Tryz.zeroValue3
  t4 := Tryz.underlying4
  a4 := Tryz.isAgg4
  z4 := Tryz.sizeOf4
  v4 := Tryz.zeroValue4
  t5 := Tryz.underlying5
  a5 := Tryz.isAgg5
  z5 := Tryz.sizeOf5
  v5 := Tryz.zeroValue5
  t9 := Tryz.underlying9
  a9 := Tryz.isAgg9
  z9 := Tryz.sizeOf9
  v9 := Tryz.zeroValue9
  t20 := Tryz.underlying20
  a20 := Tryz.isAgg20
  z20 := Tryz.sizeOf20
  v20 := Tryz.zeroValue20
  t37 := Tryz.underlying146
  a37 := Tryz.isAgg146
  z37 := Tryz.sizeOf146
  v37 := Tryz.zeroValue146
  t46 := Tryz.underlying140
  a46 := Tryz.isAgg140
  z46 := Tryz.sizeOf140
  v46 := Tryz.zeroValue140
  t51 := Tryz.underlying174
  a51 := Tryz.isAgg174
  z51 := Tryz.sizeOf174
  v51 := Tryz.zeroValue174
  t53 := Tryz.underlying197
  a53 := Tryz.isAgg197
  z53 := Tryz.sizeOf197
  v53 := Tryz.zeroValue197
  t171 := Tryz.underlying198
  a171 := Tryz.isAgg198
  z171 := Tryz.sizeOf198
  v171 := Tryz.zeroValue198
  t173 := Tryz.underlying200
  a173 := Tryz.isAgg200
  z173 := Tryz.sizeOf200
  v173 := Tryz.zeroValue200
  t212 := Tryz.underlying223
  a212 := Tryz.isAgg223
  z212 := Tryz.sizeOf223
  v212 := Tryz.zeroValue223
  t213 := Tryz.underlying224
  a213 := Tryz.isAgg224
  z213 := Tryz.sizeOf224
  t232 := Tryz.underlying241
  a232 := Tryz.isAgg241
  z232 := Tryz.sizeOf241
  v232 := Tryz.zeroValue241
  t233 := Tryz.underlying242
  a233 := Tryz.isAgg242
  z233 := Tryz.sizeOf242
  v233 := Tryz.zeroValue242
  g17 := by kernel_rfl
  g18 := by kernel_rfl
  g19 := by kernel_rfl }
end Go.Proofs

/-
  Itoa, text; the points of members and of slots.
-/
namespace Go.Proofs.YtplkmbfeeegaiaaGreatDoor
open Go.RowKit Go.Shelf

/-- A numeral. -/
def dig (n : Nat) : ByteArray := ⟨(Lib.decDigits n).toArray⟩
theorem itoa_small (n : Nat) (h : n < 100) (w : World) : Calls Tryz.prog 71 #[.int .i64 n] w fun e w' => e = .returned (.string (dig n)) ∧ w = w' :=
  (Any.strconv_Itoa_small Tryz.lays171 n h w).mono fun _ _ ⟨h1, h2⟩ => ⟨h1, h2.symm⟩
theorem dig_size {n : Nat} (h : n < 100) : (dig n).size ≤ 2 := by
  show (Lib.decDigits n).toArray.size ≤ 2
  rw [List.size_toArray, Lib.decDigits]
  split
  · simp
  · rw [Lib.decDigits, dif_pos (by omega)]
    simp
/-- A word and numbers. -/
def addT (s : ByteArray) (n : Nat) : ByteArray := s ++ (⟨#[32]⟩ ++ dig n)
def txt (s : ByteArray) (l : List Nat) : ByteArray := l.foldl addT s
theorem txt_snoc (s : ByteArray) (l : List Nat) (n : Nat) : txt s (l ++ [n]) = addT (txt s l) n := by unfold txt; rw [List.foldl_append]; rfl

set_option maxRecDepth 100000 in
set_option maxHeartbeats 1000000 in
theorem text_any (word : ByteArray) (v : Value) (l : List Nat) (w : World) (hw : word.size ≤ 10) (hl : l.length ≤ 2) (hb : ∀ n ∈ l, n < 100) (h : Its w v (l.map (fun n : Nat => (n : Int)))) :
    Calls Tryz.prog 101 #[.string word, v] w fun e w' => e = .returned (.string (txt word l)) ∧ w = w' := by
  obtain ⟨hn, -, a, c, b, off, rfl, hc, ha, hcell⟩ := h
  have HC := Lib.hid hcell
  have HA := Lib.hid ha
  have HB := Lib.hid hb
  clear hcell ha hb
  rw [List.length_map] at hn hc HA ⊢
  obtain ⟨n, hn'⟩ : ∃ n, l.length = n := ⟨_, rfl⟩
  have HL := Lib.hid hn'
  rw [hn'] at hn hc hl ⊢
  clear hn'
  go_enter Tryz.func101, Tryz.ntmps101
  go_wp2_with fail
  go_loopg [0, 9] n (fun gh v0 v wr => ∃ (k : Nat) (s : ByteArray), gh + k = n ∧ v = .int .i64 k ∧ v0 = .string s ∧ s = txt word (l.take k) ∧ s.size ≤ 10 + 3 * k ∧ w = wr)
  case atStart => exact ⟨0, word, by omega, rfl, rfl, rfl, by omega, rfl⟩
  case round =>
    obtain ⟨k, s, hk, rfl, rfl, hs, hsz, rfl⟩ := hrel
    have HS := Lib.hid hs
    clear hs
    by_cases hlt : k < n
    · obtain ⟨x, hx⟩ : ∃ x, l[k]? = some x := ⟨_, List.getElem?_eq_getElem (by have := HL.out; omega)⟩
      obtain rfl := HA.out (by have := HL.out; omega)
      have c1 := HC.out k (x : Int) (by rw [List.getElem?_map, hx]; rfl)
      have hx100 := HB.out x (List.mem_of_getElem? hx)
      have hdz := dig_size hx100
      have HX : Hid (txt word (l.take (k + 1)) = s ++ (⟨#[32]⟩ ++ dig x)) := Lib.hid (by rw [List.take_add_one, hx, Option.toList_some, txt_snoc, ← HS.out]; rfl)
      have hkz : (k : Int) < (n : Int) := by omega
      have hk0 : (0 : Int) ≤ (k : Int) := by omega
      clear hx
      go_wp2_with fail
      with_reducible refine (itoa_small x hx100 _).mono ?_
      rintro e w' ⟨rfl, rfl⟩
      generalize dig x = d at *
      have hsz2 : (s ++ (⟨#[32]⟩ ++ d)).size ≤ 10 + 3 * (k + 1) := by
        rw [ByteArray.size_append, ByteArray.size_append]
        have : (⟨#[32]⟩ : ByteArray).size = 1 := rfl
        omega
      go_wp2_with fail
      go_roundg (gk - 1)
      case rel => exact ⟨k + 1, _, by omega, by go_num, rfl, HX.out.symm, hsz2, rfl⟩
      case measure => omega
    · have HE : Hid (txt word l = s) := Lib.hid (by rw [HS.out, List.take_of_length_le (by have := HL.out; omega)])
      go_wp2_with fail
      go_ret
      exact ⟨by rw [HE.out]; rfl, rfl⟩

/-- The point of a member. -/
def nodeT (n : Int) (i : Nat) : ByteArray := txt ⟨#[110, 111, 100, 101]⟩ [n.toNat, i]
def slotT (s : Nat) : ByteArray := txt ⟨#[115, 108, 111, 116]⟩ [s]
def PN (n : Int) (i : Nat) : Int := (pt (nodeT n i) : Nat)
def QS (s : Nat) : Int := (pt (slotT s) : Nat)
theorem nodeT_size {n : Int} {i : Nat} (hn : n.toNat < 100) (hi : i < 100) : (nodeT n i).size ≤ 1000000 := by
  have h1 := dig_size hn
  have h2 := dig_size hi
  unfold nodeT txt addT
  simp only [List.foldl_cons, List.foldl_nil, ByteArray.size_append]
  have e1 : (⟨#[110, 111, 100, 101]⟩ : ByteArray).size = 4 := rfl
  have e2 : (⟨#[32]⟩ : ByteArray).size = 1 := rfl
  omega
theorem slotT_size {s : Nat} (hs : s < 100) : (slotT s).size ≤ 1000000 := by
  have h1 := dig_size hs
  unfold slotT txt addT
  simp only [List.foldl_cons, List.foldl_nil, ByteArray.size_append]
  have e1 : (⟨#[115, 108, 111, 116]⟩ : ByteArray).size = 4 := rfl
  have e2 : (⟨#[32]⟩ : ByteArray).size = 1 := rfl
  omega
end Go.Proofs.YtplkmbfeeegaiaaGreatDoor

/-
  The reference's Digits.
-/
namespace Go.Proofs.YtplkmbfeeegaiaaGreatDoor
open Go.RowKit Go.Shelf

/-- While the digits of N are written: n is left, s is there. -/
def digSt (N n : Nat) (s : List UInt8) : Prop := (s = [] ∧ n = N) ∨ (s ≠ [] ∧ n ≠ 0 ∧ Lib.decDigits n ++ s = Lib.decDigits N) ∨ (s ≠ [] ∧ n = 0 ∧ s = Lib.decDigits N)
theorem dec_ne (n : Nat) : Lib.decDigits n ≠ [] := by
  rw [Lib.decDigits]
  split <;> simp
theorem digSt_step {N n : Nat} {s : List UInt8} (h : digSt N n s) (hgo : s = [] ∨ 0 < n) : digSt N (n / 10) (UInt8.ofNat (48 + n % 10) :: s) := by
  have key : Lib.decDigits n ++ s = Lib.decDigits N → digSt N (n / 10) (UInt8.ofNat (48 + n % 10) :: s) := fun e => by
    by_cases h10 : n < 10
    · refine .inr (.inr ⟨by simp, by omega, ?_⟩)
      rw [← e, Lib.decDigits, dif_pos h10, Nat.mod_eq_of_lt h10]
      rfl
    · refine .inr (.inl ⟨by simp, by omega, ?_⟩)
      rw [← e]
      conv => rhs; rw [Lib.decDigits, dif_neg h10]
      simp
  rcases h with ⟨rfl, rfl⟩ | ⟨h1, h2, h3⟩ | ⟨h1, h2, h3⟩
  · exact key (by simp)
  · exact key h3
  · rcases hgo with hgo | hgo
    · exact absurd hgo h1
    · omega
theorem digSt_end {N n : Nat} {s : List UInt8} (h : digSt N n s) (h1 : s ≠ []) (h0 : n = 0) : s = Lib.decDigits N := by
  rcases h with ⟨rfl, rfl⟩ | ⟨_, h2, _⟩ | ⟨_, _, h3⟩
  · exact absurd rfl h1
  · exact absurd h0 h2
  · exact h3
theorem dec_len (n : Nat) : (Lib.decDigits n).length ≤ n + 1 := by
  induction n using Nat.strongRecOn with
  | _ n ih =>
    rw [Lib.decDigits]
    split
    · simp
    · have := ih (n / 10) (by omega)
      simp only [List.length_append, List.length_cons, List.length_nil]
      omega
theorem digSt_len {N n : Nat} {s : List UInt8} (h : digSt N n s) : s.length ≤ N + 1 := by
  have := dec_len N
  rcases h with ⟨rfl, _⟩ | ⟨_, _, h3⟩ | ⟨_, _, h3⟩
  · simp
  · have h4 := congrArg List.length h3
    rw [List.length_append] at h4
    omega
  · rw [h3]; exact this
def digM (n : Nat) (s : ByteArray) : Nat := n + (if s.size = 0 then 1 else 0)
theorem cells_new0 (W : World) (x : Value) (t : TypeId) (u : Value) (h : x = u) : (W.alloc (.cells #[x] t)).cell? ⟨W.heap.size, 0, none⟩ = some u := by
  subst h
  unfold World.cell?
  rw [World.alloc_heap_new]
  simp
theorem byte_str (W : World) (d : Nat) (hd : d < 10) : (convert 146 9 (.slice (some ⟨W.heap.size, 0, none⟩) 1 1)).run Tryz.prog (W.alloc (.cells #[.int .u8 (48 + (d : Int))] 5)) = .ok (.string ⟨#[UInt8.ofNat (48 + d)]⟩) (W.alloc (.cells #[.int .u8 (48 + (d : Int))] 5)) := by
  have h := run_convert_bytes_back (P := Tryz.prog) (W.alloc (.cells #[.int .u8 (48 + (d : Int))] 5)) 146 9 5 ⟨W.heap.size, 0, none⟩ 1 [UInt8.ofNat (48 + d)] Tryz.underlying146 Tryz.underlying5 Tryz.underlying9 (fun j hj => by
    obtain rfl : j = 0 := by simp at hj; omega
    rw [Addr.add_lit, Nat.zero_add]
    refine cells_new0 W _ _ _ ?_
    simp only [List.getElem_cons_zero, UInt8.toNat_ofNat']
    rw [Nat.mod_eq_of_lt (by omega)]
    simp)
  exact h
set_option maxRecDepth 100000 in
set_option maxHeartbeats 2000000 in
theorem digits_any (N : Nat) (hN : N ≤ 1000000000000000000) (w : World) : Calls Tryz.prog 79 #[.int .i64 N] w fun e w' => e = .returned (.string (dig N)) ∧ Keep (fun _ => False) w w' := by
  go_enter Tryz.func79, Tryz.ntmps79
  go_wp2_with fail
  go_loopg [0, 3] (N + 1) (fun gh v0 v3 wr => ∃ (n : Nat) (s : ByteArray), v0 = .int .i64 n ∧ v3 = .string s ∧ digSt N n s.data.toList ∧ n ≤ N ∧ gh = digM n s ∧ Keep (fun _ => False) w wr)
  case atStart => exact ⟨N, ⟨#[]⟩, rfl, rfl, .inl ⟨rfl, rfl⟩, Nat.le_refl _, rfl, Keep.refl _ _⟩
  case round =>
    obtain ⟨n, s, rfl, rfl, hst, hn, hgk, hkeep⟩ := hrel
    have HST := Lib.hid hst
    have HK := Lib.hid hkeep
    clear hst hkeep
    have hb0 : (0 : Int) ≤ (n : Int) := by omega
    have hsz : s.size ≤ N + 1 := by
      have := digSt_len HST.out
      rwa [Array.length_toList, ByteArray.size_data] at this
    by_cases hgo : s.data.toList = [] ∨ 0 < n
    · have HN := Lib.hid (digSt_step HST.out hgo)
      obtain ⟨d, hd⟩ : ∃ d : Nat, n % 10 = d := ⟨_, rfl⟩
      obtain ⟨q, hq⟩ : ∃ q : Nat, n / 10 = q := ⟨_, rfl⟩
      have hm0 : (n : Int) % 10 = (d : Int) := by omega
      have hm1 : (n : Int) / 10 = (q : Int) := by omega
      have hd9 : d < 10 := by omega
      rw [hd, hq] at HN
      have HQ := Lib.hid hq
      clear hd hq
      have hbs := byte_str wr d hd9
      generalize UInt8.ofNat (48 + d) = c at *
      obtain ⟨t, ht⟩ : ∃ t : ByteArray, (⟨#[c]⟩ : ByteArray) ++ s = t := ⟨_, rfl⟩
      have htl : t.data.toList = c :: s.data.toList := by rw [← ht]; simp
      rw [← htl] at HN
      have hts : t.size = s.size + 1 := by rw [← ht, ByteArray.size_append]; show 1 + s.size = _; omega
      have HTS := Lib.hid hts
      by_cases hs : s.data.toList = []
      · have hb : s.toList.isEmpty = true := by rw [Lib.toList_data, hs]; rfl
        have hb2 : (s.toList == []) = true := by rw [Lib.toList_data, hs]; rfl
        go_wp2_with fail
        go_roundg (digM q t)
        case rel => exact ⟨q, t, by first | rfl | go_num, by first | rfl | simp, HN.out, by have := HQ.out; omega, rfl, HK.out.alloc _⟩
        case measure =>
          rw [hgk]
          have h1 := HTS.out
          have h2 := HQ.out
          unfold digM
          rw [if_neg (by omega)]
          by_cases hz : s.size = 0
          · rw [if_pos hz]; omega
          · rw [if_neg hz]
            have : 0 < n := by
              rcases hgo with h | h
              · exact absurd (by rw [← ByteArray.size_data, ← Array.length_toList, h]; rfl) hz
              · exact h
            omega
      · have hn0 : 0 < n := by rcases hgo with h | h; exact absurd h hs; omega
        have hb : s.toList.isEmpty = false := by rw [Lib.toList_data]; simpa using hs
        go_wp2_with fail
        go_roundg (digM q t)
        case rel => exact ⟨q, t, by first | rfl | go_num, by first | rfl | simp, HN.out, by have := HQ.out; omega, rfl, HK.out.alloc _⟩
        case measure =>
          rw [hgk]
          have h1 := HTS.out
          have h2 := HQ.out
          unfold digM
          rw [if_neg (by omega)]
          by_cases hz : s.size = 0
          · rw [if_pos hz]; omega
          · rw [if_neg hz]
            have : 0 < n := by
              rcases hgo with h | h
              · exact absurd (by rw [← ByteArray.size_data, ← Array.length_toList, h]; rfl) hz
              · exact h
            omega
    · have hs : s.data.toList ≠ [] := fun e => hgo (.inl e)
      have hn0 : ¬ 0 < n := fun e => hgo (.inr e)
      have hb : s.toList.isEmpty = false := by rw [Lib.toList_data]; simpa using hs
      have HE : Hid (s = dig N) := Lib.hid (by
        have := digSt_end HST.out hs (by omega)
        unfold dig
        rw [← this])
      go_wp2_with fail
      go_ret
      exact ⟨by rw [← HE.out] <;> rfl, HK.out⟩
end Go.Proofs.YtplkmbfeeegaiaaGreatDoor

/-
  Rows of elements of k cells, written out.
-/
namespace Go.Proofs.YtplkmbfeeegaiaaGreatDoor
section
variable {α : Type} {enc : α → List Value} {k : Nat}
theorem flat_len (hk : ∀ x, (enc x).length = k) : ∀ l : List α, (l.flatMap enc).length = l.length * k
  | [] => by simp
  | x :: l => by rw [List.flatMap_cons, List.length_append, hk, flat_len hk l, List.length_cons, Nat.add_mul]; omega
theorem flat_get (hk : ∀ x, (enc x).length = k) : ∀ (l : List α) (q : Nat) (x : α) (r : Nat), l[q]? = some x → r < k → (l.flatMap enc)[q * k + r]? = (enc x)[r]?
  | [], _, _, _, h, _ => by simp at h
  | y :: l, 0, x, r, h, hr => by
    simp only [List.getElem?_cons_zero, Option.some.injEq] at h
    subst h
    rw [List.flatMap_cons, List.getElem?_append_left (by rw [hk]; omega), Nat.zero_mul, Nat.zero_add]
  | y :: l, q + 1, x, r, h, hr => by
    simp only [List.getElem?_cons_succ] at h
    rw [List.flatMap_cons, List.getElem?_append_right (by rw [hk, Nat.add_mul]; omega), hk, ← flat_get hk l q x r h hr]
    congr 1
    rw [Nat.add_mul]; omega
theorem flat_take (hk : ∀ x, (enc x).length = k) : ∀ (l : List α) (q : Nat), (l.flatMap enc).take (q * k) = (l.take q).flatMap enc
  | [], q => by simp
  | y :: l, 0 => by simp
  | y :: l, q + 1 => by
    rw [List.flatMap_cons, List.take_succ_cons, List.flatMap_cons, ← flat_take hk l q, List.take_append, hk, List.take_of_length_le (by rw [hk, Nat.add_mul]; omega), Nat.add_mul, Nat.one_mul, Nat.add_sub_cancel]
theorem flat_drop (hk : ∀ x, (enc x).length = k) : ∀ (l : List α) (q : Nat), (l.flatMap enc).drop (q * k) = (l.drop q).flatMap enc
  | [], q => by simp
  | y :: l, 0 => by simp
  | y :: l, q + 1 => by
    rw [List.flatMap_cons, List.drop_succ_cons, ← flat_drop hk l q, List.drop_append, hk, List.drop_of_length_le (by rw [hk, Nat.add_mul]; omega), Nat.add_mul, Nat.one_mul, Nat.add_sub_cancel, List.nil_append]
theorem flat_set (hk : ∀ x, (enc x).length = k) {r : Nat} {u : Value} (hr : r < k) : ∀ (l : List α) (q : Nat) (x y : α), l[q]? = some x → (enc x).set r u = enc y → (l.flatMap enc).set (q * k + r) u = (l.set q y).flatMap enc
  | [], _, _, _, h, _ => by simp at h
  | z :: l, 0, x, y, h, he => by
    simp only [List.getElem?_cons_zero, Option.some.injEq] at h
    subst h
    rw [List.flatMap_cons, List.set_cons_zero, List.flatMap_cons, ← he, Nat.zero_mul, Nat.zero_add, List.set_append_left _ _ (by rw [hk]; omega)]
  | z :: l, q + 1, x, y, h, he => by
    simp only [List.getElem?_cons_succ] at h
    rw [List.flatMap_cons, List.set_cons_succ, List.flatMap_cons, ← flat_set hk hr l q x y h he, List.set_append_right _ _ (by rw [hk, Nat.add_mul]; omega), hk]
    congr 2
    rw [Nat.add_mul]; omega
end
/-- An element is put into its place: room behind, the tail moved, the element stored. -/
theorem ins_moved {α : Type} (S : List α) (x : α) {j : Nat} (hj : j ≤ S.length) : (((S ++ [x]).take (j + 1) ++ S.drop j).set j x) = S.take j ++ x :: S.drop j := by
  have hl : ((S ++ [x]).take (j + 1)).length = j + 1 := by rw [List.length_take, List.length_append]; simp; omega
  rw [List.set_append_left _ _ (by rw [hl]; omega)]
  have e : ((S ++ [x]).take (j + 1)).set j x = S.take j ++ [x] := by
    rw [List.take_add_one, List.take_append_of_le_length hj]
    obtain ⟨y, hy⟩ : ∃ y, (S ++ [x])[j]? = some y := ⟨_, List.getElem?_eq_getElem (by simp; omega)⟩
    rw [hy, List.set_append_right _ _ (by simp; omega)]
    simp [Nat.min_eq_left hj]
  rw [e]
  simp
theorem moved_eq {α : Type} (S : List α) (x : α) {j : Nat} (hj : j ≤ S.length) : ((S ++ [x]).drop j).take (S.length - j) = S.drop j := by
  rw [List.drop_append_of_le_length hj, List.take_append_of_le_length (by simp), List.take_of_length_le (by simp)]
end Go.Proofs.YtplkmbfeeegaiaaGreatDoor

/-
  A walk that parts: where two operations may come, both orders are walked.
-/
namespace Go.Proofs.YtplkmbfeeegaiaaGreatDoor
open Go Go.RowKit

/-- done: all are listed; read: the operation only reads; one: it is the only one that may come; two: either of the two may come. -/
inductive WT where
  | done : WT
  | read (i : Nat) (t : WT) : WT
  | one (i : Nat) (t : WT) : WT
  | two (i : Nat) (t : WT) (j : Nat) (u : WT) : WT
def WT.len : WT → Nat
  | .done => 0
  | .read _ t => t.len + 1
  | .one _ t => t.len + 1
  | .two _ t _ _ => t.len + 1

section
variable {P : Program} {md : Region.Mode} {ops : Array Oper}
def walkT (P : Program) (ops : Array Oper) (Q : Act → World → Prop) (C : World → Prop) : WT → Act → World → Prop
  | .done, a, w => C w ∧ Q a w
  | .read i t, a, w => ∃ o v, ops[i]? = some o ∧ YC P ops C o v a ∧ walkT P ops Q C t (a.put o.dst v) w
  | .one i t, a, w => C w ∧ ∃ o, ops[i]? = some o ∧ if Region.wanted o (yielded ops a.tmps) then o.wp P a w (walkT P ops Q C t) noQ else walkT P ops Q C t (a.put o.dst undef) w
  | .two i t j u, a, w => C w ∧ (∃ o, ops[i]? = some o ∧ if Region.wanted o (yielded ops a.tmps) then o.wp P a w (walkT P ops Q C t) noQ else walkT P ops Q C t (a.put o.dst undef) w) ∧
      ∃ o, ops[j]? = some o ∧ if Region.wanted o (yielded ops a.tmps) then o.wp P a w (walkT P ops Q C u) noQ else walkT P ops Q C u (a.put o.dst undef) w

variable {C : World → Prop}
theorem walkT_read {Q : Act → World → Prop} {i : Nat} {t : WT} {a : Act} {w : World} {o : Oper} (ho : ops[i]? = some o)
    (h : ∀ K : Act → Prop, (∀ a, walkT P ops Q C t a w → K a) → if Region.wanted o (yielded ops a.tmps) then ∃ v, (∀ w, C w → o.quietAt P a (fun w'' => w'' = w) w v) ∧ K (a.put o.dst v) else K (a.put o.dst undef)) : walkT P ops Q C (.read i t) a w := by
  have h1 := h _ (fun _ h => h)
  by_cases hw : Region.wanted o (yielded ops a.tmps) = true
  · rw [if_pos hw] at h1
    obtain ⟨v, h2, h3⟩ := h1
    exact ⟨o, v, ho, .inl ⟨hw, h2⟩, h3⟩
  · rw [if_neg hw] at h1
    exact ⟨o, undef, ho, .inr ⟨by simpa using hw, rfl⟩, h1⟩
theorem walkT_do {Q : Act → World → Prop} {i : Nat} {t : WT} {a : Act} {w : World} {o : Oper} (ho : ops[i]? = some o) (hC : C w)
    (h : ∀ K : Act → World → Prop, (∀ a w, walkT P ops Q C t a w → K a w) → if Region.wanted o (yielded ops a.tmps) then o.wp P a w K noQ else K (a.put o.dst undef) w) : walkT P ops Q C (.one i t) a w :=
  ⟨hC, o, ho, h _ (fun _ _ h => h)⟩
theorem walkT_two {Q : Act → World → Prop} {i j : Nat} {t u : WT} {a : Act} {w : World} {o p : Oper} (ho : ops[i]? = some o) (hp : ops[j]? = some p) (hC : C w)
    (h : ∀ K : Act → World → Prop, (∀ a w, walkT P ops Q C t a w → K a w) → if Region.wanted o (yielded ops a.tmps) then o.wp P a w K noQ else K (a.put o.dst undef) w)
    (h' : ∀ K : Act → World → Prop, (∀ a w, walkT P ops Q C u a w → K a w) → if Region.wanted p (yielded ops a.tmps) then p.wp P a w K noQ else K (a.put p.dst undef) w) : walkT P ops Q C (.two i t j u) a w :=
  ⟨hC, ⟨o, ho, h _ (fun _ _ h => h)⟩, p, hp, h' _ (fun _ _ h => h)⟩

def walkTB (md : Region.Mode) (ops : Array Oper) : WT → Array Bool → Bool
  | .done, listed => (Region.ready md ops listed).isEmpty
  | .read k t, listed => (Region.ready md ops listed).contains k && Region.free md ops listed k && walkTB md ops t (listed.setIfInBounds k true)
  | .one k t, listed => decide (Region.ready md ops listed = [k]) && walkTB md ops t (listed.setIfInBounds k true)
  | .two i t j u, listed => decide (Region.ready md ops listed = [i, j]) && (decide (t.len = u.len) && (walkTB md ops t (listed.setIfInBounds i true) && walkTB md ops u (listed.setIfInBounds j true)))

theorem wpC_walkT {Q : Act → World → Prop} (hsel : Region.noSelect ops = true) : ∀ (t : WT) (listed : Array Bool) (a : Act) (w : World), walkTB md ops t listed = true → walkT P ops Q C t a w → wpC P md ops C Q t.len listed a w
  | .done, listed, a, w, hB, h => ⟨h.1, by simpa [walkTB] using hB, h.2⟩
  | .read k t, listed, a, w, hB, h => by
    simp only [walkTB, Bool.and_eq_true] at hB
    obtain ⟨⟨hr, hf⟩, hB'⟩ := hB
    obtain ⟨o, v, ho, hy, h⟩ := h
    exact wpC_first ho (Region.noSelect_spec hsel) _ listed a w (Region.free_spec ho hf) (by simpa using hr) hy (wpC_walkT hsel t _ _ w hB' h)
  | .one k t, listed, a, w, hB, h => by
    simp only [walkTB, Bool.and_eq_true, decide_eq_true_eq] at hB
    obtain ⟨hC, o, ho, h⟩ := h
    refine ⟨hC, fun h0 => (by rw [hB.1] at h0; cases h0), fun i hi => ?_⟩
    rw [hB.1, List.mem_singleton] at hi
    subst hi
    unfold wpOp
    simp only [ho]
    split
    · rename_i hw
      rw [if_pos hw] at h
      exact .inl (Oper.wp_mono (fun a' w' h2 => wpC_walkT hsel t _ a' w' hB.2 h2) h)
    · rename_i hw
      rw [if_neg hw] at h
      exact wpC_walkT hsel t _ _ w hB.2 h
  | .two k t j u, listed, a, w, hB, h => by
    simp only [walkTB, Bool.and_eq_true, decide_eq_true_eq] at hB
    obtain ⟨hr, hlen, hB1, hB2⟩ := hB
    obtain ⟨hC, ⟨o, ho, h⟩, p, hp, h'⟩ := h
    refine ⟨hC, fun h0 => (by rw [hr] at h0; cases h0), fun i hi => ?_⟩
    rw [hr] at hi
    rcases List.mem_cons.1 hi with rfl | hi
    · unfold wpOp
      simp only [ho]
      split
      · rename_i hw
        rw [if_pos hw] at h
        exact .inl (Oper.wp_mono (fun a' w' h2 => wpC_walkT hsel t _ a' w' hB1 h2) h)
      · rename_i hw
        rw [if_neg hw] at h
        exact wpC_walkT hsel t _ _ w hB1 h
    · rw [List.mem_singleton] at hi
      subst hi
      unfold wpOp
      simp only [hp]
      split
      · rename_i hw
        rw [if_pos hw] at h'
        exact .inl (Oper.wp_mono (fun a' w' h2 => by rw [hlen]; exact wpC_walkT hsel u _ a' w' hB2 h2) h')
      · rename_i hw
        rw [if_neg hw] at h'
        show wpC P md ops C Q t.len _ _ _
        rw [hlen]
        exact wpC_walkT hsel u _ _ w hB2 h'

def walkTOk (ops : Array Oper) (t : WT) : Bool := Region.noSelect ops && decide (t.len = ops.size) && walkTB .any ops t (Array.replicate ops.size false)
theorem wp_region_walkT {id : Nat} {Q : Exit → Act → World → Prop} {a : Act} {w : World} {l : List Oper} (t : WT) (C : World → Prop) (hm : P.follows .mixedOrders = true) (hB : walkTOk l.toArray t = true)
    (h : walkT P l.toArray (fun a w => Q .normal a w) C t a w.drew) : (Code.region id l.toArray true).wp P Q a w := by
  simp only [walkTOk, Bool.and_eq_true, decide_eq_true_eq] at hB
  obtain ⟨⟨hsel, hlen⟩, hB⟩ := hB
  refine wp_region_any hm (wpAny_of_wpC (C := C) (Q := fun a w => Q .normal a w) (fun _ _ h => h) _ _ _ _ ?_)
  rw [← hlen]
  exact wpC_walkT hsel t _ a _ (by rw [hlen]; exact hB) h
/-- The same; the ways meet in J. -/
theorem wp_region_walkT_join {id : Nat} {Q : Exit → Act → World → Prop} {a : Act} {w : World} {l : List Oper} (t : WT) (C : World → Prop) (J : Act → World → Prop) (hm : P.follows .mixedOrders = true) (hB : walkTOk l.toArray t = true)
    (hJ : ∀ a w, J a w → Q .normal a w) (h : walkT P l.toArray J C t a w.drew) : (Code.region id l.toArray true).wp P Q a w := by
  simp only [walkTOk, Bool.and_eq_true, decide_eq_true_eq] at hB
  obtain ⟨⟨hsel, hlen⟩, hB⟩ := hB
  refine wp_region_any hm (wpAny_of_wpC (C := C) (Q := J) hJ _ _ _ _ ?_)
  rw [← hlen]
  exact wpC_walkT hsel t _ a _ (by rw [hlen]; exact hB) h
end
end Go.Proofs.YtplkmbfeeegaiaaGreatDoor

/-
  DERIVED: THE SHELF's CONTRACTS AT THIS DUMP, IN PLAIN WORDS (tools/lay-plain.mjs out of 'YtplkmbfeeegaiaaGreatDoorS0.lean', which tools/lay-shelf.mjs wrote): THE SAME DECLARATIONS UNDER THE SAME NAMES: 'import', 'namespace', 'open', 'def', 'theorem' AND NOTHING ELSE: no command of the shelf's: FOR A HAND-IN. Each laying: the table of numbers ('.._ren') and one theorem, a field a fact of the dump's own or the kernel's comparison; each contract: ONE APPLICATION.
-/
namespace Go.Proofs
open Go.Shelf
def Tryz.pdqMark_ren : Go.Shelf.Ren := ⟨fun | 14 => 145 | 20 => 175 | 21 => 176 | 22 => 177 | 23 => 178 | 24 => 179 | 25 => 180 | 26 => 181 | 27 => 182 | 46 => 198 | 47 => 185 | 48 => 186 | 49 => 199 | 50 => 200 | 15 => 135 | 57 => 214 | 28 => 156 | 29 => 157 | n => n, fun | 24 => 165 | 22 => 129 | 3 => 3 | 25 => 167 | 4 => 4 | 0 => 0 | 46 => 190 | 45 => 189 | 50 => 100 | 66 => 215 | 39 => 140 | 55 => 197 | 70 => 219 | 76 => 231 | 77 => 232 | 53 => 174 | 5 => 5 | 9 => 9 | n => n, fun | n => n⟩
theorem Tryz.pdqMark : Go.Proofs.SlLaysF0.n14 Tryz.prog Tryz.pdqMark_ren := {
  mixed := by kernel_rfl
  f14 := ⟨Tryz.f145.name, by decide, Tryz.func145.trans (congrArg some (by kernel_rfl))⟩
  f15 := Tryz.func135.trans (congrArg some (by kernel_rfl))
  f20 := ⟨Tryz.f175.name, by decide, Tryz.func175.trans (congrArg some (by kernel_rfl))⟩
  f21 := ⟨Tryz.f176.name, by decide, Tryz.func176.trans (congrArg some (by kernel_rfl))⟩
  f22 := ⟨Tryz.f177.name, by decide, Tryz.func177.trans (congrArg some (by kernel_rfl))⟩
  f23 := ⟨Tryz.f178.name, by decide, Tryz.func178.trans (congrArg some (by kernel_rfl))⟩
  f24 := ⟨Tryz.f179.name, by decide, Tryz.func179.trans (congrArg some (by kernel_rfl))⟩
  f25 := ⟨Tryz.f180.name, by decide, Tryz.func180.trans (congrArg some (by kernel_rfl))⟩
  f26 := ⟨Tryz.f181.name, by decide, Tryz.func181.trans (congrArg some (by kernel_rfl))⟩
  f27 := ⟨Tryz.f182.name, by decide, Tryz.func182.trans (congrArg some (by kernel_rfl))⟩
  f28 := Tryz.func156.trans (congrArg some (by kernel_rfl))
  f29 := Tryz.func157.trans (congrArg some (by kernel_rfl))
  f46 := ⟨Tryz.f198.name, by decide, Tryz.func198.trans (congrArg some (by kernel_rfl))⟩
  f47 := Tryz.func185.trans (congrArg some (by kernel_rfl))
  f48 := Tryz.func186.trans (congrArg some (by kernel_rfl))
  f49 := ⟨Tryz.f199.name, by decide, Tryz.func199.trans (congrArg some (by kernel_rfl))⟩
  f50 := ⟨Tryz.f200.name, by decide, Tryz.func200.trans (congrArg some (by kernel_rfl))⟩
  f57 := ⟨Tryz.f214.name, by decide, Tryz.func214.trans (congrArg some (by kernel_rfl))⟩
  t0 := Tryz.underlying0
  a0 := Tryz.isAgg0
  z0 := Tryz.sizeOf0
  v0 := Tryz.zeroValue0
  t3 := Tryz.underlying3
  a3 := Tryz.isAgg3
  z3 := Tryz.sizeOf3
  v3 := Tryz.zeroValue3
  t4 := Tryz.underlying4
  a4 := Tryz.isAgg4
  z4 := Tryz.sizeOf4
  v4 := Tryz.zeroValue4
  t5 := Tryz.underlying5
  a5 := Tryz.isAgg5
  z5 := Tryz.sizeOf5
  v5 := Tryz.zeroValue5
  t9 := Tryz.underlying9
  a9 := Tryz.isAgg9
  z9 := Tryz.sizeOf9
  v9 := Tryz.zeroValue9
  t22 := Tryz.underlying129
  a22 := Tryz.isAgg129
  z22 := Tryz.sizeOf129
  v22 := Tryz.zeroValue129
  t25 := Tryz.underlying167
  a25 := Tryz.isAgg167
  z25 := Tryz.sizeOf167
  v25 := Tryz.zeroValue167
  t39 := Tryz.underlying140
  a39 := Tryz.isAgg140
  z39 := Tryz.sizeOf140
  v39 := Tryz.zeroValue140
  t45 := Tryz.underlying189
  a45 := Tryz.isAgg189
  z45 := Tryz.sizeOf189
  v45 := Tryz.zeroValue189
  t46 := Tryz.underlying190
  a46 := Tryz.isAgg190
  z46 := Tryz.sizeOf190
  v46 := Tryz.zeroValue190
  t50 := Tryz.underlying100
  a50 := Tryz.isAgg100
  z50 := Tryz.sizeOf100
  v50 := Tryz.zeroValue100
  t53 := Tryz.underlying174
  a53 := Tryz.isAgg174
  z53 := Tryz.sizeOf174
  v53 := Tryz.zeroValue174
  t55 := Tryz.underlying197
  a55 := Tryz.isAgg197
  z55 := Tryz.sizeOf197
  v55 := Tryz.zeroValue197
  t66 := Tryz.underlying215
  a66 := Tryz.isAgg215
  z66 := Tryz.sizeOf215
  v66 := Tryz.zeroValue215
  t70 := Tryz.underlying219
  a70 := Tryz.isAgg219
  z70 := Tryz.sizeOf219
  v70 := Tryz.zeroValue219
  t76 := Tryz.underlying231
  a76 := Tryz.isAgg231
  z76 := Tryz.sizeOf231
  v76 := Tryz.zeroValue231
  t77 := Tryz.underlying232
  a77 := Tryz.isAgg232
  z77 := Tryz.sizeOf232
  v77 := Tryz.zeroValue232 }
def Tryz.bitsLen_ren : Go.Shelf.Ren := ⟨fun | 15 => 135 | 28 => 156 | 29 => 157 | n => n, fun | 39 => 140 | 3 => 3 | 53 => 174 | 55 => 197 | 4 => 4 | 5 => 5 | 9 => 9 | n => n, fun | n => n⟩
theorem Tryz.bitsLen : Go.Proofs.SlLaysF0.n15 Tryz.prog Tryz.bitsLen_ren := {
  mixed := by kernel_rfl
  f15 := Tryz.func135.trans (congrArg some (by kernel_rfl))
  f28 := Tryz.func156.trans (congrArg some (by kernel_rfl))
  f29 := Tryz.func157.trans (congrArg some (by kernel_rfl))
  t3 := Tryz.underlying3
  a3 := Tryz.isAgg3
  z3 := Tryz.sizeOf3
  v3 := Tryz.zeroValue3
  t4 := Tryz.underlying4
  a4 := Tryz.isAgg4
  z4 := Tryz.sizeOf4
  v4 := Tryz.zeroValue4
  t5 := Tryz.underlying5
  a5 := Tryz.isAgg5
  z5 := Tryz.sizeOf5
  v5 := Tryz.zeroValue5
  t9 := Tryz.underlying9
  a9 := Tryz.isAgg9
  z9 := Tryz.sizeOf9
  v9 := Tryz.zeroValue9
  t39 := Tryz.underlying140
  a39 := Tryz.isAgg140
  z39 := Tryz.sizeOf140
  v39 := Tryz.zeroValue140
  t53 := Tryz.underlying174
  a53 := Tryz.isAgg174
  z53 := Tryz.sizeOf174
  v53 := Tryz.zeroValue174
  t55 := Tryz.underlying197
  a55 := Tryz.isAgg197
  z55 := Tryz.sizeOf197
  v55 := Tryz.zeroValue197 }
def Tryz.sortPoint_ren : Go.Shelf.Ren := ⟨fun | 6 => 106 | 15 => 135 | 14 => 134 | 28 => 156 | 29 => 157 | 20 => 148 | 21 => 149 | 22 => 150 | 23 => 151 | 24 => 152 | 25 => 153 | 26 => 154 | 27 => 155 | 46 => 184 | 47 => 185 | 48 => 186 | 49 => 187 | 50 => 188 | 57 => 202 | n => n, fun | 22 => 97 | 24 => 103 | 25 => 139 | 3 => 3 | 39 => 140 | 0 => 0 | 53 => 174 | 55 => 197 | 4 => 4 | 46 => 190 | 45 => 189 | 50 => 100 | 5 => 5 | 9 => 9 | 66 => 215 | 70 => 219 | 76 => 231 | 77 => 232 | n => n, fun | n => n⟩
theorem Tryz.sortPoint : Go.Proofs.SlLaysF0.n6 Tryz.prog Tryz.sortPoint_ren := {
  mixed := by kernel_rfl
  f6 := ⟨Tryz.f106.name, by decide, Tryz.func106.trans (congrArg some (by kernel_rfl))⟩
  f14 := ⟨Tryz.f134.name, by decide, Tryz.func134.trans (congrArg some (by kernel_rfl))⟩
  f15 := Tryz.func135.trans (congrArg some (by kernel_rfl))
  f20 := ⟨Tryz.f148.name, by decide, Tryz.func148.trans (congrArg some (by kernel_rfl))⟩
  f21 := ⟨Tryz.f149.name, by decide, Tryz.func149.trans (congrArg some (by kernel_rfl))⟩
  f22 := ⟨Tryz.f150.name, by decide, Tryz.func150.trans (congrArg some (by kernel_rfl))⟩
  f23 := ⟨Tryz.f151.name, by decide, Tryz.func151.trans (congrArg some (by kernel_rfl))⟩
  f24 := ⟨Tryz.f152.name, by decide, Tryz.func152.trans (congrArg some (by kernel_rfl))⟩
  f25 := ⟨Tryz.f153.name, by decide, Tryz.func153.trans (congrArg some (by kernel_rfl))⟩
  f26 := ⟨Tryz.f154.name, by decide, Tryz.func154.trans (congrArg some (by kernel_rfl))⟩
  f27 := ⟨Tryz.f155.name, by decide, Tryz.func155.trans (congrArg some (by kernel_rfl))⟩
  f28 := Tryz.func156.trans (congrArg some (by kernel_rfl))
  f29 := Tryz.func157.trans (congrArg some (by kernel_rfl))
  f46 := ⟨Tryz.f184.name, by decide, Tryz.func184.trans (congrArg some (by kernel_rfl))⟩
  f47 := Tryz.func185.trans (congrArg some (by kernel_rfl))
  f48 := Tryz.func186.trans (congrArg some (by kernel_rfl))
  f49 := ⟨Tryz.f187.name, by decide, Tryz.func187.trans (congrArg some (by kernel_rfl))⟩
  f50 := ⟨Tryz.f188.name, by decide, Tryz.func188.trans (congrArg some (by kernel_rfl))⟩
  f57 := ⟨Tryz.f202.name, by decide, Tryz.func202.trans (congrArg some (by kernel_rfl))⟩
  t0 := Tryz.underlying0
  a0 := Tryz.isAgg0
  z0 := Tryz.sizeOf0
  v0 := Tryz.zeroValue0
  t3 := Tryz.underlying3
  a3 := Tryz.isAgg3
  z3 := Tryz.sizeOf3
  v3 := Tryz.zeroValue3
  t4 := Tryz.underlying4
  a4 := Tryz.isAgg4
  z4 := Tryz.sizeOf4
  v4 := Tryz.zeroValue4
  t5 := Tryz.underlying5
  a5 := Tryz.isAgg5
  z5 := Tryz.sizeOf5
  v5 := Tryz.zeroValue5
  t9 := Tryz.underlying9
  a9 := Tryz.isAgg9
  z9 := Tryz.sizeOf9
  v9 := Tryz.zeroValue9
  t22 := Tryz.underlying97
  a22 := Tryz.isAgg97
  z22 := Tryz.sizeOf97
  v22 := Tryz.zeroValue97
  t25 := Tryz.underlying139
  a25 := Tryz.isAgg139
  z25 := Tryz.sizeOf139
  v25 := Tryz.zeroValue139
  t39 := Tryz.underlying140
  a39 := Tryz.isAgg140
  z39 := Tryz.sizeOf140
  v39 := Tryz.zeroValue140
  t45 := Tryz.underlying189
  a45 := Tryz.isAgg189
  z45 := Tryz.sizeOf189
  v45 := Tryz.zeroValue189
  t46 := Tryz.underlying190
  a46 := Tryz.isAgg190
  z46 := Tryz.sizeOf190
  v46 := Tryz.zeroValue190
  t50 := Tryz.underlying100
  a50 := Tryz.isAgg100
  z50 := Tryz.sizeOf100
  v50 := Tryz.zeroValue100
  t53 := Tryz.underlying174
  a53 := Tryz.isAgg174
  z53 := Tryz.sizeOf174
  v53 := Tryz.zeroValue174
  t55 := Tryz.underlying197
  a55 := Tryz.isAgg197
  z55 := Tryz.sizeOf197
  v55 := Tryz.zeroValue197
  t66 := Tryz.underlying215
  a66 := Tryz.isAgg215
  z66 := Tryz.sizeOf215
  v66 := Tryz.zeroValue215
  t70 := Tryz.underlying219
  a70 := Tryz.isAgg219
  z70 := Tryz.sizeOf219
  v70 := Tryz.zeroValue219
  t76 := Tryz.underlying231
  a76 := Tryz.isAgg231
  z76 := Tryz.sizeOf231
  v76 := Tryz.zeroValue231
  t77 := Tryz.underlying232
  a77 := Tryz.isAgg232
  z77 := Tryz.sizeOf232
  v77 := Tryz.zeroValue232 }
end Go.Proofs

/-
  The order of points; the sort of a circle.
-/
namespace Go.Proofs.YtplkmbfeeegaiaaGreatDoor
open Go.RowKit Go.Shelf
open Go.Sort (grow)

theorem grow_of_keep {W w' : World} (k : Keep (fun _ => False) W w') (hd : W.drawn ≤ w'.drawn) : ∃ q os', w' = grow (W.drewN q) os' := by
  refine ⟨w'.drawn - W.drawn, w'.heap.extract W.heap.size w'.heap.size, ?_⟩
  have hh : w'.heap = W.heap ++ w'.heap.extract W.heap.size w'.heap.size := by
    apply Array.ext_getElem?
    intro i
    by_cases hi : i < W.heap.size
    · rw [k.block i hi (fun h => h), Array.getElem?_append_left hi]
    · rw [Array.getElem?_append_right (by omega), Array.getElem?_extract]
      by_cases h2 : i < w'.heap.size
      · rw [if_pos (by omega)]
        congr 1
        omega
      · rw [if_neg (by omega), Array.getElem?_eq_none (by omega)]
  have h1 := k.os
  have h2 := k.tape
  have h3 := k.output
  unfold grow World.drewN
  cases w'
  cases W
  simp only at *
  subst h1 h2 h3
  congr 1
  omega

/-- A point as a value. -/
abbrev mkV (x : Mk) : Value := .agg #[.int .i64 x.point, .int .i64 x.node, .int .i64 x.i]
def encMk (x : Mk) : List Value := [.int .i64 x.point, .int .i64 x.node, .int .i64 x.i]
def cmpM (x y : Mk) : Int := orL [cmpI x.point y.point, cmpI x.node y.node, cmpI x.i y.i]
theorem cmpI_bd (a b : Int) : I64 (cmpI a b) := by unfold cmpI I64; split <;> (try split) <;> omega

set_option maxRecDepth 100000 in
set_option maxHeartbeats 2000000 in
theorem before_any (x y : Mk) (W : World) : Calls Tryz.prog 129 #[mkV x, mkV y] W fun e w' => e = .returned (.int .i64 (cmpM x y)) ∧ ∃ q os', w' = grow (W.drewN q) os' := by
  obtain ⟨x0, x1, x2⟩ := x
  obtain ⟨y0, y1, y2⟩ := y
  have t1 := three_cell W (.int .i64 x0) (.int .i64 x1) (.int .i64 x2) 165
  have t2 := three_cell (W.alloc (.cells #[.int .i64 x0, .int .i64 x1, .int .i64 x2] 165)) (.int .i64 y0) (.int .i64 y1) (.int .i64 y2) 165
  have k1 : Keep (fun _ => False) W (W.alloc (.cells #[.int .i64 x0, .int .i64 x1, .int .i64 x2] 165)) := (Keep.refl _ W).alloc _
  have k2 : Keep (fun _ => False) (W.alloc (.cells #[.int .i64 x0, .int .i64 x1, .int .i64 x2] 165)) ((W.alloc (.cells #[.int .i64 x0, .int .i64 x1, .int .i64 x2] 165)).alloc (.cells #[.int .i64 y0, .int .i64 y1, .int .i64 y2] 165)) := (Keep.refl _ _).alloc _
  have HX := Lib.hid (And.intro (k2.cell t1.1 (fun h => h)) (And.intro (k2.cell t1.2.1 (fun h => h)) (k2.cell t1.2.2.1 (fun h => h))))
  have HY := Lib.hid t2
  have HK := Lib.hid (k1.trans k2)
  have HD : Hid (W.drawn ≤ ((W.alloc (.cells #[.int .i64 x0, .int .i64 x1, .int .i64 x2] 165)).alloc (.cells #[.int .i64 y0, .int .i64 y1, .int .i64 y2] 165)).drawn) := Lib.hid (Nat.le_refl _)
  rw [World.size_alloc] at HY
  have HC : Hid (cmpM ⟨x0, x1, x2⟩ ⟨y0, y1, y2⟩ = orL [cmpI x0 y0, cmpI x1 y1, cmpI x2 y2]) := Lib.hid rfl
  clear t1 t2 k1 k2
  go_enter Tryz.func129, Tryz.ntmps129
  go_wp2_with fail
  generalize (W.alloc (.cells #[.int .i64 x0, .int .i64 x1, .int .i64 x2] 165)).alloc (.cells #[.int .i64 y0, .int .i64 y1, .int .i64 y2] 165) = W1 at *
  generalize W.heap.size = z at *
  have a0 : ∀ p : KA (fun _ => False) W1, p.val.cell? ⟨z, 0, none⟩ = some (.int .i64 x0) := fun p => p.k.cell HX.out.1 (fun h => h)
  have a1 : ∀ p : KA (fun _ => False) W1, p.val.cell? ⟨z, 1, none⟩ = some (.int .i64 x1) := fun p => p.k.cell HX.out.2.1 (fun h => h)
  have a2 : ∀ p : KA (fun _ => False) W1, p.val.cell? ⟨z, 2, none⟩ = some (.int .i64 x2) := fun p => p.k.cell HX.out.2.2 (fun h => h)
  have b0 : ∀ p : KA (fun _ => False) W1, p.val.cell? ⟨z + 1, 0, none⟩ = some (.int .i64 y0) := fun p => p.k.cell HY.out.1 (fun h => h)
  have b1 : ∀ p : KA (fun _ => False) W1, p.val.cell? ⟨z + 1, 1, none⟩ = some (.int .i64 y1) := fun p => p.k.cell HY.out.2.1 (fun h => h)
  have b2 : ∀ p : KA (fun _ => False) W1, p.val.cell? ⟨z + 1, 2, none⟩ = some (.int .i64 y2) := fun p => p.k.cell HY.out.2.2.1 (fun h => h)
  refine wp_region_walk [(true, 0), (true, 1), (true, 2), (true, 3), (true, 5), (true, 6), (true, 7), (true, 8), (true, 10), (true, 11), (true, 12), (true, 13), (false, 4), (false, 9), (false, 14), (false, 15), (false, 16), (false, 17)] (inKA (fun _ => False) W1) (by kernel_rfl) (by kernel_rfl) ?_
  iterate 12 (refine walkW_read rfl (fun K hK => ?_); go_simp; refine hK _ ?_; clear hK K)
  clear a0 a1 a2 b0 b1 b2
  have HK1 : Hid (Keep (fun _ => False) W1 W1.drew) := Lib.hid (Keep.refl _ W1).drew
  refine walkW_do rfl (inKA.of HK1.out) (fun K hK => ?_)
  go_simp
  refine (cmp_int x0 y0 _).mono ?_
  rintro e w' ⟨rfl, rfl⟩
  refine hK _ _ ?_; clear hK K
  refine walkW_do rfl (inKA.of HK1.out) (fun K hK => ?_)
  go_simp
  refine (cmp_int x1 y1 _).mono ?_
  rintro e w' ⟨rfl, rfl⟩
  refine hK _ _ ?_; clear hK K
  refine walkW_do rfl (inKA.of HK1.out) (fun K hK => ?_)
  go_simp
  refine (cmp_int x2 y2 _).mono ?_
  rintro e w' ⟨rfl, rfl⟩
  refine hK _ _ ?_; clear hK K
  have q0 := cmpI_bd x0 y0
  have q1 := cmpI_bd x1 y1
  have q2 := cmpI_bd x2 y2
  generalize cmpI x0 y0 = m0 at *
  generalize cmpI x1 y1 = m1 at *
  generalize cmpI x2 y2 = m2 at *
  refine walkW_do rfl (inKA.of HK1.out) (fun K hK => ?_)
  go_simp
  refine hK _ _ ?_; clear hK K
  have HI : Hid (Its (W1.alloc (.cells #[.int .i64 m0, .int .i64 m1, .int .i64 m2] 3)).drew (.slice (some ⟨W1.heap.size, 0, none⟩) 3 3) [m0, m1, m2]) := Lib.hid (by
    have t := three_cell W1 (.int .i64 m0) (.int .i64 m1) (.int .i64 m2) 3
    refine ⟨by simp, ?_, some ⟨W1.heap.size, 0, none⟩, 3, W1.heap.size, 0, rfl, by simp, fun _ => rfl, fun j x hj => ?_⟩
    · intro x hx
      simp only [List.mem_cons, List.not_mem_nil, or_false] at hx
      rcases hx with rfl | rfl | rfl <;> assumption
    · rcases j with _ | _ | _ | j
      · simp at hj; subst hj; exact t.1
      · simp at hj; subst hj; exact t.2.1
      · simp at hj; subst hj; exact t.2.2.1
      · simp at hj)
  have HK2 : Hid (Keep (fun _ => False) W1 (W1.alloc (.cells #[.int .i64 m0, .int .i64 m1, .int .i64 m2] 3)).drew) := Lib.hid ((Keep.refl _ W1).alloc _).drew
  have HD2 : Hid (W.drawn ≤ (W1.alloc (.cells #[.int .i64 m0, .int .i64 m1, .int .i64 m2] 3)).drew.drawn) := Lib.hid (Nat.le_succ_of_le HD.out)
  generalize (W1.alloc (.cells #[.int .i64 m0, .int .i64 m1, .int .i64 m2] 3)).drew = W2 at *
  refine walkW_do rfl (inKA.of HK2.out) (fun K hK => ?_)
  go_simp
  refine (cmp_or _ [m0, m1, m2] _ HI.out).mono ?_
  rintro e w' ⟨rfl, rfl⟩
  refine hK _ _ ?_; clear hK K
  refine walkW_do rfl (inKA.of HK2.out) (fun K hK => ?_)
  go_simp
  refine hK _ _ ?_; clear hK K
  refine ⟨inKA.of HK2.out, ?_⟩
  go_wp2_with fail
  go_ret
  exact ⟨by rw [HC.out]; rfl, grow_of_keep (HK.out.trans HK2.out) HD2.out⟩

theorem cmpM_neg (x y : Mk) : cmpM x y < 0 ↔ ltMk x y := by
  unfold cmpM ltMk
  have c : ∀ a b : Int, (a < b ∧ cmpI a b = -1) ∨ (a = b ∧ cmpI a b = 0) ∨ (b < a ∧ cmpI a b = 1) := fun a b => by
    unfold cmpI
    rcases Int.lt_trichotomy a b with h | h | h
    · exact .inl ⟨h, by rw [if_pos h]⟩
    · exact .inr (.inl ⟨h, by rw [if_neg (by omega), if_neg (by omega)]⟩)
    · exact .inr (.inr ⟨h, by rw [if_neg (by omega), if_pos h]⟩)
  simp only [orL]
  rcases c x.point y.point with ⟨h1, e1⟩ | ⟨h1, e1⟩ | ⟨h1, e1⟩
  · rw [e1, if_neg (by omega)]; omega
  · rw [e1, if_pos rfl]
    rcases c x.node y.node with ⟨h2, e2⟩ | ⟨h2, e2⟩ | ⟨h2, e2⟩
    · rw [e2, if_neg (by omega)]; omega
    · rw [e2, if_pos rfl]
      rcases c x.i y.i with ⟨h3, e3⟩ | ⟨h3, e3⟩ | ⟨h3, e3⟩
      · rw [e3, if_neg (by omega)]; omega
      · rw [e3, if_pos rfl]; omega
      · rw [e3, if_neg (by omega)]; omega
    · rw [e2, if_neg (by omega)]; omega
  · rw [e1, if_neg (by omega)]; omega
theorem cmpM_lt (x y : Mk) : Go.Proofs.ltOf cmpM x y = decide (ltMk x y) := by
  unfold Go.Proofs.ltOf
  exact decide_eq_decide.2 (cmpM_neg x y)
theorem swoM : Go.Sort.SWO (Go.Proofs.ltOf cmpM) where
  irrefl x := by rw [cmpM_lt]; exact decide_eq_false (ltMk_irrefl x)
  trans x y z h1 h2 := by rw [cmpM_lt, decide_eq_true_eq] at *; exact ltMk_trans h1 h2
  ntrans x y z h1 h2 := by rw [cmpM_lt, decide_eq_false_iff_not] at *; unfold ltMk at *; omega
instance : Inhabited Mk := ⟨⟨0, 0, 0⟩⟩

theorem cmpLaysM (blk off size : Nat) (w : World) : Go.Proofs.CmpLays Tryz.prog 129 #[] encMk 3 cmpM blk off size w := fun _ _ _ _ x y => before_any x y _

open Go.Sort in
set_option maxRecDepth 100000 in
set_option maxHeartbeats 2000000 in
theorem sortMarks (blk off cap : Nat) (d : Array Mk) (w : World) (hH : Go.Sort.HoldsK encMk 3 w blk off d) (hblk : blk < w.heap.size) (hsz : d.size < 1000000) :
    Calls Tryz.prog 128 #[.slice (some ⟨blk, off, none⟩) d.size cap, .func (.func 129) #[] #[]] w fun e w' =>
      e = .returned (.tuple #[]) ∧ ∃ d' n os, PermIn 0 d.size d d' ∧ SortedIn (Go.Proofs.ltOf cmpM) 0 d.size d' ∧ w' = Go.Proofs.sortWorldK encMk 3 w blk off n d' os := by
  have eg : ∀ args w, (callFunc 129 args).run Tryz.prog w = .ok (.enter 129 args) w := enters_of Tryz.func129 (by kernel_rfl) rfl
  have hlim : Lib.bitLen d.size < 4611686018427387904 := Nat.lt_of_le_of_lt (Lib.bitLen_le d.size 62 (by omega) (by omega)) (by omega)
  have hp := Go.Proofs.AnyQ.pdqsortCmpFunc_all (P := Tryz.prog) Tryz.pdqMark 3 Tryz.isAgg165 Tryz.sizeOf165 encMk cmpM 129 #[] swoM blk off cap d w eg (cmpLaysM blk off d.size w) ⟨fun _ => rfl, fun x v hv => by simp [encMk] at hv; rcases hv with rfl | rfl | rfl <;> rfl, hH, hblk⟩ (d.size + 1) 0 d.size (Lib.bitLen d.size) d w (by omega) rfl (Go.Proofs.SWK.start hH) (Nat.zero_le _) (Nat.le_refl _) (by omega) hlim (Or.inl rfl)
  have hl : Calls Tryz.prog 135 #[.int .u64 (d.size : Int)] w fun e w' => e = .returned (.int .i64 (Lib.bitLen d.size : Nat)) ∧ w' = w := by
    have h := Go.Proofs.Any.bits_Len (Go.Proofs.SlLaysF0.n15.bits Tryz.bitsLen) (d.size : Int) w (by omega) (by omega)
    rwa [Int.toNat_natCast] at h
  change Calls Tryz.prog 145 _ _ _ at hp
  have hsorts := Go.Sort.pdq_sorts (Go.Proofs.ltOf cmpM) swoM d 0 d.size (Lib.bitLen d.size) true true (Nat.zero_le _) (Nat.le_refl _) (Or.inl rfl)
  generalize Go.Sort.pdq (Go.Proofs.ltOf cmpM) d 0 d.size (Lib.bitLen d.size) true true = r at *
  generalize Lib.bitLen d.size = bl at *
  obtain ⟨n, hn⟩ : ∃ n, d.size = n := ⟨_, rfl⟩
  rw [hn] at hp hl hsorts hsz ⊢
  rw [show ((0 : Nat) : Int) = 0 from rfl] at hp
  have wr : IntKind.u64.wrap (n : Int) = n := by simp [IntKind.wrap, IntKind.bits, IntKind.signed]; omega
  have HP := Lib.hid hp
  have HL := Lib.hid hl
  have HS := Lib.hid hsorts
  clear hp hl hsorts hH eg hn
  go_enter Tryz.func128, Tryz.ntmps128
  go_wp2_with fail
  with_reducible refine HL.out.mono ?_
  rintro e w' ⟨rfl, rfl⟩
  go_wp2_with fail
  with_reducible refine HP.out.mono ?_
  rintro e w' ⟨rfl, m, os, rfl⟩
  go_wp2_with fail
  go_end0
  exact ⟨rfl, r, m, os, HS.out.1, HS.out.2, rfl⟩
end Go.Proofs.YtplkmbfeeegaiaaGreatDoor

/-
  append of one element; the points of members.
-/
namespace Go.Proofs.YtplkmbfeeegaiaaGreatDoor
open Go.RowKit Go.Shelf

theorem ownsRow_keep {W W' : World} {lo : Nat} {e : TypeId} {z : Nat} {v : Value} {n : Nat} {xs : List Value} {A : Nat → Prop} (h : W.ownsRow lo e z v n xs) (k : Keep A W W') (hA : ∀ b, v.ownBlock = some b → ¬ A b) : W'.ownsRow lo e z v n xs := by
  obtain ⟨h1, h2⟩ := h
  refine ⟨h1, ?_⟩
  rcases h2 with h2 | ⟨g, cap, cur, rfl, hb, hh, r⟩
  · exact .inl h2
  · exact .inr ⟨g, cap, cur, rfl, hb, k.heap hh (hA g rfl), r⟩
theorem ownsRow_lo {W : World} {lo lo' : Nat} {e : TypeId} {z : Nat} {v : Value} {n : Nat} {xs : List Value} (h : W.ownsRow lo e z v n xs) (hl : lo' ≤ lo) : W.ownsRow lo' e z v n xs :=
  ⟨h.1, h.2.imp id (fun ⟨g, cp, cur, a1, a2, a3⟩ => ⟨g, cp, cur, a1, Nat.le_trans hl a2, a3⟩)⟩
theorem cells_new (W : World) (xs : List Value) (t : TypeId) (j : Nat) (u : Value) (h : xs[j]? = some u) : (W.alloc (.cells xs.toArray t)).cell? ⟨W.heap.size, j, none⟩ = some u := by
  unfold World.cell?
  rw [World.alloc_heap_new]
  simp [h]

/-- One element more. -/
theorem app_one (st e : TypeId) (k by_ : Nat) (z : Value) (hst : Tryz.prog.underlying st = some (.slice e)) (hinfo : (Tryz.prog.info? e).map (fun i => (i.zero, i.size, i.bytes)) = some (some z, k, by_)) (hzs : z.cells.size = k) (hk : 0 < k) (hby : by_ ≤ 64)
    (W : World) (ty lo : Nat) (v : Value) (n : Nat) (xs new : List Value) (hown : W.ownsRow lo e k v n xs) (hlen : new.length = k) (h1 : ∀ u ∈ new, u.oneCell' = true) (hn : n ≤ 1000000) (hlo : lo ≤ W.heap.size) :
    ∃ v' w', (Builtin.append_ #[st, st] ty #[v, .slice (some ⟨W.heap.size, 0, none⟩) 1 1]).run Tryz.prog (W.alloc (.cells new.toArray e)) = .ok v' w' ∧ w'.ownsRow lo e k v' (n + 1) (xs ++ new) ∧
      Keep (fun k => v.ownBlock = some k) W w' ∧ (v'.ownBlock = v.ownBlock ∨ v'.ownBlock = some (W.heap.size + 1)) ∧ ∃ g c, v' = .slice (some ⟨g, 0, none⟩) (n + 1) c := by
  obtain ⟨i0, hi, hz0, hz1, hz2⟩ := info_parts hinfo
  obtain ⟨v', w', r1, r2, r3, r4, r5⟩ := run_append_own_at (P := Tryz.prog) (W.alloc (.cells new.toArray e)) lo st ty e i0 z k by_ hst hi hz0 hz1 hz2 hzs hk v n xs (hown.alloc _) ⟨W.heap.size, 0, none⟩ 1 1 new (by omega)
    (by
      intro j u hj
      rw [Addr.add_lit, Nat.zero_add]
      exact cells_new W new e j u hj)
    h1 (by unfold maxLen; omega) (by
      have : (n + 1) * by_ ≤ 1000001 * 64 := Nat.mul_le_mul (by omega) hby
      omega) (by rw [World.size_alloc]; omega)
  exact ⟨v', w', r1, r2, ((Keep.refl _ W).alloc _).trans (Keep.of_grown r3), by rw [World.size_alloc] at r5; exact r5, ownsRow_succ r2⟩

theorem its_new (W : World) (xs : List Int) (hn : xs.length ≤ 1000) (hb : ∀ x ∈ xs, I64 x) : Its (W.alloc (.cells (xs.map (fun x => Value.int .i64 x)).toArray 3)) (.slice (some ⟨W.heap.size, 0, none⟩) xs.length xs.length) xs :=
  ⟨by omega, hb, _, _, W.heap.size, 0, rfl, Nat.le_refl _, fun _ => rfl, fun j x hj => by rw [Nat.zero_add]; exact cells_new W _ _ j _ (by rw [List.getElem?_map, hj]; rfl)⟩
theorem nodeT_eq (m i : Nat) : nodeT (m : Int) i = txt ⟨#[110, 111, 100, 101]⟩ [m, i] := by unfold nodeT; rw [Int.toNat_natCast]
theorem wp_app {P : Program} {o : Oper} {a : Act} {w w' : World} {K : Act → World → Prop} {Q : Exit → Act → World → Prop} {v v2 v' : Value}
    (s x : Operand) (t : TypeId) (hop : o.op = Op.call { callee := Callee.builtin Builtin.append, args := #[s, x], argTypes := #[t, t] })
    (hs : a.eval s = v) (hx : a.eval x = v2) (hrun : (Builtin.append_ #[t, t] o.type #[v, v2]).run P w = .ok v' w') (hK : K (a.put o.dst v') w') : o.wp P a w K Q := by
  unfold Oper.wp
  simp [execOp, hop, resolve, invoke, builtin, hs, hx, hrun, Result.andThen]
  exact hK
theorem wpList_app {P : Program} {ops : Array Oper} {rest : List Oper} {o : Oper} {a : Act} {w w' : World} {Q : Exit → Act → World → Prop} {v v2 v' : Value}
    (hg : o.guard = none) (s x : Operand) (t : TypeId) (hop : o.op = Op.call { callee := Callee.builtin Builtin.append, args := #[s, x], argTypes := #[t, t] })
    (hs : a.eval s = v) (hx : a.eval x = v2) (hrun : (Builtin.append_ #[t, t] o.type #[v, v2]).run P w = .ok v' w') (hK : wpList P ops Q rest (a.put o.dst v') w') : wpList P ops Q (o :: rest) a w := by
  refine wpList_plain hg fun K hK' => ?_
  unfold Oper.wp
  simp [execOp, hop, resolve, invoke, builtin, hs, hx, hrun, Result.andThen]
  exact hK' _ _ hK

theorem infoMk : (Tryz.prog.info? 165).map (fun i => (i.zero, i.size, i.bytes)) = some (some (.agg #[.int .i64 0, .int .i64 0, .int .i64 0]), 3, 24) := by kernel_rfl
theorem infoInt : (Tryz.prog.info? 3).map (fun i => (i.zero, i.size, i.bytes)) = some (some (.int .i64 0), 1, 8) := by kernel_rfl
theorem infoMb : (Tryz.prog.info? 35).map (fun i => (i.zero, i.size, i.bytes)) = some (some (.agg #[.int .i64 0, .int .i64 0, .int .i64 0]), 3, 24) := by kernel_rfl

def flatM (l : List Mk) : List Value := l.flatMap encMk
theorem flatM_append (a b : List Mk) : flatM (a ++ b) = flatM a ++ flatM b := by unfold flatM; rw [List.flatMap_append]
theorem flatM_one (x : Mk) : flatM [x] = encMk x := by simp [flatM]

/-- The points that are drawn when k members are done, and i points of the next one. -/
def drawK (l : List Mb) (k i : Nat) : List Mk := draws PN (l.take k) ++ (match l[k]? with | some m => (drawM PN m).take i | none => [])
theorem drawK_next {l : List Mb} {k : Nat} {m : Mb} (h : l[k]? = some m) : drawK l k (4 * m.weight.toNat) = drawK l (k + 1) 0 := by
  unfold drawK
  rw [h, List.take_add_one, h, Option.toList_some, draws_append]
  have e : (drawM PN m).take (4 * m.weight.toNat) = drawM PN m := List.take_of_length_le (by simp [drawM])
  have e2 : draws PN [m] = drawM PN m := by simp [draws]
  simp only [e, e2]
  split <;> simp
theorem drawK_succ {l : List Mb} {k i : Nat} {m : Mb} (h : l[k]? = some m) (hi : i < 4 * m.weight.toNat) : drawK l k (i + 1) = drawK l k i ++ [⟨PN m.node i, m.node, i⟩] := by
  unfold drawK
  rw [h]
  simp only []
  rw [List.take_add_one, List.append_assoc]
  congr 2
  unfold drawM
  rw [List.getElem?_map, List.getElem?_range hi]
  rfl
theorem drawK_zero (l : List Mb) : drawK l 0 0 = [] := by unfold drawK; split <;> simp [draws]
theorem drawK_all {l : List Mb} {k : Nat} (h : l.length ≤ k) : drawK l k 0 = draws PN l := by
  unfold drawK
  rw [List.take_of_length_le h, List.getElem?_eq_none h]
  simp
theorem drawK_len {l : List Mb} (hv : VL l) {k i : Nat} : (drawK l k i).length ≤ 100000 := by
  unfold drawK
  rw [List.length_append]
  have h1 : ((draws PN (l.take k)).length : Int) = 4 * wsum (l.take k) := draws_len PN _ (fun m hm => hv.ok m (List.mem_of_mem_take hm))
  have h2 := wsum_take hv.ok k
  have h3 := hv.wsum
  have h4 : (match l[k]? with | some m => (drawM PN m).take i | none => []).length ≤ 64 := by
    cases e : l[k]? with
    | none => simp
    | some m =>
      have := hv.ok m (List.mem_of_getElem? e)
      unfold okMb at this
      simp only []
      refine Nat.le_trans (List.length_take_le' _ _) ?_
      simp [drawM]
      omega
  omega

/-- Points in a slice of their own. -/
def OwnM (w : World) (l : List Mk) (v : Value) (W : World) : Prop := Keep (fun _ => False) w W ∧ W.ownsRow w.heap.size 165 3 v l.length (flatM l)
theorem OwnM.nil {w W : World} (k : Keep (fun _ => False) w W) : OwnM w [] (.slice none 0 0) W := ⟨k, by simpa [flatM] using World.ownsRow_nil W w.heap.size 165 3⟩
theorem OwnM.keep {w W W' : World} {l : List Mk} {v : Value} (h : OwnM w l v W) (k : Keep (fun _ => False) W W') : OwnM w l v W' := ⟨h.1.trans k, ownsRow_keep h.2 k (fun _ _ h => h)⟩
theorem OwnM.form {w W : World} {l : List Mk} {v : Value} (h : OwnM w l v W) : v = .slice none 0 0 ∨ ∃ b n c, v = .slice (some ⟨b, 0, none⟩) n c := by
  rcases h.2.2 with ⟨rfl, _⟩ | ⟨g', cap, cur, rfl, _⟩
  · exact .inl rfl
  · exact .inr ⟨_, _, _, rfl⟩
theorem OwnM.snoc {w W : World} {l : List Mk} {v : Value} (h : OwnM w l v W) (x : Mk) (hl : l.length ≤ 100000) :
    ∃ v' w', (Builtin.append_ #[130, 130] 130 #[v, .slice (some ⟨W.heap.size, 0, none⟩) 1 1]).run Tryz.prog (W.alloc (.cells #[.int .i64 x.point, .int .i64 x.node, .int .i64 x.i] 165)) = .ok v' w' ∧ OwnM w (l ++ [x]) v' w' ∧ Keep (fun j => v.ownBlock = some j) W w' ∧ (v'.ownBlock = v.ownBlock ∨ v'.ownBlock = some (W.heap.size + 1)) := by
  obtain ⟨v', w', r1, r2, r3, r4, -⟩ := app_one 130 165 3 24 _ Tryz.underlying130 infoMk rfl (by decide) (by decide) W 130 w.heap.size v l.length (flatM l) (encMk x) h.2 rfl (by simp [encMk, Value.oneCell']) (by omega) h.1.size
  refine ⟨v', w', r1, ⟨h.1.trans' r3 (fun j e => .inr (h.2.lt j e).1), ?_⟩, r3, r4⟩
  rw [flatM_append, flatM_one, List.length_append]
  exact r2

set_option maxRecDepth 100000 in
set_option maxHeartbeats 4000000 in
theorem drawn_raw (v : Value) (l : List Mb) (w : World) (h : Mbs w v l) (hv : VL l) (hT : Tab w) (Q : Ending → World → Prop)
    (hQ : ∀ vo W, OwnM w (draws PN l) vo W → Calls Tryz.prog 128 #[vo, .func (.func 129) #[] #[]] W fun e w' => e = .returned (.tuple #[]) ∧ Q (.returned vo) w') :
    Calls Tryz.prog 99 #[v] w Q := by
  obtain ⟨hn, hbd, a, c, b, off, rfl, hc, ha, hcell⟩ := h
  have HC := Lib.hid hcell
  have HA := Lib.hid ha
  have HV := Lib.hid hv
  have HQ := Lib.hid hQ
  have HT := Lib.hid hT
  clear hcell ha hbd hv hQ hT
  obtain ⟨n, hn'⟩ : ∃ n, l.length = n := ⟨_, rfl⟩
  have HL := Lib.hid hn'
  rw [hn'] at hn hc ⊢
  clear hn'
  go_enter Tryz.func99, Tryz.ntmps99
  go_wp2_with fail
  go_loopg [3, 9] n (fun gh v3 v wr => ∃ (k : Nat), gh + k = n ∧ v = .int .i64 k ∧ OwnM w (drawK l k 0) v3 wr)
  case atStart => exact ⟨0, by omega, rfl, by rw [drawK_zero]; exact OwnM.nil (Keep.refl _ _)⟩
  case round =>
    obtain ⟨k, hk, rfl, how⟩ := hrel
    have HOW := Lib.hid how
    clear how
    by_cases hlt : k < n
    · obtain ⟨m, hm⟩ : ∃ m, l[k]? = some m := ⟨_, List.getElem?_eq_getElem (by have := HL.out; omega)⟩
      obtain rfl := HA.out (by have := HL.out; omega)
      have c0 := HOW.out.1.cell (HC.out k m hm).1 (fun h => h)
      have c1 := HOW.out.1.cell (HC.out k m hm).2.1 (fun h => h)
      have c2 := HOW.out.1.cell (HC.out k m hm).2.2 (fun h => h)
      have HM := Lib.hid hm
      have hok := HV.out.ok m (List.mem_of_getElem? hm)
      unfold okMb at hok
      have hkz : (k : Int) < (n : Int) := by omega
      have hk0 : (0 : Int) ≤ (k : Int) := by omega
      clear hm
      obtain ⟨mn, mr, mw⟩ := m
      simp only [] at c0 c1 c2 hok
      have HK2 : Hid (OwnM w (drawK l k 0) u3 (wr.alloc (.cells #[.int .i64 mn, .int .i64 mr, .int .i64 mw] 35))) := Lib.hid (HOW.out.keep ((Keep.refl _ wr).alloc _))
      have HT3 := Lib.hid (three_cell wr (.int .i64 mn) (.int .i64 mr) (.int .i64 mw) 35)
      have HZ : Hid (w.heap.size ≤ wr.heap.size) := Lib.hid HOW.out.1.size
      go_wp2_with fail
      clear c0 c1 c2
      generalize wr.alloc (.cells #[.int .i64 mn, .int .i64 mr, .int .i64 mw] 35) = W2 at *
      have HOB : Hid (∀ j, u3.ownBlock = some j → j ≠ wr.heap.size) := Lib.hid (fun j e => by have := (HOW.out.2.lt j e).2; omega)
      generalize wr.heap.size = z at *
      obtain ⟨mq, rfl⟩ : ∃ mq : Nat, mn = mq := ⟨mn.toNat, by omega⟩
      obtain ⟨wq, rfl⟩ : ∃ wq : Nat, mw = wq := ⟨mw.toNat, by omega⟩
      go_loopg [3, 16] (4 * wq) (fun g2 v3 v wr2 => ∃ i : Nat, g2 + i = 4 * wq ∧ v = .int .i64 i ∧ OwnM w (drawK l k i) v3 wr2 ∧ wr2.cell? ⟨z, 0, none⟩ = some (.int .i64 mq) ∧ ∀ j, v3.ownBlock = some j → j ≠ z)
      case atStart => exact ⟨0, by omega, rfl, HK2.out, HT3.out.1, HOB.out⟩
      case round =>
        clear HK2 HT3 HOB HOW
        obtain ⟨i, hi, rfl, how, hcz, hob⟩ := hrel
        have HOW := Lib.hid how
        have HOB := Lib.hid hob
        have HCZ := Lib.hid hcz
        clear how hob hcz
        by_cases hil : i < 4 * wq
        · have hiz : (i : Int) < 4 * (wq : Int) := by omega
          have hi0 : (0 : Int) ≤ (i : Int) := by omega
          have hi100 : i < 100 := by omega
          have hm100 : mq < 100 := by omega
          have HF := Lib.hid HOW.out.form
          go_upto_region 8 with (fail)
          have cz : ∀ p : KA (fun j => u3.ownBlock = some j) wr, p.val.cell? ⟨z, 0, none⟩ = some (.int .i64 mq) := fun p => p.k.cell HCZ.out (fun e => HOB.out z e rfl)
          refine wp_region_walk [(true, 0), (true, 1), (true, 2), (true, 3), (true, 7), (true, 8), (true, 9), (false, 4), (false, 5), (false, 6), (false, 10), (false, 11), (false, 12), (false, 13)] (inKA (fun j => u3.ownBlock = some j) wr) (by kernel_rfl) (by kernel_rfl) ?_
          iterate 7 (refine walkW_read rfl (fun K hK => ?_); go_simp; refine hK _ ?_; clear hK K)
          clear cz
          refine walkW_do rfl (inKA.of (Keep.refl _ wr).drew) (fun K hK => ?_)
          go_simp
          refine hK _ _ ?_; clear hK K
          have HI : Hid (Its (wr.alloc (.cells #[.int .i64 mq, .int .i64 i] 3)).drew (.slice (some ⟨wr.heap.size, 0, none⟩) 2 2) ([mq, i].map (fun q : Nat => (q : Int)))) := Lib.hid ((its_new wr [(mq : Int), (i : Int)] (by simp) (by
            intro x hx
            simp only [List.mem_cons, List.not_mem_nil, or_false] at hx
            unfold I64
            rcases hx with rfl | rfl <;> omega)).kept (Keep.refl _ _).drew)
          have HK1 : Hid (Keep (fun _ => False) wr (wr.alloc (.cells #[.int .i64 mq, .int .i64 i] 3)).drew) := Lib.hid ((Keep.refl _ wr).alloc _).drew
          have HSZ : Hid (wr.heap.size < (wr.alloc (.cells #[.int .i64 mq, .int .i64 i] 3)).drew.heap.size) := Lib.hid (by show wr.heap.size < (wr.alloc _).heap.size; simp)
          generalize (wr.alloc (.cells #[.int .i64 mq, .int .i64 i] 3)).drew = V1 at *
          generalize hws : wr.heap.size = ws at HI HSZ
          have HWS := Lib.hid hws
          clear hws
          have HK1' : Hid (Keep (fun j => u3.ownBlock = some j) wr V1) := Lib.hid (HK1.out.mono (fun _ h => h.elim))
          refine walkW_do rfl (inKA.of HK1'.out) (fun K hK => ?_)
          go_simp
          refine (text_any _ _ [mq, i] V1 (by decide) (by simp) (by
            intro q hq
            simp only [List.mem_cons, List.not_mem_nil, or_false] at hq
            rcases hq with rfl | rfl <;> omega) HI.out).mono ?_
          rintro e w' ⟨rfl, rfl⟩
          refine hK _ _ ?_; clear hK K
          have hnt := nodeT_eq mq i
          rw [← hnt]
          clear hnt
          have HP : Hid (((pt (nodeT (mq : Int) i) : Nat) : Int) = PN (mq : Int) i) := Lib.hid rfl
          have HPT := Lib.hid (point_any (nodeT (mq : Int) i) (nodeT_size (by rw [Int.toNat_natCast]; omega) hi100) V1 ((HT.out.kept HOW.out.1).kept HK1.out))
          rw [HP.out] at HPT
          clear HP
          generalize nodeT (mq : Int) i = nt at *
          refine walkW_do rfl (inKA.of HK1'.out) (fun K hK => ?_)
          go_simp
          refine HPT.out.mono ?_
          rintro e w' ⟨rfl, rfl⟩
          refine hK _ _ ?_; clear hK K
          obtain ⟨v', W3, hr, how3, hk3, hob3⟩ := (HOW.out.keep HK1.out).snoc ⟨PN (mq : Int) i, mq, i⟩ (drawK_len HV.out)
          simp only [] at hr
          have HN : Hid (OwnM w (drawK l k (i + 1)) v' W3) := Lib.hid (by
            rw [drawK_succ HM.out (by show i < 4 * (wq : Int).toNat; rw [Int.toNat_natCast]; omega)]
            exact how3)
          have HK3 : Hid (Keep (fun j => u3.ownBlock = some j) wr W3) := Lib.hid (HK1'.out.trans hk3)
          have HCZ3 : Hid (W3.cell? ⟨z, 0, none⟩ = some (.int .i64 mq)) := Lib.hid (HK3.out.cell HCZ.out (fun e => HOB.out z e rfl))
          have HOB3 : Hid (∀ j, v'.ownBlock = some j → j ≠ z) := Lib.hid (fun j e => by
            rcases hob3 with h | h
            · exact HOB.out j (h.symm.trans e)
            · rw [h] at e
              cases e
              have h1 := World.block_lt_of_cell? _ _ HCZ.out
              have h2 := HWS.out
              have h3 := HSZ.out
              simp only [] at h1
              omega)
          have HR := Lib.hid hr
          clear how3 hk3 hob3 hr
          generalize PN (mq : Int) i = pn at *
          refine walkW_do rfl (inKA.of HK1'.out) (fun K hK => ?_)
          go_simp
          refine hK _ _ ?_; clear hK K
          refine walkW_do rfl (inKA.of HK1'.out) (fun K hK => ?_)
          go_simp
          refine hK _ _ ?_; clear hK K
          refine walkW_do rfl (inKA.of (HK1'.out.alloc _)) (fun K hK => ?_)
          rw [if_pos (by simp [Region.wanted])]
          refine wp_app (.tmp 19) (.tmp 30) 130 rfl rfl rfl HR.out (hK _ _ ?_); clear hK K
          refine walkW_do rfl (inKA.of HK3.out) (fun K hK => ?_)
          go_simp
          refine hK _ _ ?_; clear hK K
          refine ⟨inKA.of HK3.out, ?_⟩
          go_wp2_with fail
          go_roundg (gk - 1)
          case rel => exact ⟨i + 1, by omega, by go_num, HN.out, HCZ3.out, HOB3.out⟩
          case measure => omega
        · obtain rfl : i = 4 * wq := by omega
          have HN : Hid (OwnM w (drawK l (k + 1) 0) u3 wr) := Lib.hid (by
            have := HOW.out
            rwa [show 4 * wq = 4 * (wq : Int).toNat by rw [Int.toNat_natCast], drawK_next HM.out] at this)
          have hiz : ¬ ((4 * wq : Nat) : Int) < 4 * (wq : Int) := by omega
          go_wp2_with fail
          go_roundg (n - (k + 1))
          case rel => exact ⟨k + 1, by omega, by go_num, HN.out⟩
          case measure => omega
    · have HN : Hid (OwnM w (draws PN l) u3 wr) := Lib.hid (by
        have := HOW.out
        rwa [drawK_all (by have := HL.out; omega)] at this)
      go_wp2_with fail
      with_reducible refine (HQ.out _ _ HN.out).mono ?_
      rintro e W3 ⟨rfl, hq⟩
      go_wp2_with fail
      exact hq
end Go.Proofs.YtplkmbfeeegaiaaGreatDoor

/-
  The reference's points of members.
-/
namespace Go.Proofs.YtplkmbfeeegaiaaGreatDoor
open Go.RowKit Go.Shelf

/-- A point as the reference keeps it. -/
def encSp (x : Mk) : List Value := [.int .i64 x.point, .int .i64 x.node]
theorem encSp_len (x : Mk) : (encSp x).length = 2 := rfl
def flatS (l : List Mk) : List Value := l.flatMap encSp
theorem flatS_one (x : Mk) : flatS [x] = encSp x := by simp [flatS]
theorem flatS_append (a b : List Mk) : flatS (a ++ b) = flatS a ++ flatS b := by unfold flatS; rw [List.flatMap_append]
theorem flatS_cell (l : List Mk) : ∀ u ∈ flatS l, u.oneCell' = true := by
  intro u hu
  unfold flatS at hu
  obtain ⟨m, _, hu⟩ := List.mem_flatMap.1 hu
  simp only [encSp, List.mem_cons, List.not_mem_nil, or_false] at hu
  rcases hu with rfl | rfl <;> rfl
def OwnS (w : World) (l : List Mk) (v : Value) (W : World) : Prop := Keep (fun _ => False) w W ∧ W.ownsRow w.heap.size 145 2 v l.length (flatS l)
theorem OwnS.nil {w W : World} (k : Keep (fun _ => False) w W) : OwnS w [] (.slice none 0 0) W := ⟨k, by simpa [flatS] using World.ownsRow_nil W w.heap.size 145 2⟩
theorem OwnS.keep {w W W' : World} {l : List Mk} {v : Value} (h : OwnS w l v W) (k : Keep (fun _ => False) W W') : OwnS w l v W' := ⟨h.1.trans k, ownsRow_keep h.2 k (fun _ _ h => h)⟩
theorem OwnS.form {w W : World} {l : List Mk} {v : Value} (h : OwnS w l v W) : (v = .slice none 0 0 ∧ l = []) ∨ ∃ b c, v = .slice (some ⟨b, 0, none⟩) l.length c := by
  rcases h.2.2 with ⟨h1, h2⟩ | ⟨g, c, cur, h1, _⟩
  · exact .inl ⟨h1, List.eq_nil_of_length_eq_zero h2⟩
  · exact .inr ⟨g, c, h1⟩
theorem infoSp : (Tryz.prog.info? 145).map (fun i => (i.zero, i.size, i.bytes)) = some (some (.agg #[.int .i64 0, .int .i64 0]), 2, 16) := by kernel_rfl
theorem OwnS.snoc {w W : World} {l : List Mk} {v : Value} (h : OwnS w l v W) (x : Mk) (hl : l.length ≤ 100000) :
    ∃ g c w', (Builtin.append_ #[142, 142] 142 #[v, .slice (some ⟨W.heap.size, 0, none⟩) 1 1]).run Tryz.prog (W.alloc (.cells #[.int .i64 x.point, .int .i64 x.node] 145)) = .ok (.slice (some ⟨g, 0, none⟩) (l.length + 1) c) w' ∧ OwnS w (l ++ [x]) (.slice (some ⟨g, 0, none⟩) (l.length + 1) c) w' ∧ Keep (fun j => v.ownBlock = some j) W w' ∧ (v.ownBlock = some g ∨ g = W.heap.size + 1) := by
  obtain ⟨v', w', r1, r2, r3, r4, g, c, r5⟩ := app_one 142 145 2 16 _ Tryz.underlying142 infoSp rfl (by decide) (by decide) W 142 w.heap.size v l.length (flatS l) (encSp x) h.2 rfl (by simp [encSp, Value.oneCell']) (by omega) h.1.size
  subst r5
  refine ⟨g, c, w', r1, ⟨h.1.trans' r3 (fun j e => .inr (h.2.lt j e).1), ?_⟩, r3, ?_⟩
  · rw [flatS_append, flatS_one, List.length_append]
    exact r2
  · rcases r4 with r4 | r4
    · exact .inl r4.symm
    · exact .inr (by cases r4; rfl)
theorem two_cell (W : World) (x y : Value) (t : TypeId) : (W.alloc (.cells #[x, y] t)).cell? ⟨W.heap.size, 0, none⟩ = some x ∧ (W.alloc (.cells #[x, y] t)).cell? ⟨W.heap.size, 1, none⟩ = some y ∧ ∀ o, (W.alloc (.cells #[x, y] t)).frozen? ⟨W.heap.size, o, none⟩ = false := by
  refine ⟨?_, ?_, fun o => ?_⟩
  · exact cells_new W [x, y] t 0 x rfl
  · exact cells_new W [x, y] t 1 y rfl
  · unfold World.frozen?
    rw [World.alloc_heap_new]
    simp
/-- The text of a point. -/
theorem nodeT_ref (m i : Nat) : ((⟨#[110, 111, 100, 101, 32]⟩ : ByteArray) ++ dig m) ++ ⟨#[32]⟩ ++ dig i = nodeT (m : Int) i := by
  rw [nodeT_eq]
  apply Go.WideShapes.bytes_inj
  simp [txt, addT]

/-- A point in a block of its own. -/
structure SpotAt (w0 W : World) (z : Nat) (p n : Int) : Prop where
  k : Keep (fun _ => False) w0 W
  lo : w0.heap.size ≤ z
  c0 : W.cell? ⟨z, 0, none⟩ = some (.int .i64 p)
  c1 : W.cell? ⟨z, 1, none⟩ = some (.int .i64 n)
theorem SpotAt.mk' {w0 V : World} {z : Nat} {p n : Int} {x y : Value} (k : Keep (fun _ => False) w0 V) (lo : w0.heap.size ≤ z) (f0 : V.cell? ⟨z, 0, none⟩ = some x) (f1 : V.cell? ⟨z, 1, none⟩ = some y) (_ff : ∀ o, V.frozen? ⟨z, o, none⟩ = false) :
    SpotAt w0 ((V.setCell ⟨z, 0, none⟩ (.int .i64 p)).setCell ⟨z, 1, none⟩ (.int .i64 n)) z p n :=
  ⟨(k.setCell (p := ⟨z, 0, none⟩) _ (.inr lo)).setCell (p := ⟨z, 1, none⟩) _ (.inr lo), lo, (cell_set_off (by decide)).trans (cell_set_same f0), cell_set_same ((cell_set_off (by decide)).trans f1)⟩

theorem infoSp2 : (Tryz.prog.info? 145).map (·.size) = some 2 := by kernel_rfl
theorem wp_cpy {P : Program} {o : Oper} {a : Act} {w w' : World} {K : Act → World → Prop} {Q : Exit → Act → World → Prop} {v v2 v' : Value}
    (s x : Operand) (t : TypeId) (hop : o.op = Op.call { callee := Callee.builtin Builtin.copy, args := #[s, x], argTypes := #[t, t] })
    (hs : a.eval s = v) (hx : a.eval x = v2) (hrun : (Builtin.copy_ #[t, t] o.type #[v, v2]).run P w = .ok v' w') (hK : K (a.put o.dst v') w') : o.wp P a w K Q := by
  unfold Oper.wp
  simp [execOp, hop, resolve, invoke, builtin, hs, hx, hrun, Result.andThen]
  exact hK
/-- The points that are drawn already come before the next one. -/
theorem drawK_lt {l : List Mb} (hv : VL l) {k i : Nat} {m : Mb} (h : l[k]? = some m) : ∀ y ∈ drawK l k i, dLt y ⟨PN m.node i, m.node, i⟩ := by
  intro y hy
  unfold drawK at hy
  rw [h] at hy
  rcases List.mem_append.1 hy with hy | hy
  · obtain ⟨m', hm', hy⟩ := (mem_draws PN).1 hy
    have h1 := ((mem_drawM PN).1 hy).1
    have h2 := hv.asc
    rw [← List.take_append_drop k l, List.pairwise_append] at h2
    have h3 := h2.2.2 m' hm' m (by
      have hk : k < l.length := (List.getElem?_eq_some_iff.1 h).1
      rw [List.drop_eq_getElem_cons hk]
      rw [List.getElem?_eq_getElem hk] at h
      simp only [Option.some.injEq] at h
      rw [h]; exact List.mem_cons_self)
    exact .inl (by simp only []; omega)
  · obtain ⟨j, hj⟩ := List.mem_iff_getElem?.1 hy
    have hji : j < i := by have := (List.getElem?_eq_some_iff.1 hj).1; rw [List.length_take] at this; omega
    rw [List.getElem?_take_of_lt hji] at hj
    unfold drawM at hj
    rw [List.getElem?_map] at hj
    cases hr : (List.range (4 * m.weight.toNat))[j]? with
    | none => rw [hr] at hj; simp at hj
    | some j' =>
      rw [hr] at hj
      simp only [Option.map_some, Option.some.injEq] at hj
      have hjj : j' = j := by
        have := (List.getElem?_eq_some_iff.1 hr).2
        simpa using this.symm
      subst hj
      exact .inr ⟨rfl, by simp only []; omega⟩
set_option maxRecDepth 100000 in
set_option maxHeartbeats 8000000 in
theorem spots_any (v : Value) (l : List Mb) (w : World) (h : Mbs w v l) (hv : VL l) : Calls Tryz.prog 112 #[v] w fun e w' => ∃ vo, e = .returned vo ∧ OwnS w (circ PN l) vo w' := by
  obtain ⟨hn, hbd, a, c, b, off, rfl, hc, ha, hcell⟩ := h
  have HC := Lib.hid hcell
  have HA := Lib.hid ha
  have HV := Lib.hid hv
  clear hcell ha hbd hv
  obtain ⟨n, hn'⟩ : ∃ n, l.length = n := ⟨_, rfl⟩
  have HL := Lib.hid hn'
  rw [hn'] at hn hc ⊢
  clear hn'
  go_enter Tryz.func112, Tryz.ntmps112
  go_wp2_with fail
  go_loopg [3, 4] n (fun gh v3 v wr => ∃ (k : Nat) (S : List Mk), gh + k = n ∧ v = .int .i64 k ∧ OwnS w S v3 wr ∧ Hid (S.Pairwise ltMk ∧ S.Perm (drawK l k 0)))
  case atStart => exact ⟨0, [], by omega, rfl, OwnS.nil (Keep.refl _ _), Lib.hid ⟨List.Pairwise.nil, by rw [drawK_zero]⟩⟩
  case round =>
    obtain ⟨k, S, hk, rfl, how, HS⟩ := hrel
    have HOW := Lib.hid how
    clear how
    by_cases hlt : k < n
    · obtain ⟨m, hm⟩ : ∃ m, l[k]? = some m := ⟨_, List.getElem?_eq_getElem (by have := HL.out; omega)⟩
      obtain rfl := HA.out (by have := HL.out; omega)
      have HM := Lib.hid hm
      have HCX := Lib.hid (HC.out k m hm)
      have hok := HV.out.ok m (List.mem_of_getElem? hm)
      unfold okMb at hok
      have hkz : (k : Int) < (n : Int) := by omega
      have hk0 : (0 : Int) ≤ (k : Int) := by omega
      clear hm
      obtain ⟨mn, mr, mw⟩ := m
      simp only [] at HCX hok
      obtain ⟨mq, rfl⟩ : ∃ mq : Nat, mn = mq := ⟨mn.toNat, by omega⟩
      obtain ⟨wq, rfl⟩ : ∃ wq : Nat, mw = wq := ⟨mw.toNat, by omega⟩
      have HKK := Lib.hid (And.intro hk hlt)
      clear hk hlt
      go_wp2_with fail
      go_loopg [3, 5] (4 * wq) (fun g2 v3 v wr2 => ∃ (i : Nat) (S : List Mk), g2 + i = 4 * wq ∧ v = .int .i64 i ∧ OwnS w S v3 wr2 ∧ Hid (S.Pairwise ltMk ∧ S.Perm (drawK l k i)))
      case atStart => exact ⟨0, S, by omega, rfl, HOW.out, HS⟩
      case round =>
        clear HOW HS S
        obtain ⟨i, S, hi, rfl, how, HS⟩ := hrel
        have HOW := Lib.hid how
        clear how
        have c0 := HOW.out.1.cell HCX.out.1 (fun h => h)
        have c2 := HOW.out.1.cell HCX.out.2.2 (fun h => h)
        have hw4 : IntKind.i64.wrap (4 * (wq : Int)) = 4 * (wq : Int) := wrapI (by unfold I64; omega)
        by_cases hil : i < 4 * wq
        · have hiz : (i : Int) < 4 * (wq : Int) := by omega
          have hi0 : (0 : Int) ≤ (i : Int) := by omega
          have HF := Lib.hid HOW.out.form
          have HD1 : Hid (∀ W, Calls Tryz.prog 79 #[.int .i64 (mq : Int)] W fun e w' => e = .returned (.string (dig mq)) ∧ Keep (fun _ => False) W w') := Lib.hid (fun W => digits_any mq (by omega) W)
          have HD2 : Hid (∀ W, Calls Tryz.prog 79 #[.int .i64 (i : Int)] W fun e w' => e = .returned (.string (dig i)) ∧ Keep (fun _ => False) W w') := Lib.hid (fun W => digits_any i (by omega) W)
          have HPT : Hid (∀ W, Calls Tryz.prog 78 #[.string (((⟨#[110, 111, 100, 101, 32]⟩ : ByteArray) ++ dig mq) ++ ⟨#[32]⟩ ++ dig i)] W fun e w' => e = .returned (.int .i64 (PN (mq : Int) i)) ∧ W = w') := Lib.hid (fun W => by
            rw [nodeT_ref]
            exact refPoint_any _ (nodeT_size (by rw [Int.toNat_natCast]; omega) (by omega)) W)
          have hd1 : (dig mq).size ≤ 2 := dig_size (by omega)
          have hd2 : (dig i).size ≤ 2 := dig_size (by omega)
          generalize dig mq = dm at *
          generalize dig i = di at *
          go_upto_region 8 with (fail)
          clear c0 c2
          have cz : ∀ q : KA (fun _ => False) wr, q.val.cell? ⟨b, off + k * 3, none⟩ = some (.int .i64 mq) := fun q => q.k.cell (HOW.out.1.cell HCX.out.1 (fun h => h)) (fun h => h)
          refine wp_region_walkT_join (.read 0 (.read 1 (.read 2 (.read 3 (.read 4 (.read 8 (.read 12 (.read 13 (.read 14 (.read 15 (.read 16 (.two 5 (.read 6 (.read 7 (.two 9 (.read 10 (.two 11 (.read 17 (.one 18 (.one 19 .done))) 18 (.one 11 (.read 17 (.one 19 .done))))) 18 (.one 9 (.read 10 (.one 11 (.read 17 (.one 19 .done)))))))) 18 (.one 5 (.read 6 (.read 7 (.one 9 (.read 10 (.one 11 (.read 17 (.one 19 .done)))))))))))))))))))) (inKA (fun _ => False) wr) (fun a' w' => ∃ z, SpotAt wr w' z (PN (mq : Int) i) mq ∧ a' = { tmps := #[.slice (some ⟨b, off, none⟩) n c, undef, .slice none 0 0, u3, .int .i64 (k : Int), .int .i64 (i : Int), .pointer (some ⟨z, 0, none⟩), u7, .int .i64 (k : Int), .slice (some ⟨b, off, none⟩) n c, .int .i64 (n : Int), .bool true, u12, u13, .int .i64 (i : Int), .slice (some ⟨b, off, none⟩) n c, .int .i64 (k : Int), .pointer (some ⟨b, off + k * 3, none⟩), .pointer (some ⟨b, off + k * 3 + 2, none⟩), .int .i64 (wq : Int), .int .i64 (4 * (wq : Int)), .bool true, u22, u23, .slice (some ⟨b, off, none⟩) n c, .int .i64 (k : Int), .pointer (some ⟨b, off + k * 3, none⟩), .pointer (some ⟨b, off + k * 3, none⟩), .int .i64 (mq : Int), .string dm, .string ((⟨#[110, 111, 100, 101, 32]⟩ : ByteArray) ++ dm), .string (((⟨#[110, 111, 100, 101, 32]⟩ : ByteArray) ++ dm) ++ ⟨#[32]⟩), .int .i64 (i : Int), .string di, .string ((((⟨#[110, 111, 100, 101, 32]⟩ : ByteArray) ++ dm) ++ ⟨#[32]⟩) ++ di), .int .i64 (PN (mq : Int) i), .slice (some ⟨b, off, none⟩) n c, .int .i64 (k : Int), .pointer (some ⟨b, off + k * 3, none⟩), .pointer (some ⟨b, off + k * 3, none⟩), .int .i64 (mq : Int), .agg #[.int .i64 (PN (mq : Int) i), .int .i64 (mq : Int)], u42, u43, u44, u45, u46, u47, u48, u49, u50, u51, u52, u53, u54, u55, u56, u57, u58, u59, u60, u61, u62, u63, u64, u65, u66, u67, u68, u69, u70, u71, u72, u73, u74, undef], defers := [] }) (by kernel_rfl) (by kernel_rfl) ?_ ?_
          rotate_left
          ·
            iterate 11 (refine walkT_read rfl (fun K hK => ?_); go_simp; refine hK _ ?_; clear hK K)
            clear cz
            have HKR : Hid (Keep (fun _ => False) wr wr.drew) := Lib.hid (Keep.refl _ wr).drew
            generalize wr.drew = V0 at *
            have hz1 : ¬ (9223372036854775807 < 5 + dm.size) := by omega
            have hz2 : ¬ (9223372036854775807 < 5 + dm.size + 1) := by omega
            have hz3 : ¬ (9223372036854775807 < 5 + dm.size + 1 + di.size) := by omega
            refine walkT_two rfl rfl (inKA.of HKR.out) (fun K hK => ?_) (fun K hK => ?_)
            rotate_left
            ·
              skip
              go_simp
              refine hK _ _ ?_; clear hK K
              have HK1 : Hid (Keep (fun _ => False) wr (V0.alloc (.cells #[.int .i64 0, .int .i64 0] 145))) := Lib.hid (HKR.out.alloc _)
              have G1 := Lib.hid (And.intro (two_cell V0 (.int .i64 0) (.int .i64 0) 145).1 (And.intro (two_cell V0 (.int .i64 0) (.int .i64 0) 145).2.1 (And.intro (two_cell V0 (.int .i64 0) (.int .i64 0) 145).2.2 HKR.out.size)))
              generalize V0.alloc (.cells #[.int .i64 0, .int .i64 0] 145) = V1 at *
              generalize V0.heap.size = z at *
              refine walkT_do rfl (inKA.of HK1.out) (fun K hK => ?_)
              go_simp
              refine (HD1.out _).mono ?_
              rintro e V2 ⟨rfl, kk⟩
              refine hK _ _ ?_; clear hK K
              have HK2 := Lib.hid (HK1.out.trans kk)
              have G2 := Lib.hid (And.intro (kk.cell G1.out.1 (fun h => h)) (And.intro (kk.cell G1.out.2.1 (fun h => h)) (And.intro (fun o => (kk.frozen (World.block_lt_of_cell? _ _ G1.out.1) (fun h => h) o).trans (G1.out.2.2.1 o)) G1.out.2.2.2)))
              clear kk
              refine walkT_read rfl (fun K hK => ?_); go_simp; refine hK _ ?_; clear hK K
              refine walkT_read rfl (fun K hK => ?_); go_simp; refine hK _ ?_; clear hK K
              refine walkT_do rfl (inKA.of HK2.out) (fun K hK => ?_)
              go_simp
              refine (HD2.out _).mono ?_
              rintro e V3 ⟨rfl, kk⟩
              refine hK _ _ ?_; clear hK K
              have HK3 := Lib.hid (HK2.out.trans kk)
              have G3 := Lib.hid (And.intro (kk.cell G2.out.1 (fun h => h)) (And.intro (kk.cell G2.out.2.1 (fun h => h)) (And.intro (fun o => (kk.frozen (World.block_lt_of_cell? _ _ G2.out.1) (fun h => h) o).trans (G2.out.2.2.1 o)) G2.out.2.2.2)))
              clear kk
              refine walkT_read rfl (fun K hK => ?_); go_simp; refine hK _ ?_; clear hK K
              refine walkT_do rfl (inKA.of HK3.out) (fun K hK => ?_)
              go_simp
              refine (HPT.out _).mono ?_
              rintro e w' ⟨rfl, rfl⟩
              refine hK _ _ ?_; clear hK K
              refine walkT_read rfl (fun K hK => ?_); go_simp; refine hK _ ?_; clear hK K
              have f0 := G3.out.1
              have f1 := G3.out.2.1
              have ff := G3.out.2.2.1
              refine walkT_do rfl (inKA.of HK3.out) (fun K hK => ?_)
              go_simp
              refine hK _ _ ?_; clear hK K
              have HY : Hid (SpotAt wr ((V3.setCell ⟨z, 0, none⟩ (.int .i64 (PN (mq : Int) i))).setCell ⟨z, 1, none⟩ (.int .i64 (mq : Int))) z (PN (mq : Int) i) mq) := Lib.hid (SpotAt.mk' HK3.out G3.out.2.2.2 f0 f1 ff)
              clear f0 f1 ff
              generalize (V3.setCell ⟨z, 0, none⟩ (.int .i64 (PN (mq : Int) i))).setCell ⟨z, 1, none⟩ (.int .i64 (mq : Int)) = Y at *
              refine ⟨inKA.of HY.out.k, ?_⟩
              exact ⟨z, HY.out, rfl⟩
            ·
              skip
              go_simp
              refine (HD1.out _).mono ?_
              rintro e V5 ⟨rfl, kk⟩
              refine hK _ _ ?_; clear hK K
              have HK5 := Lib.hid (HKR.out.trans kk)
              clear kk
              refine walkT_read rfl (fun K hK => ?_); go_simp; refine hK _ ?_; clear hK K
              refine walkT_read rfl (fun K hK => ?_); go_simp; refine hK _ ?_; clear hK K
              refine walkT_two rfl rfl (inKA.of HK5.out) (fun K hK => ?_) (fun K hK => ?_)
              rotate_left
              ·
                skip
                go_simp
                refine hK _ _ ?_; clear hK K
                have HK6 : Hid (Keep (fun _ => False) wr (V5.alloc (.cells #[.int .i64 0, .int .i64 0] 145))) := Lib.hid (HK5.out.alloc _)
                have G6 := Lib.hid (And.intro (two_cell V5 (.int .i64 0) (.int .i64 0) 145).1 (And.intro (two_cell V5 (.int .i64 0) (.int .i64 0) 145).2.1 (And.intro (two_cell V5 (.int .i64 0) (.int .i64 0) 145).2.2 HK5.out.size)))
                generalize V5.alloc (.cells #[.int .i64 0, .int .i64 0] 145) = V6 at *
                generalize V5.heap.size = z at *
                refine walkT_do rfl (inKA.of HK6.out) (fun K hK => ?_)
                go_simp
                refine (HD2.out _).mono ?_
                rintro e V7 ⟨rfl, kk⟩
                refine hK _ _ ?_; clear hK K
                have HK7 := Lib.hid (HK6.out.trans kk)
                have G7 := Lib.hid (And.intro (kk.cell G6.out.1 (fun h => h)) (And.intro (kk.cell G6.out.2.1 (fun h => h)) (And.intro (fun o => (kk.frozen (World.block_lt_of_cell? _ _ G6.out.1) (fun h => h) o).trans (G6.out.2.2.1 o)) G6.out.2.2.2)))
                clear kk
                refine walkT_read rfl (fun K hK => ?_); go_simp; refine hK _ ?_; clear hK K
                refine walkT_do rfl (inKA.of HK7.out) (fun K hK => ?_)
                go_simp
                refine (HPT.out _).mono ?_
                rintro e w' ⟨rfl, rfl⟩
                refine hK _ _ ?_; clear hK K
                refine walkT_read rfl (fun K hK => ?_); go_simp; refine hK _ ?_; clear hK K
                have f0 := G7.out.1
                have f1 := G7.out.2.1
                have ff := G7.out.2.2.1
                refine walkT_do rfl (inKA.of HK7.out) (fun K hK => ?_)
                go_simp
                refine hK _ _ ?_; clear hK K
                have HY : Hid (SpotAt wr ((V7.setCell ⟨z, 0, none⟩ (.int .i64 (PN (mq : Int) i))).setCell ⟨z, 1, none⟩ (.int .i64 (mq : Int))) z (PN (mq : Int) i) mq) := Lib.hid (SpotAt.mk' HK7.out G7.out.2.2.2 f0 f1 ff)
                clear f0 f1 ff
                generalize (V7.setCell ⟨z, 0, none⟩ (.int .i64 (PN (mq : Int) i))).setCell ⟨z, 1, none⟩ (.int .i64 (mq : Int)) = Y at *
                refine ⟨inKA.of HY.out.k, ?_⟩
                exact ⟨z, HY.out, rfl⟩
              ·
                skip
                go_simp
                refine (HD2.out _).mono ?_
                rintro e V9 ⟨rfl, kk⟩
                refine hK _ _ ?_; clear hK K
                have HK9 := Lib.hid (HK5.out.trans kk)
                clear kk
                refine walkT_read rfl (fun K hK => ?_); go_simp; refine hK _ ?_; clear hK K
                refine walkT_two rfl rfl (inKA.of HK9.out) (fun K hK => ?_) (fun K hK => ?_)
                rotate_left
                ·
                  skip
                  go_simp
                  refine hK _ _ ?_; clear hK K
                  have HK10 : Hid (Keep (fun _ => False) wr (V9.alloc (.cells #[.int .i64 0, .int .i64 0] 145))) := Lib.hid (HK9.out.alloc _)
                  have G10 := Lib.hid (And.intro (two_cell V9 (.int .i64 0) (.int .i64 0) 145).1 (And.intro (two_cell V9 (.int .i64 0) (.int .i64 0) 145).2.1 (And.intro (two_cell V9 (.int .i64 0) (.int .i64 0) 145).2.2 HK9.out.size)))
                  generalize V9.alloc (.cells #[.int .i64 0, .int .i64 0] 145) = V10 at *
                  generalize V9.heap.size = z at *
                  refine walkT_do rfl (inKA.of HK10.out) (fun K hK => ?_)
                  go_simp
                  refine (HPT.out _).mono ?_
                  rintro e w' ⟨rfl, rfl⟩
                  refine hK _ _ ?_; clear hK K
                  refine walkT_read rfl (fun K hK => ?_); go_simp; refine hK _ ?_; clear hK K
                  have f0 := G10.out.1
                  have f1 := G10.out.2.1
                  have ff := G10.out.2.2.1
                  refine walkT_do rfl (inKA.of HK10.out) (fun K hK => ?_)
                  go_simp
                  refine hK _ _ ?_; clear hK K
                  have HY : Hid (SpotAt wr ((V10.setCell ⟨z, 0, none⟩ (.int .i64 (PN (mq : Int) i))).setCell ⟨z, 1, none⟩ (.int .i64 (mq : Int))) z (PN (mq : Int) i) mq) := Lib.hid (SpotAt.mk' HK10.out G10.out.2.2.2 f0 f1 ff)
                  clear f0 f1 ff
                  generalize (V10.setCell ⟨z, 0, none⟩ (.int .i64 (PN (mq : Int) i))).setCell ⟨z, 1, none⟩ (.int .i64 (mq : Int)) = Y at *
                  refine ⟨inKA.of HY.out.k, ?_⟩
                  exact ⟨z, HY.out, rfl⟩
                ·
                  skip
                  go_simp
                  refine (HPT.out _).mono ?_
                  rintro e w' ⟨rfl, rfl⟩
                  refine hK _ _ ?_; clear hK K
                  refine walkT_read rfl (fun K hK => ?_); go_simp; refine hK _ ?_; clear hK K
                  refine walkT_do rfl (inKA.of HK9.out) (fun K hK => ?_)
                  go_simp
                  refine hK _ _ ?_; clear hK K
                  have HK13 : Hid (Keep (fun _ => False) wr (V9.alloc (.cells #[.int .i64 0, .int .i64 0] 145))) := Lib.hid (HK9.out.alloc _)
                  have G13 := Lib.hid (And.intro (two_cell V9 (.int .i64 0) (.int .i64 0) 145).1 (And.intro (two_cell V9 (.int .i64 0) (.int .i64 0) 145).2.1 (And.intro (two_cell V9 (.int .i64 0) (.int .i64 0) 145).2.2 HK9.out.size)))
                  generalize V9.alloc (.cells #[.int .i64 0, .int .i64 0] 145) = V13 at *
                  generalize V9.heap.size = z at *
                  have f0 := G13.out.1
                  have f1 := G13.out.2.1
                  have ff := G13.out.2.2.1
                  refine walkT_do rfl (inKA.of HK13.out) (fun K hK => ?_)
                  go_simp
                  refine hK _ _ ?_; clear hK K
                  have HY : Hid (SpotAt wr ((V13.setCell ⟨z, 0, none⟩ (.int .i64 (PN (mq : Int) i))).setCell ⟨z, 1, none⟩ (.int .i64 (mq : Int))) z (PN (mq : Int) i) mq) := Lib.hid (SpotAt.mk' HK13.out G13.out.2.2.2 f0 f1 ff)
                  clear f0 f1 ff
                  generalize (V13.setCell ⟨z, 0, none⟩ (.int .i64 (PN (mq : Int) i))).setCell ⟨z, 1, none⟩ (.int .i64 (mq : Int)) = Y at *
                  refine ⟨inKA.of HY.out.k, ?_⟩
                  exact ⟨z, HY.out, rfl⟩
          ·
            rintro a' Y ⟨z, hy, rfl⟩
            have HY := Lib.hid hy
            have HOY := Lib.hid (HOW.out.keep hy.k)
            clear hy hd1 hd2 HD1 HD2 HPT
            obtain ⟨x, hx⟩ : ∃ x : Mk, (⟨PN (mq : Int) i, (mq : Int), (i : Int)⟩ : Mk) = x := ⟨_, rfl⟩
            have HX := Lib.hid hx
            have HX0 : Hid (PN (mq : Int) i = x.point) := Lib.hid (by rw [← hx])
            have HX1 : Hid ((mq : Int) = x.node) := Lib.hid (by rw [← hx])
            clear hx
            have HXC0 : Hid (Y.cell? ⟨z, 0, none⟩ = some (.int .i64 x.point)) := Lib.hid (by rw [← HX0.out]; exact HY.out.c0)
            have HXC1 : Hid (Y.cell? ⟨z, 1, none⟩ = some (.int .i64 x.node)) := Lib.hid (by rw [← HX1.out]; exact HY.out.c1)
            have HLEN : Hid (S.length ≤ 100000) := Lib.hid (by rw [HS.out.2.length_eq]; exact drawK_len HV.out)
            obtain ⟨q, hq⟩ : ∃ q, S.length = q := ⟨_, rfl⟩
            have HQ := Lib.hid hq
            obtain ⟨ua, uc, bo, hue, hua⟩ : ∃ (a : Option Addr) (c bo : Nat), u3 = .slice a q c ∧ (0 < q → a = some ⟨bo, 0, none⟩) := by
              rcases HOY.out.form with ⟨h1, h2⟩ | ⟨bo, co, h1⟩
              · exact ⟨none, 0, 0, by rw [h1, ← hq, h2]; rfl, fun h => by rw [← hq, h2] at h; simp at h⟩
              · exact ⟨_, co, bo, by rw [h1, hq], fun _ => rfl⟩
            subst hue
            have HUA := Lib.hid hua
            have hq5 : q ≤ 100000 := by rw [← hq]; exact HLEN.out
            clear hq hua
            go_wp2_with fail
            go_loopg [7] q (fun g3 v wr3 => ∃ (m : Nat), v = .int .i64 (g3 : Int) ∧ g3 ≤ q ∧ wr3 = Y.drewN m ∧ Hid (∀ y ∈ S.drop g3, x.point < y.point))
            case atStart => exact ⟨0, rfl, Nat.le_refl _, rfl, Lib.hid (fun y hy => by rw [List.drop_of_length_le (by rw [HQ.out]; exact Nat.le_refl _)] at hy; cases hy)⟩
            case round =>
              obtain ⟨m, rfl, hjq, rfl, HDP⟩ := hrel
              generalize gk = j at *
              have xc := HXC0.out
              by_cases hj0 : j = 0
              · have HTK : Hid (∀ y ∈ S.take j, y.point ≤ x.point) := Lib.hid (by rw [hj0]; simp)
                have HJD : Hid (decide (0 < j) = false) := Lib.hid (decide_eq_false (by omega))
                clear hj0
                go_upto_region 10 with (fail)
                refine wp_region_walk [(false, 0), (false, 1), (false, 2), (true, 3), (true, 4), (true, 5), (true, 6), (true, 7), (true, 8), (false, 9), (false, 10), (false, 11), (false, 12)] (inKA (fun _ => False) (Y.drewN m)) (by kernel_rfl) (by kernel_rfl) ?_
                have HKN : Hid (Keep (fun _ => False) (Y.drewN m) (Y.drewN m).drew) := Lib.hid (Keep.refl _ _).drew
                have HKN0 : Hid (Keep (fun _ => False) Y (Y.drewN m).drew) := Lib.hid (((Keep.refl (fun _ => False) Y).drewN m).drew)
                generalize (Y.drewN m).drew = Y2 at *
                refine walkW_do rfl (inKA.of HKN.out) (fun K hK => ?_); go_simp; refine hK _ _ ?_; clear hK K
                refine walkW_do rfl (inKA.of HKN.out) (fun K hK => ?_); go_simp; refine hK _ _ ?_; clear hK K
                rw [HJD.out]
                refine walkW_do rfl (inKA.of HKN.out) (fun K hK => ?_); go_simp; refine hK _ _ ?_; clear hK K
                iterate 6 (refine walkW_read rfl (fun K hK => ?_); go_simp; refine hK _ ?_; clear hK K)
                iterate 4 (refine walkW_do rfl (inKA.of HKN.out) (fun K hK => ?_); go_simp; refine hK _ _ ?_; clear hK K)
                refine ⟨inKA.of HKN.out, ?_⟩
                clear xc
                have HOY2 := Lib.hid (HOY.out.keep HKN0.out)
                have HKY2 := HKN0
                have x0 := HKY2.out.cell HXC0.out (fun h => h)
                have x1 := HKY2.out.cell HXC1.out (fun h => h)
                obtain ⟨g, gc', Y3, hr, hown3, kp, hg⟩ := HOY2.out.snoc x HLEN.out
                rw [HQ.out] at hr hown3
                have HR := Lib.hid hr
                have HOY3 := Lib.hid hown3
                have hzu : ∀ jj, (Value.slice ua q uc).ownBlock = some jj → jj < z := fun jj e => Nat.lt_of_lt_of_le (HOW.out.2.lt jj e).2 HY.out.lo
                have hgz : g ≠ z := by
                  rcases hg with hg | hg
                  · have := hzu g hg; omega
                  · have := World.block_lt_of_cell? _ _ x0; simp only [] at this; omega
                have HX30 := Lib.hid (kp.cell x0 (fun e => by have := hzu z e; omega))
                have HX31 := Lib.hid (kp.cell x1 (fun e => by have := hzu z e; omega))
                have HKY3 := Lib.hid kp
                clear hr hown3 kp hg
                go_wp2_with (at_builtin; refine wpList_app rfl (.tmp 59) (.tmp 61) 142 rfl rfl rfl HR.out ?_)
                clear x0 x1
                have hjz0 : (0 : Int) ≤ (j : Int) := by omega
                have hjq0 : (j : Int) ≤ (q : Int) := by omega
                have hj1 : (0 : Int) ≤ (j : Int) + 1 := by omega
                have hj2 : (j : Int) ≤ (q : Int) + 1 := by omega
                have hwj : IntKind.i64.wrap ((j : Int) + 1) = (j : Int) + 1 := wrapI (by unfold I64; omega)
                go_upto_region 13 with (fail)
                refine wp_region_walk [(true, 0), (true, 1), (true, 2), (true, 3), (true, 4), (false, 5), (false, 6), (false, 7)] (inKA (fun jj => jj = g) Y3) (by kernel_rfl) (by kernel_rfl) ?_
                have HKD : Hid (Keep (fun jj => jj = g) Y3 Y3.drew) := Lib.hid (Keep.refl _ Y3).drew
                have HKD0 : Hid (Keep (fun _ => False) Y3 Y3.drew) := Lib.hid (Keep.refl _ Y3).drew
                generalize Y3.drew = Y4 at *
                iterate 5 (refine walkW_read rfl (fun K hK => ?_); go_simp; refine hK _ ?_; clear hK K)
                iterate 2 (refine walkW_do rfl (inKA.of HKD.out) (fun K hK => ?_); go_simp; refine hK _ _ ?_; clear hK K)
                have HOY4 := Lib.hid (HOY3.out.keep HKD0.out)
                have hgc : q + 1 ≤ gc' := by
                  rcases HOY4.out.2.2 with ⟨e, _⟩ | ⟨g', c', cur, e, _, _, h1, _⟩
                  · cases e
                  · obtain ⟨_, _, e3⟩ := Value.slice.inj e
                    have h2 := HQ.out
                    rw [List.length_append, h2] at h1
                    have h3 : [x].length = 1 := rfl
                    omega
                have hown4 := HOY4.out.2
                rw [List.length_append, HQ.out] at hown4
                obtain ⟨Y5, hcp, hown5, kcp⟩ := copy_within (P := Tryz.prog) hown4 (flatS_cell _) 142 142 3 145 Tryz.underlying142 infoSp2
                  (if gc' = j + 1 then some ⟨g, 0, none⟩ else some ⟨g, (j + 1) * 2, none⟩) (if gc' = j then some ⟨g, 0, none⟩ else some ⟨g, j * 2, none⟩) (q - j) (gc' - (j + 1)) (q + 1 - j) (gc' - j) ((j + 1) * 2) (j * 2) (q - j) (by show min (q + 1 - j) (q - j) = q - j; omega)
                  (fun h => ⟨if_neg (by omega), if_neg (by omega)⟩) (by omega) (by omega)
                have HCP := Lib.hid hcp
                have HOWN5 := Lib.hid hown5
                have HKCP := Lib.hid kcp
                clear hcp hown5 kcp hown4
                refine walkW_do rfl (inKA.of HKD.out) (fun K hK => ?_)
                rw [if_pos (by simp [Region.wanted])]
                refine wp_cpy (.tmp 66) (.tmp 69) 142 rfl rfl rfl HCP.out (hK _ _ ?_); clear hK K
                refine ⟨inKA.of (HKD.out.trans HKCP.out), ?_⟩
                have hS5 : (flatS (S ++ [x])).take ((j + 1) * 2) ++ (((flatS (S ++ [x])).drop (j * 2)).take ((q - j) * 2) ++ (flatS (S ++ [x])).drop ((j + 1) * 2 + (q - j) * 2)) = flatS ((S ++ [x]).take (j + 1) ++ S.drop j) := by
                  unfold flatS
                  rw [flat_take encSp_len, flat_drop encSp_len, flat_take encSp_len, show (j + 1) * 2 + (q - j) * 2 = (q + 1) * 2 by omega, flat_drop encSp_len, List.flatMap_append, ← HQ.out, moved_eq S x (by rw [HQ.out]; omega), List.drop_of_length_le (l := S ++ [x]) (by simp)]
                  simp
                rw [hS5] at HOWN5
                clear hS5
                have x0 := HKCP.out.cell (HKD0.out.cell HX30.out (fun h => h)) (fun e => hgz e.symm)
                have x1 := HKCP.out.cell (HKD0.out.cell HX31.out (fun h => h)) (fun e => hgz e.symm)
                obtain ⟨s0, hs0⟩ : ∃ y, ((S ++ [x]).take (j + 1) ++ S.drop j)[j]? = some y := ⟨_, List.getElem?_eq_getElem (by have := HQ.out; simp only [List.length_append, List.length_take, List.length_drop, List.length_cons, List.length_nil]; omega)⟩
                have HS0 := Lib.hid hs0
                have hcl5 : (S.length + [x].length) = q + 1 := by rw [HQ.out]; rfl
                have g0 : Y5.cell? ⟨g, j * 2, none⟩ = some (.int .i64 s0.point) := by
                  rw [HOWN5.out.cellAt (j * 2) (by omega)]
                  exact flat_get encSp_len _ j s0 0 hs0 (by decide)
                have g1 : Y5.cell? ⟨g, j * 2 + 1, none⟩ = some (.int .i64 s0.node) := by
                  rw [HOWN5.out.cellAt (j * 2 + 1) (by omega)]
                  exact flat_get encSp_len _ j s0 1 hs0 (by decide)
                have gf : ∀ o, Y5.frozen? ⟨g, o, none⟩ = false := fun o => HOWN5.out.frozenAt o
                clear hs0
                have hjq1 : (j : Int) < (q : Int) + 1 := by omega
                clear hcl5
                generalize (if gc' = j + 1 then (some ⟨g, 0, none⟩ : Option Addr) else some ⟨g, (j + 1) * 2, none⟩) = adp at *
                generalize (if gc' = j then (some ⟨g, 0, none⟩ : Option Addr) else some ⟨g, j * 2, none⟩) = asp at *
                go_wp2_with fail
                clear x0 x1 g0 g1 gf
                go_roundg (4 * wq - (i + 1))
                case rel =>
                  have hlen : (S.take j ++ x :: S.drop j).length = q + 1 := by
                    have := HQ.out
                    simp only [List.length_append, List.length_take, List.length_cons, List.length_drop]
                    omega
                  have hst : ((flatS ((S ++ [x]).take (j + 1) ++ S.drop j)).set (j * 2) (.int .i64 x.point)).set (j * 2 + 1) (.int .i64 x.node) = flatS (S.take j ++ x :: S.drop j) := by
                    have e1 : (((S ++ [x]).take (j + 1) ++ S.drop j).flatMap encSp).set (j * 2) (.int .i64 x.point) = (((S ++ [x]).take (j + 1) ++ S.drop j).set j ⟨x.point, s0.node, x.i⟩).flatMap encSp := flat_set encSp_len (r := 0) (u := .int .i64 x.point) (by decide) _ j s0 ⟨x.point, s0.node, x.i⟩ HS0.out rfl
                    have h2 : (((S ++ [x]).take (j + 1) ++ S.drop j).set j ⟨x.point, s0.node, x.i⟩)[j]? = some ⟨x.point, s0.node, x.i⟩ := List.getElem?_set_self (List.getElem?_eq_some_iff.1 HS0.out).1
                    have e2 := flat_set encSp_len (r := 1) (u := .int .i64 x.node) (by decide) _ j _ x h2 rfl
                    unfold flatS
                    rw [e1, e2, List.set_set, ins_moved S x (by rw [HQ.out]; exact hjq)]
                  have h1 := ((HOWN5.out.stored (j * 2) (.int .i64 x.point)).1.stored (j * 2 + 1) (.int .i64 x.node)).1
                  rw [hst] at h1
                  have hgw : w.heap.size ≤ g := (HOY3.out.2.lt g rfl).1
                  refine ⟨i + 1, S.take j ++ x :: S.drop j, by omega, by go_num, ⟨(HOY3.out.1.trans HKD0.out).trans' ((HKCP.out.setCell (p := ⟨g, j * 2, none⟩) _ (.inl rfl)).setCell (p := ⟨g, j * 2 + 1, none⟩) _ (.inl rfl)) (fun jj e => .inr (by omega)), ?_⟩, Lib.hid ⟨?_, ?_⟩⟩
                  · rw [hlen]; exact h1
                  · exact ins_at HS.out.1 (fun y hy => by rw [← HX.out]; exact drawK_lt HV.out HM.out y (HS.out.2.mem_iff.1 hy)) HTK.out HDP.out
                  · rw [drawK_succ HM.out (by simp only [Int.toNat_natCast]; exact hil), HX.out]
                    exact (ins_perm S x j).trans (HS.out.2.append_right _)
                case measure => omega
              · obtain ⟨p, hjp⟩ : ∃ p, j = p + 1 := ⟨j - 1, by omega⟩
                clear hj0
                obtain ⟨y, hy⟩ : ∃ y, S[p]? = some y := ⟨_, List.getElem?_eq_getElem (by rw [HQ.out]; omega)⟩
                have hjz : 0 < j := by omega
                have ek : (j : Int) - 1 = (p : Int) := by omega
                have hwk : IntKind.i64.wrap (p : Int) = (p : Int) := wrapI (by unfold I64; omega)
                obtain rfl := HUA.out (by omega)
                have hp0 : (0 : Int) ≤ (p : Int) := by omega
                have hpq : (p : Int) < (q : Int) := by omega
                have yc : Y.cell? ⟨bo, p * 2, none⟩ = some (.int .i64 y.point) := by
                  have h1 := HOY.out.2
                  rw [HQ.out] at h1
                  rw [h1.cellAt (p * 2) (by omega)]
                  exact flat_get encSp_len S p y 0 hy (by decide)
                have HJP := Lib.hid hjp
                have HYS := Lib.hid hy
                clear hy hjp
                by_cases hgt : x.point < y.point
                · have HDN : Hid (∀ y ∈ S.drop p, x.point < y.point) := Lib.hid (fun y' hy' => by
                    rw [List.drop_eq_getElem_cons (by rw [HQ.out]; omega)] at hy'
                    rcases List.mem_cons.1 hy' with rfl | hy'
                    · obtain ⟨_, e⟩ := List.getElem?_eq_some_iff.1 HYS.out
                      rw [e]; exact hgt
                    · rw [← HJP.out] at hy'; exact HDP.out y' hy')
                  go_wp2_with fail
                  go_quiet (fail)
                  go_wp2_with fail
                  go_roundg p
                  case rel => exact ⟨_, by go_num, by have := HJP.out; omega, by first | rfl | exact World.drewN_drewN _ _ _, HDN⟩
                  case measure => have := HJP.out; omega
                · have HTK : Hid (∀ y ∈ S.take j, y.point ≤ x.point) := Lib.hid (fun y' hy' => by
                    obtain ⟨a1, ha1⟩ := List.mem_iff_getElem?.1 hy'
                    have hlt1 : a1 < j := by have := (List.getElem?_eq_some_iff.1 ha1).1; rw [List.length_take] at this; omega
                    rw [List.getElem?_take_of_lt hlt1] at ha1
                    have := sorted_points HS.out.1 ha1 HYS.out (by have := HJP.out; omega)
                    omega)
                  go_wp2_with fail
                  go_quiet (fail)
                  clear xc
                  have HOY2 := Lib.hid (HOY.out.keep (((Keep.refl (fun _ => False) Y).drewN m).drewN nq))
                  have HKY2 : Hid (Keep (fun _ => False) Y ((Y.drewN m).drewN nq)) := Lib.hid (((Keep.refl (fun _ => False) Y).drewN m).drewN nq)
                  generalize (Y.drewN m).drewN nq = Y2 at *
                  have x0 := HKY2.out.cell HXC0.out (fun h => h)
                  have x1 := HKY2.out.cell HXC1.out (fun h => h)
                  obtain ⟨g, gc', Y3, hr, hown3, kp, hg⟩ := HOY2.out.snoc x HLEN.out
                  rw [HQ.out] at hr hown3
                  have HR := Lib.hid hr
                  have HOY3 := Lib.hid hown3
                  have hzu : ∀ jj, (Value.slice (some ⟨bo, 0, none⟩) q uc).ownBlock = some jj → jj < z := fun jj e => Nat.lt_of_lt_of_le (HOW.out.2.lt jj e).2 HY.out.lo
                  have hgz : g ≠ z := by
                    rcases hg with hg | hg
                    · have := hzu g hg; omega
                    · have := World.block_lt_of_cell? _ _ x0; simp only [] at this; omega
                  have HX30 := Lib.hid (kp.cell x0 (fun e => by have := hzu z e; omega))
                  have HX31 := Lib.hid (kp.cell x1 (fun e => by have := hzu z e; omega))
                  have HKY3 := Lib.hid kp
                  clear hr hown3 kp hg
                  go_wp2_with (at_builtin; refine wpList_app rfl (.tmp 59) (.tmp 61) 142 rfl rfl rfl HR.out ?_)
                  clear x0 x1
                  have hjz0 : (0 : Int) ≤ (j : Int) := by omega
                  have hjq0 : (j : Int) ≤ (q : Int) := by omega
                  have hj1 : (0 : Int) ≤ (j : Int) + 1 := by omega
                  have hj2 : (j : Int) ≤ (q : Int) + 1 := by omega
                  have hwj : IntKind.i64.wrap ((j : Int) + 1) = (j : Int) + 1 := wrapI (by unfold I64; omega)
                  go_upto_region 13 with (fail)
                  refine wp_region_walk [(true, 0), (true, 1), (true, 2), (true, 3), (true, 4), (false, 5), (false, 6), (false, 7)] (inKA (fun jj => jj = g) Y3) (by kernel_rfl) (by kernel_rfl) ?_
                  have HKD : Hid (Keep (fun jj => jj = g) Y3 Y3.drew) := Lib.hid (Keep.refl _ Y3).drew
                  have HKD0 : Hid (Keep (fun _ => False) Y3 Y3.drew) := Lib.hid (Keep.refl _ Y3).drew
                  generalize Y3.drew = Y4 at *
                  iterate 5 (refine walkW_read rfl (fun K hK => ?_); go_simp; refine hK _ ?_; clear hK K)
                  iterate 2 (refine walkW_do rfl (inKA.of HKD.out) (fun K hK => ?_); go_simp; refine hK _ _ ?_; clear hK K)
                  have HOY4 := Lib.hid (HOY3.out.keep HKD0.out)
                  have hgc : q + 1 ≤ gc' := by
                    rcases HOY4.out.2.2 with ⟨e, _⟩ | ⟨g', c', cur, e, _, _, h1, _⟩
                    · cases e
                    · obtain ⟨_, _, e3⟩ := Value.slice.inj e
                      have h2 := HQ.out
                      rw [List.length_append, h2] at h1
                      have h3 : [x].length = 1 := rfl
                      omega
                  have hown4 := HOY4.out.2
                  rw [List.length_append, HQ.out] at hown4
                  obtain ⟨Y5, hcp, hown5, kcp⟩ := copy_within (P := Tryz.prog) hown4 (flatS_cell _) 142 142 3 145 Tryz.underlying142 infoSp2
                    (if gc' = j + 1 then some ⟨g, 0, none⟩ else some ⟨g, (j + 1) * 2, none⟩) (if gc' = j then some ⟨g, 0, none⟩ else some ⟨g, j * 2, none⟩) (q - j) (gc' - (j + 1)) (q + 1 - j) (gc' - j) ((j + 1) * 2) (j * 2) (q - j) (by show min (q + 1 - j) (q - j) = q - j; omega)
                    (fun h => ⟨if_neg (by omega), if_neg (by omega)⟩) (by omega) (by omega)
                  have HCP := Lib.hid hcp
                  have HOWN5 := Lib.hid hown5
                  have HKCP := Lib.hid kcp
                  clear hcp hown5 kcp hown4
                  refine walkW_do rfl (inKA.of HKD.out) (fun K hK => ?_)
                  rw [if_pos (by simp [Region.wanted])]
                  refine wp_cpy (.tmp 66) (.tmp 69) 142 rfl rfl rfl HCP.out (hK _ _ ?_); clear hK K
                  refine ⟨inKA.of (HKD.out.trans HKCP.out), ?_⟩
                  have hS5 : (flatS (S ++ [x])).take ((j + 1) * 2) ++ (((flatS (S ++ [x])).drop (j * 2)).take ((q - j) * 2) ++ (flatS (S ++ [x])).drop ((j + 1) * 2 + (q - j) * 2)) = flatS ((S ++ [x]).take (j + 1) ++ S.drop j) := by
                    unfold flatS
                    rw [flat_take encSp_len, flat_drop encSp_len, flat_take encSp_len, show (j + 1) * 2 + (q - j) * 2 = (q + 1) * 2 by omega, flat_drop encSp_len, List.flatMap_append, ← HQ.out, moved_eq S x (by rw [HQ.out]; omega), List.drop_of_length_le (l := S ++ [x]) (by simp)]
                    simp
                  rw [hS5] at HOWN5
                  clear hS5
                  have x0 := HKCP.out.cell (HKD0.out.cell HX30.out (fun h => h)) (fun e => hgz e.symm)
                  have x1 := HKCP.out.cell (HKD0.out.cell HX31.out (fun h => h)) (fun e => hgz e.symm)
                  obtain ⟨s0, hs0⟩ : ∃ y, ((S ++ [x]).take (j + 1) ++ S.drop j)[j]? = some y := ⟨_, List.getElem?_eq_getElem (by have := HQ.out; simp only [List.length_append, List.length_take, List.length_drop, List.length_cons, List.length_nil]; omega)⟩
                  have HS0 := Lib.hid hs0
                  have hcl5 : (S.length + [x].length) = q + 1 := by rw [HQ.out]; rfl
                  have g0 : Y5.cell? ⟨g, j * 2, none⟩ = some (.int .i64 s0.point) := by
                    rw [HOWN5.out.cellAt (j * 2) (by omega)]
                    exact flat_get encSp_len _ j s0 0 hs0 (by decide)
                  have g1 : Y5.cell? ⟨g, j * 2 + 1, none⟩ = some (.int .i64 s0.node) := by
                    rw [HOWN5.out.cellAt (j * 2 + 1) (by omega)]
                    exact flat_get encSp_len _ j s0 1 hs0 (by decide)
                  have gf : ∀ o, Y5.frozen? ⟨g, o, none⟩ = false := fun o => HOWN5.out.frozenAt o
                  clear hs0
                  have hjq1 : (j : Int) < (q : Int) + 1 := by omega
                  clear hcl5
                  generalize (if gc' = j + 1 then (some ⟨g, 0, none⟩ : Option Addr) else some ⟨g, (j + 1) * 2, none⟩) = adp at *
                  generalize (if gc' = j then (some ⟨g, 0, none⟩ : Option Addr) else some ⟨g, j * 2, none⟩) = asp at *
                  go_wp2_with fail
                  clear x0 x1 g0 g1 gf
                  go_roundg (4 * wq - (i + 1))
                  case rel =>
                    have hlen : (S.take j ++ x :: S.drop j).length = q + 1 := by
                      have := HQ.out
                      simp only [List.length_append, List.length_take, List.length_cons, List.length_drop]
                      omega
                    have hst : ((flatS ((S ++ [x]).take (j + 1) ++ S.drop j)).set (j * 2) (.int .i64 x.point)).set (j * 2 + 1) (.int .i64 x.node) = flatS (S.take j ++ x :: S.drop j) := by
                      have e1 : (((S ++ [x]).take (j + 1) ++ S.drop j).flatMap encSp).set (j * 2) (.int .i64 x.point) = (((S ++ [x]).take (j + 1) ++ S.drop j).set j ⟨x.point, s0.node, x.i⟩).flatMap encSp := flat_set encSp_len (r := 0) (u := .int .i64 x.point) (by decide) _ j s0 ⟨x.point, s0.node, x.i⟩ HS0.out rfl
                      have h2 : (((S ++ [x]).take (j + 1) ++ S.drop j).set j ⟨x.point, s0.node, x.i⟩)[j]? = some ⟨x.point, s0.node, x.i⟩ := List.getElem?_set_self (List.getElem?_eq_some_iff.1 HS0.out).1
                      have e2 := flat_set encSp_len (r := 1) (u := .int .i64 x.node) (by decide) _ j _ x h2 rfl
                      unfold flatS
                      rw [e1, e2, List.set_set, ins_moved S x (by rw [HQ.out]; exact hjq)]
                    have h1 := ((HOWN5.out.stored (j * 2) (.int .i64 x.point)).1.stored (j * 2 + 1) (.int .i64 x.node)).1
                    rw [hst] at h1
                    have hgw : w.heap.size ≤ g := (HOY3.out.2.lt g rfl).1
                    refine ⟨i + 1, S.take j ++ x :: S.drop j, by omega, by go_num, ⟨(HOY3.out.1.trans HKD0.out).trans' ((HKCP.out.setCell (p := ⟨g, j * 2, none⟩) _ (.inl rfl)).setCell (p := ⟨g, j * 2 + 1, none⟩) _ (.inl rfl)) (fun jj e => .inr (by omega)), ?_⟩, Lib.hid ⟨?_, ?_⟩⟩
                    · rw [hlen]; exact h1
                    · exact ins_at HS.out.1 (fun y hy => by rw [← HX.out]; exact drawK_lt HV.out HM.out y (HS.out.2.mem_iff.1 hy)) HTK.out HDP.out
                    · rw [drawK_succ HM.out (by simp only [Int.toNat_natCast]; exact hil), HX.out]
                      exact (ins_perm S x j).trans (HS.out.2.append_right _)
                  case measure => omega
        · obtain rfl : i = 4 * wq := by omega
          have hig : ¬ ((4 * wq : Nat) : Int) < 4 * (wq : Int) := by omega
          go_wp2_with fail
          go_roundg (n - (k + 1))
          case rel => exact ⟨k + 1, S, by have := HKK.out; omega, by go_num, HOW.out, Lib.hid ⟨HS.out.1, by have h := HS.out.2; rw [show 4 * wq = 4 * ((wq : Int)).toNat by rw [Int.toNat_natCast], drawK_next HM.out] at h; exact h⟩⟩
          case measure => have := HKK.out; omega
    · obtain rfl : k = n := by omega
      have HE : Hid (S = circ PN l) := Lib.hid (circ_uniq PN HV.out.asc (by rw [← drawK_all (l := l) (k := k) (by have := HL.out; omega)]; exact HS.out.2) HS.out.1)
      go_wp2_with fail
      go_ret
      exact ⟨_, rfl, by rw [← HE.out]; exact HOW.out⟩
end Go.Proofs.YtplkmbfeeegaiaaGreatDoor

/-
  drawn: the circle.
-/
namespace Go.Proofs.YtplkmbfeeegaiaaGreatDoor
open Go.RowKit Go.Shelf
open Go.Sort (grow)

theorem flatM_get : ∀ (l : List Mk) (q : Nat) (x : Mk) (r : Nat), l[q]? = some x → r < 3 → (flatM l)[q * 3 + r]? = (encMk x)[r]?
  | [], q, x, r, h, _ => by simp at h
  | y :: l, 0, x, r, h, hr => by
    simp only [List.getElem?_cons_zero, Option.some.injEq] at h
    subst h
    unfold flatM
    rw [List.flatMap_cons, Nat.zero_mul, Nat.zero_add, List.getElem?_append_left (by simp [encMk]; omega)]
  | y :: l, q + 1, x, r, h, hr => by
    simp only [List.getElem?_cons_succ] at h
    have ih := flatM_get l q x r h hr
    unfold flatM at ih ⊢
    rw [List.flatMap_cons, List.getElem?_append_right (by simp [encMk]; omega)]
    have e : (q + 1) * 3 + r - (encMk y).length = q * 3 + r := by simp [encMk]; omega
    rw [e]; exact ih
/-- Points in a slice. -/
structure Mks (W : World) (v : Value) (l : List Mk) : Prop where
  n : l.length ≤ 100000
  at_ : ∃ a c b off, v = .slice a l.length c ∧ l.length ≤ c ∧ (0 < l.length → a = some ⟨b, off, none⟩) ∧ ∀ j x, l[j]? = some x → W.cell? ⟨b, off + j * 3, none⟩ = some (.int .i64 x.point) ∧ W.cell? ⟨b, off + j * 3 + 1, none⟩ = some (.int .i64 x.node) ∧ W.cell? ⟨b, off + j * 3 + 2, none⟩ = some (.int .i64 x.i)
theorem Mks.keep {W W' : World} {A : Nat → Prop} {v : Value} {l : List Mk} (h : Mks W v l) (k : Keep A W W') (hA : ∀ b, v.ownBlock = some b → ¬ A b) : Mks W' v l := by
  obtain ⟨a, c, b, off, rfl, hc, ha, h1⟩ := h.at_
  refine ⟨h.n, a, c, b, off, rfl, hc, ha, fun j x hj => ?_⟩
  have hp : 0 < l.length := by have := (List.getElem?_eq_some_iff.1 hj).1; omega
  have hb := hA b (by rw [ha hp]; rfl)
  exact ⟨k.cell (h1 j x hj).1 hb, k.cell (h1 j x hj).2.1 hb, k.cell (h1 j x hj).2.2 hb⟩
theorem Mks.kept {W W' : World} {v : Value} {l : List Mk} (h : Mks W v l) (k : Keep (fun _ => False) W W') : Mks W' v l := h.keep k (fun _ _ h => h)

theorem holds_mks {W : World} {g : Nat} {d : Array Mk} (h : Go.Sort.HoldsK encMk 3 W g 0 d) (j : Nat) (x : Mk) (hj : d.toList[j]? = some x) : W.cell? ⟨g, 0 + j * 3, none⟩ = some (.int .i64 x.point) ∧ W.cell? ⟨g, 0 + j * 3 + 1, none⟩ = some (.int .i64 x.node) ∧ W.cell? ⟨g, 0 + j * 3 + 2, none⟩ = some (.int .i64 x.i) := by
  have hlt : j < d.size := by have := (List.getElem?_eq_some_iff.1 hj).1; simpa using this
  have hx : d[j]! = x := by
    rw [Array.getElem?_toList, Array.getElem?_eq_getElem hlt] at hj
    simp only [Option.some.injEq] at hj
    rw [getElem!_pos d j hlt]; exact hj
  have key : ∀ r, r < 3 → W.cell? ⟨g, 0 + (j * 3 + r), none⟩ = some ((encMk x)[r]!) := fun r hr => by
    have h1 := (h (j * 3 + r) (by rw [Go.Sort.size_flatK]; omega)).1
    rw [Go.Sort.get_flatK _ _ _ _ (by omega), show (j * 3 + r) / 3 = j by omega, show (j * 3 + r) % 3 = r by omega, hx] at h1
    exact h1
  exact ⟨key 0 (by decide), by have := key 1 (by decide); rwa [← Nat.add_assoc] at this, by have := key 2 (by decide); rwa [← Nat.add_assoc] at this⟩
theorem owns_holds {W : World} {lo g n cap : Nat} {l : List Mk} (h : W.ownsRow lo 165 3 (.slice (some ⟨g, 0, none⟩) n cap) l.length (flatM l)) : Go.Sort.HoldsK encMk 3 W g 0 l.toArray := by
  intro j hj
  rw [Go.Sort.size_flatK] at hj
  simp only [List.size_toArray] at hj
  have hq : j / 3 < l.length := by omega
  have hx : l[j / 3]? = some l[j / 3] := List.getElem?_eq_getElem hq
  have h1 := flatM_get l (j / 3) _ (j % 3) hx (by omega)
  rw [show j / 3 * 3 + j % 3 = j by omega] at h1
  have h2 : (encMk l[j / 3])[j % 3]? = some ((encMk l[j / 3])[j % 3]!) := by
    have : j % 3 < (encMk l[j / 3]).length := by show j % 3 < 3; omega
    rw [List.getElem?_eq_getElem this, getElem!_pos (encMk l[j / 3]) (j % 3) this]
  rw [h2] at h1
  have h3 := h.cells (g := g) rfl _ _ h1
  rw [Addr.add_lit] at h3
  refine ⟨?_, ?_⟩
  · rw [Go.Sort.get_flatK _ _ _ _ (by simpa using hj)]
    have e : (l.toArray)[j / 3]! = l[j / 3] := by rw [getElem!_pos l.toArray (j / 3) (by simpa using hq)]; simp
    rw [e]; exact h3
  · rcases h.2 with ⟨h4, _⟩ | ⟨g', cap', cur, h4, _, hh, _⟩
    · cases h4
    · cases h4
      unfold World.frozen?
      rw [hh]
      rfl
theorem keep_sort (w : World) (blk off m : Nat) (d : Array Mk) (os : Array Obj) : Keep (fun j => j = blk) w (Go.Proofs.sortWorldK encMk 3 w blk off m d os) := by
  unfold Go.Proofs.sortWorldK
  refine ⟨rfl, rfl, rfl, ?_, fun k hk hn => ?_⟩
  · rw [Go.Sort.size_grow, Go.Sort.size_putRowK]
    exact Nat.le_add_right _ _
  · unfold grow
    show ((Go.Sort.putRowK encMk 3 (Go.Sort.ahead w m) blk off d).heap ++ os)[k]? = _
    rw [Array.getElem?_append_left (by rw [Go.Sort.size_putRowK]; exact hk)]
    unfold Go.Sort.putRowK Go.Sort.putRow Go.Sort.mapBlock
    show ((Go.Sort.ahead w m).heap.modify blk _)[k]? = _
    rw [Array.getElem?_modify, if_neg (fun e => hn e.symm)]
    rfl

def DrawPost (l : List Mb) (w : World) (e : Ending) (w' : World) : Prop := ∃ v, e = .returned v ∧ Mks w' v (circ PN l) ∧ Keep (fun _ => False) w w'
theorem drawn_any (v : Value) (l : List Mb) (w : World) (h : Mbs w v l) (hv : VL l) (hT : Tab w) : Calls Tryz.prog 99 #[v] w (DrawPost l w) := by
  refine drawn_raw v l w h hv hT _ fun vo W how => ?_
  have hlen := draws_len PN l hv.ok
  have hws := hv.wsum
  rcases how.2.2 with ⟨rfl, h0⟩ | ⟨g, cap, cur, rfl, hg, hh, hcap, r⟩
  · omega
  · have hH := owns_holds how.2
    have hblk : g < W.heap.size := (Array.getElem?_eq_some_iff.1 hh).1
    have hs := sortMarks g 0 cap (draws PN l).toArray W hH hblk (by simp; omega)
    simp only [List.size_toArray] at hs
    refine hs.mono ?_
    rintro e w' ⟨rfl, d', n, os, hperm, hsort, rfl⟩
    refine ⟨rfl, _, rfl, ?_, ?_⟩
    · have hp : d'.toList.Perm (draws PN l) := by
        have h1 := hperm.2.2
        have h2 := hperm.1
        simp only [List.size_toArray] at h2
        have e1 : d'.extract 0 (draws PN l).length = d' := by rw [← h2]; exact Array.extract_size
        have e2 : ((draws PN l).toArray.extract 0 (draws PN l).length) = (draws PN l).toArray := by
          simp
        rw [e1, e2] at h1
        simpa using h1
      have hsz : d'.size = (draws PN l).length := by have := hperm.1; simpa using this
      have hso : d'.toList.Pairwise ltMk := by
        rw [List.pairwise_iff_getElem]
        intro i j hi hj hij
        have hi' : i < d'.size := by simpa using hi
        have hj' : j < d'.size := by simpa using hj
        have h1 := hsort i j (Nat.zero_le _) hij (by omega)
        rw [cmpM_lt, decide_eq_false_iff_not, getElem!_pos d' j hj', getElem!_pos d' i hi'] at h1
        have hne : d'.toList[i] ≠ d'.toList[j] := by
          have hnd : d'.toList.Nodup := hp.nodup_iff.2 (draws_nodup PN hv.asc)
          intro e
          have := (List.getElem_inj hnd).1 e
          omega
        rw [Array.getElem_toList, Array.getElem_toList] at hne ⊢
        exact (ltMk_total hne).resolve_right h1
      have hc := circ_uniq PN hv.asc hp hso
      have hcl : (circ PN l).length = (draws PN l).length := (sortMk_perm _).length_eq
      have hHd := Go.Proofs.holdsK_sortWorldK_c encMk 3 W g 0 (draws PN l).toArray d' n os hH hblk (by simpa using hsz)
      refine ⟨by rw [hcl]; omega, some ⟨g, 0, none⟩, cap, g, 0, by rw [hcl], by rw [hcl]; exact hcap, fun _ => rfl, fun j x hj => ?_⟩
      rw [← hc] at hj
      exact holds_mks hHd j x hj
    · exact how.1.trans' (keep_sort W g 0 n d' os) (fun i e => .inr (by omega))
end Go.Proofs.YtplkmbfeeegaiaaGreatDoor

/-
  BinarySearchFunc on a circle.
-/
namespace Go.Proofs.YtplkmbfeeegaiaaGreatDoor
open Go.RowKit Go.Shelf

set_option maxRecDepth 100000 in
set_option maxHeartbeats 1000000 in
theorem cmpPoint_any (x : Mk) (p : Int) (W : World) : Calls Tryz.prog 132 #[mkV x, .int .i64 p] W fun e w' => e = .returned (.int .i64 (cmpI x.point p)) ∧ Keep (fun _ => False) W w' := by
  obtain ⟨x0, x1, x2⟩ := x
  have HK : Hid (Keep (fun _ => False) W (W.alloc (.cells #[.int .i64 x0, .int .i64 x1, .int .i64 x2] 165))) := Lib.hid ((Keep.refl _ W).alloc _)
  go_enter Tryz.func132, Tryz.ntmps132
  go_wp2_with fail
  with_reducible refine (cmp_int x0 p _).mono ?_
  rintro e w' ⟨rfl, rfl⟩
  go_wp2_with fail
  go_ret
  exact ⟨rfl, HK.out⟩

theorem cmpI_neg (a b : Int) : cmpI a b < 0 ↔ a < b := by
  unfold cmpI
  split
  · simp [*]
  · split <;> simp [*]

set_option maxRecDepth 100000 in
set_option maxHeartbeats 4000000 in
theorem bsearch_any (v : Value) (c : List Mk) (p : Int) (w : World) (h : Mks w v c) (hs : c.Pairwise ltMk) :
    Calls Tryz.prog 131 #[v, .int .i64 p, .func (.func 132) #[] #[]] w fun e w' => (∃ b, e = .returned (.tuple #[.int .i64 (lows c p : Nat), .bool b])) ∧ Keep (fun _ => False) w w' := by
  obtain ⟨hn, a, cc, b, off, rfl, hc, ha, hcell⟩ := h
  have HC := Lib.hid hcell
  have HA := Lib.hid ha
  have HS := Lib.hid hs
  have hlo := lows_le c p
  clear hcell ha hs
  obtain ⟨n, hn'⟩ : ∃ n, c.length = n := ⟨_, rfl⟩
  have HL := Lib.hid hn'
  rw [hn'] at hn hc hlo ⊢
  clear hn'
  obtain ⟨lo, hlo'⟩ : ∃ lo, lows c p = lo := ⟨_, rfl⟩
  have HLO := Lib.hid hlo'
  rw [hlo'] at hlo
  clear hlo'
  go_enter Tryz.func131, Tryz.ntmps131
  go_wp2_with fail
  go_loopg [9, 10] n (fun gh v9 v10 wr => ∃ (i j : Nat), v9 = .int .i64 i ∧ v10 = .int .i64 j ∧ i ≤ lo ∧ lo ≤ j ∧ j ≤ n ∧ j - i ≤ gh ∧ Keep (fun _ => False) w wr)
  case atStart => exact ⟨0, n, rfl, rfl, by omega, hlo, by omega, by omega, Keep.refl _ _⟩
  case round =>
    obtain ⟨i, j, rfl, rfl, hi, hj, hjn, hg, hkeep⟩ := hrel
    have HK := Lib.hid hkeep
    clear hkeep
    by_cases hij : i < j
    · obtain ⟨q, hq⟩ : ∃ q : Nat, (i + j) / 2 = q := ⟨_, rfl⟩
      have hq1 : i ≤ q := by omega
      have hq2 : q < j := by omega
      obtain ⟨x, hx⟩ : ∃ x, c[q]? = some x := ⟨_, List.getElem?_eq_getElem (by have := HL.out; omega)⟩
      obtain rfl := HA.out (by have := HL.out; omega)
      have c0 := HK.out.cell (HC.out q x hx).1 (fun h => h)
      have c1 := HK.out.cell (HC.out q x hx).2.1 (fun h => h)
      have c2 := HK.out.cell (HC.out q x hx).2.2 (fun h => h)
      have HB : Hid (x.point < p ↔ q < lo) := Lib.hid (by rw [← HLO.out]; exact lows_below HS.out p hx)
      clear hx
      have hijz : (i : Int) < (j : Int) := by omega
      have e1 : ((i : Int) + (j : Int)) / 2 = (q : Int) := by omega
      obtain ⟨x0, x1, x2⟩ := x
      simp only [] at c0 c1 c2 HB
      go_wp2_with fail
      clear c0 c1 c2
      with_reducible refine (cmpPoint_any ⟨x0, x1, x2⟩ p _).mono ?_
      rintro e W2 ⟨rfl, k2⟩
      have HK2 := Lib.hid (HK.out.trans k2)
      have HN := Lib.hid (cmpI_neg x0 p)
      clear k2
      simp only []
      generalize cmpI x0 p = z at *
      by_cases hz : z < 0
      · have hql := HB.out.1 (HN.out.1 hz)
        go_wp2_with fail
        go_roundg (j - (q + 1))
        case rel => exact ⟨q + 1, j, by go_num, rfl, by omega, by omega, by omega, by omega, HK2.out⟩
        case measure => omega
      · have hql : ¬ q < lo := fun h => hz (HN.out.2 (HB.out.2 h))
        go_wp2_with fail
        go_roundg (q - i)
        case rel => exact ⟨i, q, rfl, rfl, by omega, by omega, by omega, by omega, HK2.out⟩
        case measure => omega
    · obtain rfl : i = j := by omega
      obtain rfl : i = lo := by omega
      by_cases hin : i < n
      · obtain ⟨x, hx⟩ : ∃ x, c[i]? = some x := ⟨_, List.getElem?_eq_getElem (by have := HL.out; omega)⟩
        obtain rfl := HA.out (by have := HL.out; omega)
        have c0 := HK.out.cell (HC.out i x hx).1 (fun h => h)
        have c1 := HK.out.cell (HC.out i x hx).2.1 (fun h => h)
        have c2 := HK.out.cell (HC.out i x hx).2.2 (fun h => h)
        clear hx
        have hinz : (i : Int) < (n : Int) := by omega
        have hi0 : (0 : Int) ≤ (i : Int) := by omega
        obtain ⟨x0, x1, x2⟩ := x
        simp only [] at c0 c1 c2
        go_wp2_with fail
        with_reducible refine (cmpPoint_any ⟨x0, x1, x2⟩ p _).mono ?_
        rintro e W2 ⟨rfl, k2⟩
        have HK2 := Lib.hid (HK.out.trans k2)
        clear k2 c0 c1 c2
        simp only []
        generalize cmpI x0 p = z at *
        go_wp2_with fail
        refine bodyPost_ret (v := .tuple #[.int .i64 i, .bool (z == 0)]) (by simp [results, Tryz.results131, go_sem]) rfl ?_
        exact ⟨⟨_, by rw [HLO.out]⟩, HK2.out⟩
      · have hinz : ¬ (i : Int) < (n : Int) := by omega
        go_wp2_with fail
        refine bodyPost_ret (v := .tuple #[.int .i64 i, .bool false]) (by simp [results, Tryz.results131, go_sem]) rfl ?_
        exact ⟨.inl (by rw [HLO.out]), HK.out⟩
end Go.Proofs.YtplkmbfeeegaiaaGreatDoor

/-
  The points of package reshard: their order, the circle.
-/
namespace Go.Proofs.YtplkmbfeeegaiaaGreatDoor
open Go.RowKit Go.Shelf
open Go.Sort (grow)

/-- A point as a value. -/
abbrev ptV (x : Mk) : Value := .agg #[.int .i64 x.point, .int .i64 x.node]
def cmpPt (x y : Mk) : Int := orL [cmpI x.point y.point, cmpI x.node y.node]
set_option maxRecDepth 100000 in
set_option maxHeartbeats 2000000 in
theorem cmpPt_any (x y : Mk) (W : World) : Calls Tryz.prog 107 #[ptV x, ptV y] W fun e w' => e = .returned (.int .i64 (cmpPt x y)) ∧ ∃ q os', w' = grow (W.drewN q) os' := by
  obtain ⟨x0, x1, x2⟩ := x
  obtain ⟨y0, y1, y2⟩ := y
  have t1 := two_cell W (.int .i64 x0) (.int .i64 x1) 103
  have t2 := two_cell (W.alloc (.cells #[.int .i64 x0, .int .i64 x1] 103)) (.int .i64 y0) (.int .i64 y1) 103
  have k1 : Keep (fun _ => False) W (W.alloc (.cells #[.int .i64 x0, .int .i64 x1] 103)) := (Keep.refl _ W).alloc _
  have k2 : Keep (fun _ => False) (W.alloc (.cells #[.int .i64 x0, .int .i64 x1] 103)) ((W.alloc (.cells #[.int .i64 x0, .int .i64 x1] 103)).alloc (.cells #[.int .i64 y0, .int .i64 y1] 103)) := (Keep.refl _ _).alloc _
  have HX := Lib.hid (And.intro (k2.cell t1.1 (fun h => h)) (k2.cell t1.2.1 (fun h => h)))
  have HY := Lib.hid t2
  have HK := Lib.hid (k1.trans k2)
  have HD : Hid (W.drawn ≤ ((W.alloc (.cells #[.int .i64 x0, .int .i64 x1] 103)).alloc (.cells #[.int .i64 y0, .int .i64 y1] 103)).drawn) := Lib.hid (Nat.le_refl _)
  rw [World.size_alloc] at HY
  have HC : Hid (cmpPt ⟨x0, x1, x2⟩ ⟨y0, y1, y2⟩ = orL [cmpI x0 y0, cmpI x1 y1]) := Lib.hid rfl
  clear t1 t2 k1 k2
  go_enter Tryz.func107, Tryz.ntmps107
  go_wp2_with fail
  generalize (W.alloc (.cells #[.int .i64 x0, .int .i64 x1] 103)).alloc (.cells #[.int .i64 y0, .int .i64 y1] 103) = W1 at *
  generalize W.heap.size = z at *
  have a0 : ∀ p : KA (fun _ => False) W1, p.val.cell? ⟨z, 0, none⟩ = some (.int .i64 x0) := fun p => p.k.cell HX.out.1 (fun h => h)
  have a1 : ∀ p : KA (fun _ => False) W1, p.val.cell? ⟨z, 1, none⟩ = some (.int .i64 x1) := fun p => p.k.cell HX.out.2 (fun h => h)
  have b0 : ∀ p : KA (fun _ => False) W1, p.val.cell? ⟨z + 1, 0, none⟩ = some (.int .i64 y0) := fun p => p.k.cell HY.out.1 (fun h => h)
  have b1 : ∀ p : KA (fun _ => False) W1, p.val.cell? ⟨z + 1, 1, none⟩ = some (.int .i64 y1) := fun p => p.k.cell HY.out.2.1 (fun h => h)
  refine wp_region_walk [(true, 0), (true, 1), (true, 2), (true, 3), (true, 5), (true, 6), (true, 7), (true, 8), (false, 4), (false, 9), (false, 10), (false, 11), (false, 12)] (inKA (fun _ => False) W1) (by kernel_rfl) (by kernel_rfl) ?_
  iterate 8 (refine walkW_read rfl (fun K hK => ?_); go_simp; refine hK _ ?_; clear hK K)
  clear a0 a1 b0 b1
  have HK1 : Hid (Keep (fun _ => False) W1 W1.drew) := Lib.hid (Keep.refl _ W1).drew
  refine walkW_do rfl (inKA.of HK1.out) (fun K hK => ?_)
  go_simp
  refine (cmp_int x0 y0 _).mono ?_
  rintro e w' ⟨rfl, rfl⟩
  refine hK _ _ ?_; clear hK K
  refine walkW_do rfl (inKA.of HK1.out) (fun K hK => ?_)
  go_simp
  refine (cmp_int x1 y1 _).mono ?_
  rintro e w' ⟨rfl, rfl⟩
  refine hK _ _ ?_; clear hK K
  have q0 := cmpI_bd x0 y0
  have q1 := cmpI_bd x1 y1
  generalize cmpI x0 y0 = m0 at *
  generalize cmpI x1 y1 = m1 at *
  refine walkW_do rfl (inKA.of HK1.out) (fun K hK => ?_)
  go_simp
  refine hK _ _ ?_; clear hK K
  have HI : Hid (Its (W1.alloc (.cells #[.int .i64 m0, .int .i64 m1] 3)).drew (.slice (some ⟨W1.heap.size, 0, none⟩) 2 2) [m0, m1]) := Lib.hid ((its_new W1 [m0, m1] (by simp) (by
    intro x hx
    simp only [List.mem_cons, List.not_mem_nil, or_false] at hx
    rcases hx with rfl | rfl <;> assumption)).kept (Keep.refl _ _).drew)
  have HK2 : Hid (Keep (fun _ => False) W1 (W1.alloc (.cells #[.int .i64 m0, .int .i64 m1] 3)).drew) := Lib.hid ((Keep.refl _ W1).alloc _).drew
  have HD2 : Hid (W.drawn ≤ (W1.alloc (.cells #[.int .i64 m0, .int .i64 m1] 3)).drew.drawn) := Lib.hid (Nat.le_succ_of_le HD.out)
  generalize (W1.alloc (.cells #[.int .i64 m0, .int .i64 m1] 3)).drew = W2 at *
  refine walkW_do rfl (inKA.of HK2.out) (fun K hK => ?_)
  go_simp
  refine (cmp_or _ [m0, m1] _ HI.out).mono ?_
  rintro e w' ⟨rfl, rfl⟩
  refine hK _ _ ?_; clear hK K
  refine walkW_do rfl (inKA.of HK2.out) (fun K hK => ?_)
  go_simp
  refine hK _ _ ?_; clear hK K
  refine ⟨inKA.of HK2.out, ?_⟩
  go_wp2_with fail
  go_ret
  exact ⟨by rw [HC.out]; rfl, grow_of_keep (HK.out.trans HK2.out) HD2.out⟩
def ltPt (a b : Mk) : Prop := a.point < b.point ∨ (a.point = b.point ∧ a.node < b.node)
instance (a b : Mk) : Decidable (ltPt a b) := by unfold ltPt; infer_instance
theorem cmpPt_neg (x y : Mk) : cmpPt x y < 0 ↔ ltPt x y := by
  unfold cmpPt ltPt
  have c : ∀ a b : Int, (a < b ∧ cmpI a b = -1) ∨ (a = b ∧ cmpI a b = 0) ∨ (b < a ∧ cmpI a b = 1) := fun a b => by
    unfold cmpI
    rcases Int.lt_trichotomy a b with h | h | h
    · exact .inl ⟨h, by rw [if_pos h]⟩
    · exact .inr (.inl ⟨h, by rw [if_neg (by omega), if_neg (by omega)]⟩)
    · exact .inr (.inr ⟨h, by rw [if_neg (by omega), if_pos h]⟩)
  simp only [orL]
  rcases c x.point y.point with ⟨h1, e1⟩ | ⟨h1, e1⟩ | ⟨h1, e1⟩
  · rw [e1, if_neg (by omega)]; omega
  · rw [e1, if_pos rfl]
    rcases c x.node y.node with ⟨h2, e2⟩ | ⟨h2, e2⟩ | ⟨h2, e2⟩
    · rw [e2, if_neg (by omega)]; omega
    · rw [e2, if_pos rfl]; omega
    · rw [e2, if_neg (by omega)]; omega
  · rw [e1, if_neg (by omega)]; omega
theorem cmpPt_lt (x y : Mk) : Go.Proofs.ltOf cmpPt x y = decide (ltPt x y) := by
  unfold Go.Proofs.ltOf
  exact decide_eq_decide.2 (cmpPt_neg x y)
theorem swoPt : Go.Sort.SWO (Go.Proofs.ltOf cmpPt) where
  irrefl x := by rw [cmpPt_lt, decide_eq_false_iff_not]; unfold ltPt; omega
  trans x y z h1 h2 := by rw [cmpPt_lt, decide_eq_true_eq] at *; unfold ltPt at *; omega
  ntrans x y z h1 h2 := by rw [cmpPt_lt, decide_eq_false_iff_not] at *; unfold ltPt at *; omega
theorem cmpLaysPt (blk off size : Nat) (w : World) : Go.Proofs.CmpLays Tryz.prog 107 #[] encSp 2 cmpPt blk off size w := fun _ _ _ _ x y => cmpPt_any x y _
open Go.Sort in
theorem sortPts (blk off cap : Nat) (d : Array Mk) (w : World) (hH : Go.Sort.HoldsK encSp 2 w blk off d) (hblk : blk < w.heap.size) (hsz : d.size < 1000000) :
    Calls Tryz.prog 106 #[.slice (some ⟨blk, off, none⟩) d.size cap, .func (.func 107) #[] #[]] w fun e w' =>
      e = .returned (.tuple #[]) ∧ ∃ d' n os, PermIn 0 d.size d d' ∧ SortedIn (Go.Proofs.ltOf cmpPt) 0 d.size d' ∧ w' = Go.Proofs.sortWorldK encSp 2 w blk off n d' os := by
  have eg : ∀ args w, (callFunc 107 args).run Tryz.prog w = .ok (.enter 107 args) w := enters_of Tryz.func107 (by kernel_rfl) rfl
  have h := Go.Proofs.AnyQ.slices_SortFunc Tryz.sortPoint 2 Tryz.isAgg103 Tryz.sizeOf103 encSp (fun _ => rfl) (fun x v hv => by simp [encSp] at hv; rcases hv with rfl | rfl <;> rfl) cmpPt swoPt 107 #[] blk off cap d w eg (cmpLaysPt blk off d.size w) hH hblk (by omega)
  change Calls Tryz.prog 106 _ _ _ at h
  exact h

/-- Two lists of the same points, in order: alike but for the numbers of the points. -/
def keyPt (x : Mk) : Mk := ⟨x.point, x.node, 0⟩
theorem le_uniq : ∀ {a b : List Mk}, a.Pairwise (fun x y => ¬ ltMk y x) → b.Pairwise (fun x y => ¬ ltMk y x) → a.Perm b → a = b
  | [], b, _, _, h => h.nil_eq
  | x :: a, b, ha, hb, h => by
    cases b with
    | nil => exact absurd h.length_eq (by simp)
    | cons y b =>
      rw [List.pairwise_cons] at ha hb
      have hxy : x = y := by
        by_cases e : x = y
        · exact e
        · have h1 : y ∈ a := by
            rcases List.mem_cons.1 (h.mem_iff.2 (List.mem_cons_self)) with e' | h'
            · exact absurd e'.symm e
            · exact h'
          have h2 : x ∈ b := by
            rcases List.mem_cons.1 (h.mem_iff.1 (List.mem_cons_self)) with e' | h'
            · exact absurd e' e
            · exact h'
          rcases ltMk_total e with h3 | h3
          · exact absurd h3 (hb.1 x h2)
          · exact absurd h3 (ha.1 y h1)
      subst hxy
      rw [le_uniq ha.2 hb.2 (List.Perm.cons_inv h)]
theorem key_circ {l : List Mb} (hv : VL l) {d : List Mk} (hp : d.Perm (draws PN l)) (hs : d.Pairwise (fun x y => ¬ ltPt y x)) : d.map keyPt = (circ PN l).map keyPt := by
  refine le_uniq ?_ ?_ ((hp.trans (sortMk_perm _).symm).map keyPt)
  · rw [List.pairwise_map]
    refine hs.imp ?_
    intro a b h
    unfold keyPt ltMk
    unfold ltPt at h
    simp only []
    omega
  · rw [List.pairwise_map]
    refine (circ_sorted PN hv.asc).imp ?_
    intro a b h
    unfold keyPt ltMk
    unfold ltMk at h
    simp only []
    omega

/-- Points in a slice of their own. -/
def OwnP (w : World) (l : List Mk) (v : Value) (W : World) : Prop := Keep (fun _ => False) w W ∧ W.ownsRow w.heap.size 103 2 v l.length (flatS l)
theorem OwnP.nil {w W : World} (k : Keep (fun _ => False) w W) : OwnP w [] (.slice none 0 0) W := ⟨k, by simpa [flatS] using World.ownsRow_nil W w.heap.size 103 2⟩
theorem OwnP.keep {w W W' : World} {l : List Mk} {v : Value} (h : OwnP w l v W) (k : Keep (fun _ => False) W W') : OwnP w l v W' := ⟨h.1.trans k, ownsRow_keep h.2 k (fun _ _ h => h)⟩
theorem OwnP.form {w W : World} {l : List Mk} {v : Value} (h : OwnP w l v W) : v = .slice none 0 0 ∨ ∃ b n c, v = .slice (some ⟨b, 0, none⟩) n c := by
  rcases h.2.2 with ⟨rfl, _⟩ | ⟨g', cap, cur, rfl, _⟩
  · exact .inl rfl
  · exact .inr ⟨_, _, _, rfl⟩
theorem infoPt : (Tryz.prog.info? 103).map (fun i => (i.zero, i.size, i.bytes)) = some (some (.agg #[.int .i64 0, .int .i64 0]), 2, 16) := by kernel_rfl
theorem OwnP.snoc {w W : World} {l : List Mk} {v : Value} (h : OwnP w l v W) (x : Mk) (hl : l.length ≤ 100000) :
    ∃ v' w', (Builtin.append_ #[97, 97] 97 #[v, .slice (some ⟨W.heap.size, 0, none⟩) 1 1]).run Tryz.prog (W.alloc (.cells #[.int .i64 x.point, .int .i64 x.node] 103)) = .ok v' w' ∧ OwnP w (l ++ [x]) v' w' ∧ Keep (fun j => v.ownBlock = some j) W w' ∧ (v'.ownBlock = v.ownBlock ∨ v'.ownBlock = some (W.heap.size + 1)) := by
  obtain ⟨v', w', r1, r2, r3, r4, -⟩ := app_one 97 103 2 16 _ Tryz.underlying97 infoPt rfl (by decide) (by decide) W 97 w.heap.size v l.length (flatS l) (encSp x) h.2 rfl (by simp [encSp, Value.oneCell']) (by omega) h.1.size
  refine ⟨v', w', r1, ⟨h.1.trans' r3 (fun j e => .inr (h.2.lt j e).1), ?_⟩, r3, r4⟩
  rw [flatS_append, flatS_one, List.length_append]
  exact r2

set_option maxRecDepth 100000 in
set_option maxHeartbeats 4000000 in
theorem circleP_raw (v : Value) (l : List Mb) (w : World) (h : Mbs w v l) (hv : VL l) (hT : Tab w) (Q : Ending → World → Prop)
    (hQ : ∀ vo W, OwnP w (draws PN l) vo W → Calls Tryz.prog 106 #[vo, .func (.func 107) #[] #[]] W fun e w' => e = .returned (.tuple #[]) ∧ Q (.returned vo) w') :
    Calls Tryz.prog 69 #[v] w Q := by
  obtain ⟨hn, hbd, a, c, b, off, rfl, hc, ha, hcell⟩ := h
  have HC := Lib.hid hcell
  have HA := Lib.hid ha
  have HV := Lib.hid hv
  have HQ := Lib.hid hQ
  have HT := Lib.hid hT
  have HGN : Hid (0 < w.heap.size) := Lib.hid (World.block_lt_of_cell? _ _ (hT 0 (by decide)))
  clear hcell ha hbd hv hQ hT
  obtain ⟨n, hn'⟩ : ∃ n, l.length = n := ⟨_, rfl⟩
  have HL := Lib.hid hn'
  rw [hn'] at hn hc ⊢
  clear hn'
  go_enter Tryz.func69, Tryz.ntmps69
  go_wp2_with fail
  go_loopg [3, 9] n (fun gh v3 v wr => ∃ (k : Nat), gh + k = n ∧ v = .int .i64 k ∧ OwnP w (drawK l k 0) v3 wr)
  case atStart => exact ⟨0, by omega, rfl, by rw [drawK_zero]; exact OwnP.nil (Keep.refl _ _)⟩
  case round =>
    obtain ⟨k, hk, rfl, how⟩ := hrel
    have HOW := Lib.hid how
    clear how
    by_cases hlt : k < n
    · obtain ⟨m, hm⟩ : ∃ m, l[k]? = some m := ⟨_, List.getElem?_eq_getElem (by have := HL.out; omega)⟩
      obtain rfl := HA.out (by have := HL.out; omega)
      have c0 := HOW.out.1.cell (HC.out k m hm).1 (fun h => h)
      have c1 := HOW.out.1.cell (HC.out k m hm).2.1 (fun h => h)
      have c2 := HOW.out.1.cell (HC.out k m hm).2.2 (fun h => h)
      have HM := Lib.hid hm
      have hok := HV.out.ok m (List.mem_of_getElem? hm)
      unfold okMb at hok
      have hkz : (k : Int) < (n : Int) := by omega
      have hk0 : (0 : Int) ≤ (k : Int) := by omega
      clear hm
      obtain ⟨mn, mr, mw⟩ := m
      simp only [] at c0 c1 c2 hok
      have HK2 : Hid (OwnP w (drawK l k 0) u3 (wr.alloc (.cells #[.int .i64 mn, .int .i64 mr, .int .i64 mw] 35))) := Lib.hid (HOW.out.keep ((Keep.refl _ wr).alloc _))
      have HT3 := Lib.hid (three_cell wr (.int .i64 mn) (.int .i64 mr) (.int .i64 mw) 35)
      have HZ : Hid (w.heap.size ≤ wr.heap.size) := Lib.hid HOW.out.1.size
      go_wp2_with fail
      clear c0 c1 c2
      generalize wr.alloc (.cells #[.int .i64 mn, .int .i64 mr, .int .i64 mw] 35) = W2 at *
      have HOB : Hid (∀ j, u3.ownBlock = some j → j ≠ wr.heap.size) := Lib.hid (fun j e => by have := (HOW.out.2.lt j e).2; omega)
      generalize wr.heap.size = z at *
      obtain ⟨mq, rfl⟩ : ∃ mq : Nat, mn = mq := ⟨mn.toNat, by omega⟩
      obtain ⟨wq, rfl⟩ : ∃ wq : Nat, mw = wq := ⟨mw.toNat, by omega⟩
      go_loopg [3, 16] (4 * wq) (fun g2 v3 v wr2 => ∃ i : Nat, g2 + i = 4 * wq ∧ v = .int .i64 i ∧ OwnP w (drawK l k i) v3 wr2 ∧ wr2.cell? ⟨z, 0, none⟩ = some (.int .i64 mq) ∧ ∀ j, v3.ownBlock = some j → j ≠ z)
      case atStart => exact ⟨0, by omega, rfl, HK2.out, HT3.out.1, HOB.out⟩
      case round =>
        clear HK2 HT3 HOB HOW
        obtain ⟨i, hi, rfl, how, hcz, hob⟩ := hrel
        have HOW := Lib.hid how
        have HOB := Lib.hid hob
        have HCZ := Lib.hid hcz
        clear how hob hcz
        by_cases hil : i < 4 * wq
        · have hiz : (i : Int) < 4 * (wq : Int) := by omega
          have hi0 : (0 : Int) ≤ (i : Int) := by omega
          have hi100 : i < 100 := by omega
          have hm100 : mq < 100 := by omega
          have HF := Lib.hid HOW.out.form
          have HOT : Hid (∀ p : KA (fun j => u3.ownBlock = some j) wr, Tab p.val) := Lib.hid (fun p => (HT.out.kept HOW.out.1).keep p.k (fun e => by have := (HOW.out.2.lt _ e).1; have := HGN.out; omega))
          go_upto_region 8 with (fail)
          have cz : ∀ p : KA (fun j => u3.ownBlock = some j) wr, p.val.cell? ⟨z, 0, none⟩ = some (.int .i64 mq) := fun p => p.k.cell HCZ.out (fun e => HOB.out z e rfl)
          have hd1 : (dig mq).size ≤ 2 := dig_size hm100
          have hd2 : (dig i).size ≤ 2 := dig_size hi100
          have HD1 : Hid (∀ W, Calls Tryz.prog 71 #[.int .i64 (mq : Int)] W fun e w' => e = .returned (.string (dig mq)) ∧ w' = W) := Lib.hid (fun W => (itoa_small mq hm100 W).mono fun e w' h => ⟨h.1, h.2.symm⟩)
          have HD2 : Hid (∀ W, Calls Tryz.prog 71 #[.int .i64 (i : Int)] W fun e w' => e = .returned (.string (dig i)) ∧ w' = W) := Lib.hid (fun W => (itoa_small i hi100 W).mono fun e w' h => ⟨h.1, h.2.symm⟩)
          have HPT : Hid (∀ W, inKA (fun j => u3.ownBlock = some j) wr W → Calls Tryz.prog 70 #[.string (((⟨#[110, 111, 100, 101, 32]⟩ : ByteArray) ++ dig mq) ++ ⟨#[32]⟩ ++ dig i)] W fun e w' => e = .returned (.int .i64 (PN (mq : Int) i)) ∧ w' = W) := Lib.hid (fun W hW => by
            rw [nodeT_ref]
            obtain ⟨p, rfl⟩ := hW
            have ht := HOT.out p
            exact (point_any _ (nodeT_size (by rw [Int.toNat_natCast]; omega) (by omega)) p.val ht).mono fun e w' h => ⟨h.1, h.2.symm⟩)
          generalize dig mq = dm at *
          generalize dig i = di at *
          have hz1 : ¬ (9223372036854775807 < 5 + dm.size) := by omega
          have hz2 : ¬ (9223372036854775807 < 5 + dm.size + 1) := by omega
          have hz3 : ¬ (9223372036854775807 < 5 + dm.size + 1 + di.size) := by omega
          refine wp_region_walk [(true, 0), (true, 1), (true, 2), (true, 3), (true, 4), (true, 5), (true, 6), (true, 7), (true, 8), (true, 9), (true, 10), (true, 11), (true, 12), (false, 13), (false, 14), (false, 15)] (inKA (fun j => u3.ownBlock = some j) wr) (by kernel_rfl) (by kernel_rfl) ?_
          iterate 3 (refine walkW_read rfl (fun K hK => ?_); go_simp; refine hK _ ?_; clear hK K)
          refine walkW_read rfl (fun K hK => ?_)
          go_simp
          refine ⟨_, fun p => HD1.out p.val, hK _ ?_⟩; clear hK K
          iterate 3 (refine walkW_read rfl (fun K hK => ?_); go_simp; refine hK _ ?_; clear hK K)
          refine walkW_read rfl (fun K hK => ?_)
          go_simp
          refine ⟨_, fun p => HD2.out p.val, hK _ ?_⟩; clear hK K
          refine walkW_read rfl (fun K hK => ?_); go_simp; refine hK _ ?_; clear hK K
          refine walkW_read rfl (fun K hK => ?_)
          go_simp
          refine ⟨_, fun p => HPT.out p.val ⟨p, rfl⟩, hK _ ?_⟩; clear hK K
          iterate 3 (refine walkW_read rfl (fun K hK => ?_); go_simp; refine hK _ ?_; clear hK K)
          clear cz hz1 hz2 hz3
          have HK1' : Hid (Keep (fun j => u3.ownBlock = some j) wr wr.drew) := Lib.hid (Keep.refl _ wr).drew
          have HKD : Hid (Keep (fun _ => False) wr wr.drew) := Lib.hid (Keep.refl _ wr).drew
          have HSZD : Hid (z < wr.drew.heap.size) := Lib.hid (World.block_lt_of_cell? _ _ HCZ.out)
          generalize wr.drew = V1 at *
          obtain ⟨v', W3, hr, how3, hk3, hob3⟩ := (HOW.out.keep HKD.out).snoc ⟨PN (mq : Int) i, mq, i⟩ (drawK_len HV.out)
          simp only [] at hr
          have HN : Hid (OwnP w (drawK l k (i + 1)) v' W3) := Lib.hid (by
            rw [drawK_succ HM.out (by show i < 4 * (wq : Int).toNat; rw [Int.toNat_natCast]; omega)]
            exact how3)
          have HK3 : Hid (Keep (fun j => u3.ownBlock = some j) wr W3) := Lib.hid (HK1'.out.trans hk3)
          have HCZ3 : Hid (W3.cell? ⟨z, 0, none⟩ = some (.int .i64 mq)) := Lib.hid (HK3.out.cell HCZ.out (fun e => HOB.out z e rfl))
          have HOB3 : Hid (∀ j, v'.ownBlock = some j → j ≠ z) := Lib.hid (fun j e => by
            rcases hob3 with h | h
            · exact HOB.out j (h.symm.trans e)
            · rw [h] at e
              cases e
              have := HSZD.out
              omega)
          have HR := Lib.hid hr
          clear how3 hk3 hob3 hr
          generalize PN (mq : Int) i = pn at *
          refine walkW_do rfl (inKA.of HK1'.out) (fun K hK => ?_)
          go_simp
          refine hK _ _ ?_; clear hK K
          refine walkW_do rfl (inKA.of (HK1'.out.alloc _)) (fun K hK => ?_)
          rw [if_pos (by simp [Region.wanted])]
          refine wp_app (.tmp 19) (.tmp 32) 97 rfl rfl rfl HR.out (hK _ _ ?_); clear hK K
          refine walkW_do rfl (inKA.of HK3.out) (fun K hK => ?_)
          go_simp
          refine hK _ _ ?_; clear hK K
          refine ⟨inKA.of HK3.out, ?_⟩
          go_wp2_with fail
          go_roundg (gk - 1)
          case rel => exact ⟨i + 1, by omega, by go_num, HN.out, HCZ3.out, HOB3.out⟩
          case measure => omega
        · obtain rfl : i = 4 * wq := by omega
          have HN : Hid (OwnP w (drawK l (k + 1) 0) u3 wr) := Lib.hid (by
            have := HOW.out
            rwa [show 4 * wq = 4 * (wq : Int).toNat by rw [Int.toNat_natCast], drawK_next HM.out] at this)
          have hiz : ¬ ((4 * wq : Nat) : Int) < 4 * (wq : Int) := by omega
          go_wp2_with fail
          go_roundg (n - (k + 1))
          case rel => exact ⟨k + 1, by omega, by go_num, HN.out⟩
          case measure => omega
    · have HN : Hid (OwnP w (draws PN l) u3 wr) := Lib.hid (by
        have := HOW.out
        rwa [drawK_all (by have := HL.out; omega)] at this)
      go_wp2_with fail
      with_reducible refine (HQ.out _ _ HN.out).mono ?_
      rintro e W3 ⟨rfl, hq⟩
      go_wp2_with fail
      exact hq

/-- Points in a slice. -/
structure Pts (W : World) (v : Value) (l : List Mk) : Prop where
  n : l.length ≤ 100000
  at_ : ∃ a c b off, v = .slice a l.length c ∧ l.length ≤ c ∧ (0 < l.length → a = some ⟨b, off, none⟩) ∧ ∀ j x, l[j]? = some x → W.cell? ⟨b, off + j * 2, none⟩ = some (.int .i64 x.point) ∧ W.cell? ⟨b, off + j * 2 + 1, none⟩ = some (.int .i64 x.node)
theorem Pts.keep {W W' : World} {A : Nat → Prop} {v : Value} {l : List Mk} (h : Pts W v l) (k : Keep A W W') (hA : ∀ b, v.ownBlock = some b → ¬ A b) : Pts W' v l := by
  obtain ⟨a, c, b, off, rfl, hc, ha, h1⟩ := h.at_
  refine ⟨h.n, a, c, b, off, rfl, hc, ha, fun j x hj => ?_⟩
  have hp : 0 < l.length := by have := (List.getElem?_eq_some_iff.1 hj).1; omega
  have hb := hA b (by rw [ha hp]; rfl)
  exact ⟨k.cell (h1 j x hj).1 hb, k.cell (h1 j x hj).2 hb⟩
theorem Pts.kept {W W' : World} {v : Value} {l : List Mk} (h : Pts W v l) (k : Keep (fun _ => False) W W') : Pts W' v l := h.keep k (fun _ _ h => h)
theorem holds_pts {W : World} {g : Nat} {d : Array Mk} (h : Go.Sort.HoldsK encSp 2 W g 0 d) (j : Nat) (x : Mk) (hj : d.toList[j]? = some x) : W.cell? ⟨g, 0 + j * 2, none⟩ = some (.int .i64 x.point) ∧ W.cell? ⟨g, 0 + j * 2 + 1, none⟩ = some (.int .i64 x.node) := by
  have hlt : j < d.size := by have := (List.getElem?_eq_some_iff.1 hj).1; simpa using this
  have hx : d[j]! = x := by
    rw [Array.getElem?_toList, Array.getElem?_eq_getElem hlt] at hj
    simp only [Option.some.injEq] at hj
    rw [getElem!_pos d j hlt]; exact hj
  have key : ∀ r, r < 2 → W.cell? ⟨g, 0 + (j * 2 + r), none⟩ = some ((encSp x)[r]!) := fun r hr => by
    have h1 := (h (j * 2 + r) (by rw [Go.Sort.size_flatK]; omega)).1
    rw [Go.Sort.get_flatK _ _ _ _ (by omega), show (j * 2 + r) / 2 = j by omega, show (j * 2 + r) % 2 = r by omega, hx] at h1
    exact h1
  exact ⟨key 0 (by decide), by have := key 1 (by decide); rwa [← Nat.add_assoc] at this⟩
theorem owns_holdsP {W : World} {lo g n cap : Nat} {l : List Mk} (h : W.ownsRow lo 103 2 (.slice (some ⟨g, 0, none⟩) n cap) l.length (flatS l)) : Go.Sort.HoldsK encSp 2 W g 0 l.toArray := by
  intro j hj
  rw [Go.Sort.size_flatK] at hj
  simp only [List.size_toArray] at hj
  have hq : j / 2 < l.length := by omega
  have hx : l[j / 2]? = some l[j / 2] := List.getElem?_eq_getElem hq
  have h1 : (flatS l)[j / 2 * 2 + j % 2]? = _ := flat_get encSp_len l (j / 2) _ (j % 2) hx (by omega)
  rw [show j / 2 * 2 + j % 2 = j by omega] at h1
  have h2 : (encSp l[j / 2])[j % 2]? = some ((encSp l[j / 2])[j % 2]!) := by
    have : j % 2 < (encSp l[j / 2]).length := by show j % 2 < 2; omega
    rw [List.getElem?_eq_getElem this, getElem!_pos (encSp l[j / 2]) (j % 2) this]
  rw [h2] at h1
  have h3 := h.cells (g := g) rfl _ _ h1
  rw [Addr.add_lit] at h3
  refine ⟨?_, ?_⟩
  · rw [Go.Sort.get_flatK _ _ _ _ (by simpa using hj)]
    have e : (l.toArray)[j / 2]! = l[j / 2] := by rw [getElem!_pos l.toArray (j / 2) (by simpa using hq)]; simp
    rw [e]; exact h3
  · rcases h.2 with ⟨h4, _⟩ | ⟨g', cap', cur, h4, _, hh, _⟩
    · cases h4
    · cases h4
      unfold World.frozen?
      rw [hh]
      rfl
theorem keep_sortP (w : World) (blk off m : Nat) (d : Array Mk) (os : Array Obj) : Keep (fun j => j = blk) w (Go.Proofs.sortWorldK encSp 2 w blk off m d os) := by
  unfold Go.Proofs.sortWorldK
  refine ⟨rfl, rfl, rfl, ?_, fun k hk hn => ?_⟩
  · rw [Go.Sort.size_grow, Go.Sort.size_putRowK]
    exact Nat.le_add_right _ _
  · unfold grow
    show ((Go.Sort.putRowK encSp 2 (Go.Sort.ahead w m) blk off d).heap ++ os)[k]? = _
    rw [Array.getElem?_append_left (by rw [Go.Sort.size_putRowK]; exact hk)]
    unfold Go.Sort.putRowK Go.Sort.putRow Go.Sort.mapBlock
    show ((Go.Sort.ahead w m).heap.modify blk _)[k]? = _
    rw [Array.getElem?_modify, if_neg (fun e => hn e.symm)]
    rfl
def CirPost (l : List Mb) (w : World) (e : Ending) (w' : World) : Prop := ∃ v, e = .returned v ∧ Pts w' v (circ PN l) ∧ Keep (fun _ => False) w w' ∧ ∀ b, v.ownBlock = some b → w.heap.size ≤ b
theorem circleP_any (v : Value) (l : List Mb) (w : World) (h : Mbs w v l) (hv : VL l) (hT : Tab w) : Calls Tryz.prog 69 #[v] w (CirPost l w) := by
  refine circleP_raw v l w h hv hT _ fun vo W how => ?_
  have hlen := draws_len PN l hv.ok
  have hws := hv.wsum
  rcases how.2.2 with ⟨rfl, h0⟩ | ⟨g, cap, cur, rfl, hg, hh, hcap, r⟩
  · omega
  · have hH := owns_holdsP how.2
    have hblk : g < W.heap.size := (Array.getElem?_eq_some_iff.1 hh).1
    have hs := sortPts g 0 cap (draws PN l).toArray W hH hblk (by simp; omega)
    simp only [List.size_toArray] at hs
    refine hs.mono ?_
    rintro e w' ⟨rfl, d', n, os, hperm, hsort, rfl⟩
    refine ⟨rfl, _, rfl, ?_, ?_, fun b hb => by cases hb; exact hg⟩
    · have hp : d'.toList.Perm (draws PN l) := by
        have h1 := hperm.2.2
        have h2 := hperm.1
        simp only [List.size_toArray] at h2
        have e1 : d'.extract 0 (draws PN l).length = d' := by rw [← h2]; exact Array.extract_size
        have e2 : ((draws PN l).toArray.extract 0 (draws PN l).length) = (draws PN l).toArray := by
          simp
        rw [e1, e2] at h1
        simpa using h1
      have hsz : d'.size = (draws PN l).length := by have := hperm.1; simpa using this
      have hso : d'.toList.Pairwise (fun x y => ¬ ltPt y x) := by
        rw [List.pairwise_iff_getElem]
        intro i j hi hj hij
        have hi' : i < d'.size := by simpa using hi
        have hj' : j < d'.size := by simpa using hj
        have h1 := hsort i j (Nat.zero_le _) hij (by omega)
        rw [cmpPt_lt, decide_eq_false_iff_not, getElem!_pos d' j hj', getElem!_pos d' i hi'] at h1
        rwa [Array.getElem_toList, Array.getElem_toList]
      have hk := key_circ hv hp hso
      have hcl : (circ PN l).length = (draws PN l).length := (sortMk_perm _).length_eq
      have hHd := Go.Proofs.holdsK_sortWorldK_c encSp 2 W g 0 (draws PN l).toArray d' n os hH hblk (by simpa using hsz)
      refine ⟨by rw [hcl]; omega, some ⟨g, 0, none⟩, cap, g, 0, by rw [hcl], by rw [hcl]; exact hcap, fun _ => rfl, fun j x hj => ?_⟩
      have e1 : ((circ PN l).map keyPt)[j]? = some (keyPt x) := by rw [List.getElem?_map, hj]; rfl
      rw [← hk, List.getElem?_map] at e1
      cases hy : d'.toList[j]? with
      | none => rw [hy] at e1; simp at e1
      | some y =>
        rw [hy] at e1
        simp only [Option.map_some, Option.some.injEq] at e1
        have h2 := holds_pts hHd j y hy
        have p1 : y.point = x.point := by have := congrArg Mk.point e1; exact this
        have p2 : y.node = x.node := by have := congrArg Mk.node e1; exact this
        rwa [p1, p2] at h2
    · exact how.1.trans' (keep_sortP W g 0 n d' os) (fun i e => .inr (by omega))
end Go.Proofs.YtplkmbfeeegaiaaGreatDoor

/-
  BinarySearchFunc on the points of package reshard.
-/
namespace Go.Proofs.YtplkmbfeeegaiaaGreatDoor
open Go.RowKit Go.Shelf

set_option maxRecDepth 100000 in
set_option maxHeartbeats 1000000 in
theorem cmpAt_any (x : Mk) (p : Int) (W : World) : Calls Tryz.prog 73 #[ptV x, .int .i64 p] W fun e w' => e = .returned (.int .i64 (cmpI x.point p)) ∧ Keep (fun _ => False) W w' := by
  obtain ⟨x0, x1, x2⟩ := x
  have HK : Hid (Keep (fun _ => False) W (W.alloc (.cells #[.int .i64 x0, .int .i64 x1] 103))) := Lib.hid ((Keep.refl _ W).alloc _)
  go_enter Tryz.func73, Tryz.ntmps73
  go_wp2_with fail
  with_reducible refine (cmp_int x0 p _).mono ?_
  rintro e w' ⟨rfl, rfl⟩
  go_wp2_with fail
  go_ret
  exact ⟨rfl, HK.out⟩

set_option maxRecDepth 100000 in
set_option maxHeartbeats 4000000 in
theorem bsearchP_any (v : Value) (c : List Mk) (p : Int) (w : World) (h : Pts w v c) (hs : c.Pairwise ltMk) :
    Calls Tryz.prog 72 #[v, .int .i64 p, .func (.func 73) #[] #[]] w fun e w' => (∃ b, e = .returned (.tuple #[.int .i64 (lows c p : Nat), .bool b])) ∧ Keep (fun _ => False) w w' := by
  obtain ⟨hn, a, cc, b, off, rfl, hc, ha, hcell⟩ := h
  have HC := Lib.hid hcell
  have HA := Lib.hid ha
  have HS := Lib.hid hs
  have hlo := lows_le c p
  clear hcell ha hs
  obtain ⟨n, hn'⟩ : ∃ n, c.length = n := ⟨_, rfl⟩
  have HL := Lib.hid hn'
  rw [hn'] at hn hc hlo ⊢
  clear hn'
  obtain ⟨lo, hlo'⟩ : ∃ lo, lows c p = lo := ⟨_, rfl⟩
  have HLO := Lib.hid hlo'
  rw [hlo'] at hlo
  clear hlo'
  go_enter Tryz.func72, Tryz.ntmps72
  go_wp2_with fail
  go_loopg [9, 10] n (fun gh v9 v10 wr => ∃ (i j : Nat), v9 = .int .i64 i ∧ v10 = .int .i64 j ∧ i ≤ lo ∧ lo ≤ j ∧ j ≤ n ∧ j - i ≤ gh ∧ Keep (fun _ => False) w wr)
  case atStart => exact ⟨0, n, rfl, rfl, by omega, hlo, by omega, by omega, Keep.refl _ _⟩
  case round =>
    obtain ⟨i, j, rfl, rfl, hi, hj, hjn, hg, hkeep⟩ := hrel
    have HK := Lib.hid hkeep
    clear hkeep
    by_cases hij : i < j
    · obtain ⟨q, hq⟩ : ∃ q : Nat, (i + j) / 2 = q := ⟨_, rfl⟩
      have hq1 : i ≤ q := by omega
      have hq2 : q < j := by omega
      obtain ⟨x, hx⟩ : ∃ x, c[q]? = some x := ⟨_, List.getElem?_eq_getElem (by have := HL.out; omega)⟩
      obtain rfl := HA.out (by have := HL.out; omega)
      have c0 := HK.out.cell (HC.out q x hx).1 (fun h => h)
      have c1 := HK.out.cell (HC.out q x hx).2 (fun h => h)
      have HB : Hid (x.point < p ↔ q < lo) := Lib.hid (by rw [← HLO.out]; exact lows_below HS.out p hx)
      clear hx
      have hijz : (i : Int) < (j : Int) := by omega
      have e1 : ((i : Int) + (j : Int)) / 2 = (q : Int) := by omega
      obtain ⟨x0, x1, x2⟩ := x
      simp only [] at c0 c1 HB
      go_wp2_with fail
      clear c0 c1
      with_reducible refine (cmpAt_any ⟨x0, x1, x2⟩ p _).mono ?_
      rintro e W2 ⟨rfl, k2⟩
      have HK2 := Lib.hid (HK.out.trans k2)
      have HN := Lib.hid (cmpI_neg x0 p)
      clear k2
      simp only []
      generalize cmpI x0 p = z at *
      by_cases hz : z < 0
      · have hql := HB.out.1 (HN.out.1 hz)
        go_wp2_with fail
        go_roundg (j - (q + 1))
        case rel => exact ⟨q + 1, j, by go_num, rfl, by omega, by omega, by omega, by omega, HK2.out⟩
        case measure => omega
      · have hql : ¬ q < lo := fun h => hz (HN.out.2 (HB.out.2 h))
        go_wp2_with fail
        go_roundg (q - i)
        case rel => exact ⟨i, q, rfl, rfl, by omega, by omega, by omega, by omega, HK2.out⟩
        case measure => omega
    · obtain rfl : i = j := by omega
      obtain rfl : i = lo := by omega
      by_cases hin : i < n
      · obtain ⟨x, hx⟩ : ∃ x, c[i]? = some x := ⟨_, List.getElem?_eq_getElem (by have := HL.out; omega)⟩
        obtain rfl := HA.out (by have := HL.out; omega)
        have c0 := HK.out.cell (HC.out i x hx).1 (fun h => h)
        have c1 := HK.out.cell (HC.out i x hx).2 (fun h => h)
        clear hx
        have hinz : (i : Int) < (n : Int) := by omega
        have hi0 : (0 : Int) ≤ (i : Int) := by omega
        obtain ⟨x0, x1, x2⟩ := x
        simp only [] at c0 c1
        go_wp2_with fail
        with_reducible refine (cmpAt_any ⟨x0, x1, x2⟩ p _).mono ?_
        rintro e W2 ⟨rfl, k2⟩
        have HK2 := Lib.hid (HK.out.trans k2)
        clear k2 c0 c1
        simp only []
        generalize cmpI x0 p = z at *
        go_wp2_with fail
        refine bodyPost_ret (v := .tuple #[.int .i64 i, .bool (z == 0)]) (by simp [results, Tryz.results72, go_sem]) rfl ?_
        exact ⟨⟨_, by rw [HLO.out]⟩, HK2.out⟩
      · have hinz : ¬ (i : Int) < (n : Int) := by omega
        go_wp2_with fail
        refine bodyPost_ret (v := .tuple #[.int .i64 i, .bool false]) (by simp [results, Tryz.results72, go_sem]) rfl ?_
        exact ⟨.inl (by rw [HLO.out]), HK.out⟩
end Go.Proofs.YtplkmbfeeegaiaaGreatDoor

/-
  A range over a function whose iterator yields a list that is known ahead: one law for the caller, by index.
-/
namespace Go.Proofs.YtplkmbfeeegaiaaGreatDoor
open Go Go.RowKit

/-- What an iterator with N known values does, in the wide fence: it reads under A, it leaves the heap alone by itself. -/
def IterL (P : Program) (gf : Nat) (lb : Array Value) (N : Nat) (encs : Nat → Array Value) (A : World → Prop) : Prop :=
  ∀ (l : Nat) (J Jx : Nat → World → Prop) (W : World),
    (∀ i V, J i V → A V) → (∀ i V V', J i V → V.grownBy V' none → J i V') →
    (∀ i V, i < N → J i V → YieldAt Fence.wide 0 P l (encs i) V fun e V' => (e = .returned (.bool true) ∧ J (i + 1) V') ∨ (e = .returned (.bool false) ∧ Jx i V')) →
    J 0 W →
    CallsIn Fence.wide 0 P gf (#[.func (.yield l) #[] #[]] ++ lb) W fun e W' => (∃ v, e = .returned v) ∧ (J N W' ∨ ∃ i, i < N ∧ Jx i W')

/-- How a round's body may be left. -/
def roundL (B : Nat) (I : Nat → World → Prop) (Ix : Code → Nat → World → Prop) (i : Nat) (V : World) : Exit → Act → World → Prop
  | .normal, _, V' => KeepsFrom B V V' ∧ I (i + 1) V'
  | .ret, _, V' => KeepsFrom B V V' ∧ Ix .ret i V'
  | .exit id, _, V' => KeepsFrom B V V' ∧ Ix (.exit id) i V'
  | .goto t, _, V' => KeepsFrom B V V' ∧ Ix (.goto t) i V'
  | .panic _, _, _ => False
  | .outgrown, _, _ => False

theorem grownBy_drew (W : World) : W.grownBy W.drew none := ⟨rfl, rfl, rfl, Nat.le_refl _, fun _ _ _ => rfl⟩

theorem range_list {P : Program} {g : Operand} {ps : Array Tmp} {assign body : Code} {Q : Exit → Act → World → Prop} {a : Act} {w : World}
    {gf : Nat} {lb : Array Value} (hg : a.eval g = .func (.func gf) #[] lb) (eg : ∀ args w, (callFunc gf args).run P w = .ok (.enter gf args) w)
    {N : Nat} {encs : Nat → Array Value} {A : World → Prop} (hseq : IterL P gf lb N encs A) (hps : ∀ i, i < N → (encs i).size = ps.size)
    (I : Nat → World → Prop) (Ix : Code → Nat → World → Prop) (hI : OwnFrom w.heap.size I) (hIx : ∀ c, OwnFrom w.heap.size (Ix c))
    (hA : ∀ i V, I i V → A V) (h0 : I 0 w) (a₁ : Nat → Act)
    (hassign : ∀ (l i : Nat) (V : World) (K : Act → World → Prop), i < N → K (a₁ i) V →
      assign.wpIn (Fence.wide.inRound l) 0 P (Exit.then K (fun _ _ _ => False)) { tmps := (ps.zip (encs i)).foldl (fun t (p, v) => t.setIfInBounds p v) a.tmps, defers := [] } V)
    (hbody : ∀ (l i : Nat) (V : World), i < N → I i V → w.heap.size ≤ V.heap.size → body.wpIn (Fence.wide.inRound l) 0 P (roundL w.heap.size I Ix i V) (a₁ i) V)
    (hdone : ∀ (D : Nat) (V : World), w.heap.size ≤ D → I N V → V.heap[D]? = some (.deferred (some [])) → Q .normal { a with defers := { target := .collected D, args := #[] } :: a.defers } V)
    (hstop : ∀ (D : Nat) (c : Code) (i : Nat) (V : World), w.heap.size ≤ D → i < N → Ix c i V → V.heap[D]? = some (.deferred (some [])) → c.wpIn Fence.wide 0 P Q { a with defers := { target := .collected D, args := #[] } :: a.defers } V) :
    (Code.rangeFunc g ps assign body).wpIn Fence.wide 0 P Q a w := by
  refine wpIn_rangeFunc fun fn hfn => ?_
  let rec_ : LoopState → Option Code → Loop := fun st pe => { state := st, pending := pe, fn, tmps := a.tmps, params := ps, assign, body, defers := w.heap.size }
  obtain ⟨W1, hW1⟩ : ∃ W1, (w.alloc (.deferred (some []))).alloc (.loop (rec_ .ready none)) = W1 := ⟨_, rfl⟩
  have hl1 : W1.heap[w.heap.size + 1]? = some (.loop (rec_ .ready none)) := by
    have := World.alloc_heap_new (w.alloc (.deferred (some []))) (.loop (rec_ .ready none))
    rw [World.size_alloc, hW1] at this; exact this
  have hk1 : W1.heap[w.heap.size]? = some (.deferred (some [])) := by
    rw [← hW1]; exact (Below.heap_alloc _ _ _ (by simp)).trans (World.alloc_heap_new w _)
  have hI1 : I 0 W1 := by rw [← hW1]; exact hI.alloc _ (hI.alloc _ h0)
  refine ⟨w.heap.size + 1, [{ target := .collected w.heap.size, args := #[] }], W1, { target := .fn (.func gf) lb, args := #[.func (.yield (w.heap.size + 1)) #[] #[]] }, W1, gf,
    #[.func (.yield (w.heap.size + 1)) #[] #[]] ++ lb, W1, ?_, ?_, fun _ _ => trivial, ?_, fun h => by simp [Fence.wide] at h, ?_⟩
  · rw [← hW1]; exact run_enterLoop_outer _ _ _ _ _
  · simp only [resolve, hg]
    simp [go_sem]
  · simp [invoke, go_sem, eg]
  · refine (hseq (w.heap.size + 1)
      (fun i V => I i V ∧ V.heap[w.heap.size + 1]? = some (.loop (rec_ .ready none)) ∧ V.heap[w.heap.size]? = some (.deferred (some [])))
      (fun i V => ∃ c, Ix c i V ∧ V.heap[w.heap.size + 1]? = some (.loop (rec_ .done (some c))) ∧ V.heap[w.heap.size]? = some (.deferred (some [])))
      W1 (fun i V h => hA i V h.1) (fun i V V' h hg => ⟨hI i V V' none h.1 hg (fun r e => by cases e), (hg.block _ (Array.getElem?_eq_some_iff.1 h.2.1).1 (fun e => by cases e)).trans h.2.1, (hg.block _ (Array.getElem?_eq_some_iff.1 h.2.2).1 (fun e => by cases e)).trans h.2.2⟩) ?_ ⟨hI1, hl1, hk1⟩).mono ?_
    · rintro i V hi ⟨hiv, hl, hk⟩
      have hlt : w.heap.size + 1 < V.heap.size := (Array.getElem?_eq_some_iff.1 hl).1
      have hy := run_yield (P := P) (args := encs i) hl (hps i hi)
      refine ⟨fn, _, assign, body, hy, roundIn_of_wpIn hfn (hassign _ i V _ hi ⟨_, run_beginRound hl rfl, ?_⟩)⟩
      obtain ⟨V2, hV2⟩ : ∃ V2, V.putObj (w.heap.size + 1) (.loop { rec_ .ready none with state := .busy }) = V2 := ⟨_, rfl⟩
      have hl2 : V2.heap[w.heap.size + 1]? = some (.loop (rec_ .busy none)) := by rw [← hV2]; exact World.putObj_heap_same hlt
      have hk2 : V2.heap[w.heap.size]? = some (.deferred (some [])) := by rw [← hV2]; exact (World.putObj_heap_other (by omega)).trans hk
      have hi2 : I i V2 := by rw [← hV2]; exact hI.putObj _ hiv (by omega) hl rfl
      have hs2 : w.heap.size ≤ V2.heap.size := by rw [← hV2, World.putObj_size]; omega
      have key : ∀ (jump : Option Code) (V3 : World), KeepsFrom w.heap.size V2 V3 →
          (Instr.endRound (w.heap.size + 1) jump).run P V3 = .ok (.bool jump.isNone) (V3.putObj (w.heap.size + 1) (.loop (rec_ (if jump.isNone then .ready else .done) jump))) ∧
          V3.heap[w.heap.size + 1]? = some (.loop (rec_ .busy none)) ∧
          (V3.putObj (w.heap.size + 1) (.loop (rec_ (if jump.isNone then .ready else .done) jump))).heap[w.heap.size + 1]? = some (.loop (rec_ (if jump.isNone then .ready else .done) jump)) ∧
          (V3.putObj (w.heap.size + 1) (.loop (rec_ (if jump.isNone then .ready else .done) jump))).heap[w.heap.size]? = some (.deferred (some [])) := by
        intro jump V3 hk3
        have hl3 := hk3.same _ _ (by omega) hl2 rfl
        exact ⟨run_endRound (P := P) jump hl3, hl3, World.putObj_heap_same (Array.getElem?_eq_some_iff.1 hl3).1, (World.putObj_heap_other (by omega)).trans (hk3.same _ _ (Nat.le_refl _) hk2 rfl)⟩
      have hV2' : V.putObj (w.heap.size + 1) (.loop { rec_ .ready none with state := .busy }) = V2 := hV2
      rw [show V.putObj (w.heap.size + 1) _ = V2 from hV2']
      refine wpIn_mono (hbody _ i V2 hi hi2 hs2) ?_
      rintro e a3 V3 hp
      cases e with
      | normal =>
        obtain ⟨hk3, hi3⟩ := hp
        obtain ⟨hr, hl3, hl4, hk4⟩ := key none V3 hk3
        exact ⟨_, _, hr, .inl ⟨rfl, hI.putObj _ hi3 (by omega) hl3 rfl, hl4, hk4⟩⟩
      | ret =>
        obtain ⟨hk3, hi3⟩ := hp
        obtain ⟨hr, hl3, hl4, hk4⟩ := key (some .ret) V3 hk3
        exact ⟨_, _, hr, .inr ⟨rfl, .ret, (hIx _).putObj _ hi3 (by omega) hl3 rfl, hl4, hk4⟩⟩
      | exit id =>
        obtain ⟨hk3, hi3⟩ := hp
        obtain ⟨hr, hl3, hl4, hk4⟩ := key (some (.exit id)) V3 hk3
        exact ⟨_, _, hr, .inr ⟨rfl, .exit id, (hIx _).putObj _ hi3 (by omega) hl3 rfl, hl4, hk4⟩⟩
      | goto t =>
        obtain ⟨hk3, hi3⟩ := hp
        obtain ⟨hr, hl3, hl4, hk4⟩ := key (some (.goto t)) V3 hk3
        exact ⟨_, _, hr, .inr ⟨rfl, .goto t, (hIx _).putObj _ hi3 (by omega) hl3 rfl, hl4, hk4⟩⟩
      | panic ch => exact hp.elim
      | outgrown => exact hp.elim
    · rintro e V2 ⟨⟨v, rfl⟩, (⟨hi, hl, hk⟩ | ⟨i, hiN, c, hi, hl, hk⟩)⟩
      · exact ⟨none, _, run_endLoop (P := P) hl (by simp [rec_]), hdone _ _ (Nat.le_refl _) (hI.putObj _ hi (by omega) hl rfl) ((World.putObj_heap_other (by omega)).trans hk)⟩
      · exact ⟨some c, _, run_endLoop (P := P) hl (by simp [rec_]), hstop _ c i _ (Nat.le_refl _) hiN ((hIx c).putObj _ hi (by omega) hl rfl) ((World.putObj_heap_other (by omega)).trans hk)⟩

end Go.Proofs.YtplkmbfeeegaiaaGreatDoor
