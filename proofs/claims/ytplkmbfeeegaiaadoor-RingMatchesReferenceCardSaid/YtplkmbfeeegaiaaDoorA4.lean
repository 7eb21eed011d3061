/-
  ValidRing, Owner, Load of package ring.
-/
import Derived.Test.YtplkmbfeeegaiaaDoorA3
namespace Go.Proofs.YtplkmbfeeegaiaaDoor
open Go.RowKit Go.Shelf

/-- A ring as a value. -/
abbrev ringV (ep : Int) (vm vo : Value) : Value := .agg #[.int .i64 ep, vm, vo]
/-- A ring in memory. -/
structure Rng (W : World) (v : Value) (ep : Int) (l : List Mb) (ow : List Int) : Prop where
  bd : I64 ep
  at_ : ∃ vm vo, v = ringV ep vm vo ∧ Mbs W vm l ∧ Its W vo ow
theorem Rng.kept {W W' : World} {v : Value} {ep : Int} {l : List Mb} {ow : List Int} (h : Rng W v ep l ow) (k : Keep (fun _ => False) W W') : Rng W' v ep l ow := by
  obtain ⟨vm, vo, rfl, h1, h2⟩ := h.at_
  exact ⟨h.bd, vm, vo, rfl, h1.kept k, h2.kept k⟩

set_option maxRecDepth 100000 in
set_option maxHeartbeats 400000 in
theorem load_any (v : Value) (ep : Int) (l : List Mb) (ow : List Int) (w : World) (h : Rng w v ep l ow) (q : Int) : Calls Tryd.prog 29 #[v, .int .i64 q] w fun e w' => e = .returned (.int .i64 (cnt ow q)) ∧ Keep (fun _ => False) w w' := by
  obtain ⟨-, vm, vo, rfl, -, hi⟩ := h
  obtain ⟨hn, -, a, c, b, off, rfl, hc, ha, hcell⟩ := hi
  have HC := Lib.hid hcell
  have HA := Lib.hid ha
  clear hcell ha
  obtain ⟨n, hn'⟩ : ∃ n, ow.length = n := ⟨_, rfl⟩
  have HL := Lib.hid hn'
  rw [hn'] at hn hc ⊢
  clear hn'
  have HK0 : Hid (Keep (fun _ => False) w (w.alloc (.cells #[.int .i64 ep, vm, .slice a n c] 31))) := Lib.hid ((Keep.refl _ w).alloc _)
  go_enter Tryd.func29, Tryd.ntmps29
  go_wp2_with fail
  generalize w.alloc (.cells #[.int .i64 ep, vm, .slice a n c] 31) = W0 at *
  go_loopg [5, 11] n (fun gh v5 v wr => ∃ k : Nat, gh + k = n ∧ v = .int .i64 k ∧ v5 = .int .i64 (cnt (ow.take k) q) ∧ wr = W0)
  case atStart => exact ⟨0, by omega, rfl, by simp [cnt], rfl⟩
  case round =>
    obtain ⟨k, hk, rfl, rfl, rfl⟩ := hrel
    by_cases hlt : k < n
    · obtain ⟨x, hx⟩ : ∃ x, ow[k]? = some x := ⟨_, List.getElem?_eq_getElem (by have := HL.out; omega)⟩
      obtain rfl := HA.out (by have := HL.out; omega)
      have c1 := HK0.out.cell (HC.out k x hx) (fun h => h)
      have HS := Lib.hid (cnt_take_succ hx q)
      have hb0 := cnt_nn (ow.take k) q
      have hb1 : cnt (ow.take k) q ≤ k := by
        unfold cnt
        have := List.count_le_length (a := q) (l := ow.take k)
        rw [List.length_take] at this
        omega
      have hkz : (k : Int) < (n : Int) := by omega
      have hk0 : (0 : Int) ≤ (k : Int) := by omega
      clear hx
      generalize cnt (ow.take k) q = s0 at *
      by_cases hxq : x = q
      · subst hxq
        have hbe : (x == x) = true := by simp
        go_wp2_with fail
        go_roundg (gk - 1)
        case rel => exact ⟨k + 1, by omega, by go_num, by rw [HS.out]; simp, rfl⟩
        case measure => omega
      · have hbe : (x == q) = false := by simpa using hxq
        have HN := Lib.hid hxq
        clear hxq
        go_wp2_with fail
        go_roundg (gk - 1)
        case rel => exact ⟨k + 1, by omega, by go_num, by rw [HS.out, if_neg (fun e => HN.out e.symm), Int.add_zero], rfl⟩
        case measure => omega
    · have HE : Hid (cnt (ow.take k) q = cnt ow q) := Lib.hid (by rw [List.take_of_length_le (by have := HL.out; omega)])
      rw [HE.out]
      go_wp2_with fail
      go_ret
      exact ⟨rfl, HK0.out⟩

/-- The owner of a key. -/
def ownerOf (ow : List Int) (key : ByteArray) : Int := if ow.length = 64 then ow.getD (slotOf key) 0 else -1
set_option maxRecDepth 100000 in
set_option maxHeartbeats 400000 in
theorem owner_any (v : Value) (ep : Int) (l : List Mb) (ow : List Int) (w : World) (h : Rng w v ep l ow) (key : ByteArray) (hk : key.size ≤ 1000000) (hT : Tab w) : Calls Tryd.prog 27 #[v, .string key] w fun e w' => e = .returned (.int .i64 (ownerOf ow key)) ∧ Keep (fun _ => False) w w' := by
  obtain ⟨-, vm, vo, rfl, -, hi⟩ := h
  obtain ⟨hn, -, a, c, b, off, rfl, hc, ha, hcell⟩ := hi
  have HC := Lib.hid hcell
  have HA := Lib.hid ha
  have HK0 : Hid (Keep (fun _ => False) w (w.alloc (.cells #[.int .i64 ep, vm, .slice a ow.length c] 31))) := Lib.hid ((Keep.refl _ w).alloc _)
  have HT3 := Lib.hid (three_cell w (.int .i64 ep) vm (.slice a ow.length c) 31)
  have HS : Hid (∀ W, Tab W → Calls Tryd.prog 34 #[.string key] W fun e w' => e = .returned (.int .i64 (slotOf key : Nat)) ∧ W = w') := Lib.hid (fun W h => slot_any key hk W h)
  have HTB := Lib.hid hT
  have hsl := slotOf_lt key
  clear hcell ha hT
  by_cases h64 : ow.length = 64
  · have HO : Hid (ownerOf ow key = ow.getD (slotOf key) 0) := Lib.hid (by unfold ownerOf; rw [if_pos h64])
    obtain ⟨x, hx⟩ : ∃ x, ow[slotOf key]? = some x := ⟨_, List.getElem?_eq_getElem (by omega)⟩
    have HX : Hid (ownerOf ow key = x) := Lib.hid (by rw [HO.out, List.getD_eq_getElem?_getD, hx]; rfl)
    obtain rfl := HA.out (by omega)
    have HCX := Lib.hid (HC.out _ x hx)
    rw [h64] at hn hc HK0 HT3 ⊢
    clear hx h64
    generalize slotOf key = sl at *
    go_enter Tryd.func27, Tryd.ntmps27
    go_wp2_with fail
    generalize w.alloc (.cells #[.int .i64 ep, vm, .slice (some ⟨b, off, none⟩) 64 c] 31) = W0 at *
    generalize w.heap.size = z at *
    have d2 : W0.cell? ⟨z, 2, none⟩ = some (.slice (some ⟨b, off, none⟩) 64 c) := HT3.out.2.2.1
    have dx : W0.cell? ⟨b, off + sl, none⟩ = some (.int .i64 x) := HK0.out.cell HCX.out (fun h => h)
    have HT0 : Hid (∀ n, Tab (W0.drewN n)) := Lib.hid (fun n => HTB.out.kept (HK0.out.drewN n))
    have hs0 : (0 : Int) ≤ (sl : Int) := by omega
    have hs1 : (sl : Int) < 64 := by omega
    go_quiet ((go_at_call 34; exact quiet_same (HS.out _ (HT0.out _))))
    go_wp2_with fail
    go_ret
    exact ⟨by rw [HX.out]; rfl, HK0.out.drewN _⟩
  · have HO : Hid (ownerOf ow key = -1) := Lib.hid (by unfold ownerOf; rw [if_neg h64])
    obtain ⟨n, hn'⟩ : ∃ n, ow.length = n := ⟨_, rfl⟩
    rw [hn'] at hn hc h64 HK0 ⊢
    have hne : ((n : Int) != 64) = true := by simp; omega
    clear hn' h64 HT3
    go_enter Tryd.func27, Tryd.ntmps27
    go_wp2_with fail
    go_ret
    exact ⟨by rw [HO.out]; rfl, HK0.out⟩

/-- ValidRing. -/
def validRB (ep : Int) (l : List Mb) (ow : List Int) : Bool := ow.all (fun n => decide (cnt ow n ≤ limitL l n)) && (decide (1 ≤ ep ∧ ep ≤ 1000000) && (validL l && decide (ow.length = 64)))
theorem validRB_iff (ep : Int) (l : List Mb) (ow : List Int) : validRB ep l ow = true ↔ okRing ep l ow := by
  unfold validRB okRing
  simp only [Bool.and_eq_true, List.all_eq_true, decide_eq_true_eq, validL_iff]
  constructor
  · rintro ⟨h1, h2, h3, h4⟩
    refine ⟨h2.1, h2.2, h3, h4, fun n => ?_⟩
    by_cases hn : n ∈ ow
    · exact h1 n hn
    · have : cnt ow n = 0 := by
        have h5 := cnt_nn ow n
        by_cases h6 : 0 < cnt ow n
        · exact absurd (cnt_pos_mem h6) hn
        · omega
      rw [this]; exact (limitL_nn l n).1
  · rintro ⟨h1, h2, h3, h4, h5⟩
    exact ⟨fun n _ => h5 n, ⟨h1, h2⟩, h3, h4⟩

set_option maxRecDepth 100000 in
set_option maxHeartbeats 1000000 in
theorem validRing_any (v : Value) (ep : Int) (l : List Mb) (ow : List Int) (w : World) (h : Rng w v ep l ow) : Calls Tryd.prog 25 #[v] w fun e w' => e = .returned (.bool (validRB ep l ow)) ∧ Keep (fun _ => False) w w' := by
  obtain ⟨-, vm, vo, rfl, hmb, hi⟩ := h
  have HLI : Hid (∀ W, Keep (fun _ => False) w W → Calls Tryd.prog 49 #[vm] W (LimPost l W)) := Lib.hid (fun W k => limits_any vm l W (hmb.kept k))
  have HVA : Hid (∀ W, Keep (fun _ => False) w W → Calls Tryd.prog 19 #[vm] W fun e w' => e = .returned (.bool (validL l)) ∧ Keep (fun _ => False) W w') := Lib.hid (fun W k => valid_any vm l W (hmb.kept k))
  obtain ⟨hn, hbd, a, c, b, off, rfl, hc, ha, hcell⟩ := hi
  have HC := Lib.hid hcell
  have HA := Lib.hid ha
  have HBD := Lib.hid hbd
  clear hcell ha hmb hbd
  obtain ⟨n, hn'⟩ : ∃ n, ow.length = n := ⟨_, rfl⟩
  have HL := Lib.hid hn'
  rw [hn'] at hn hc ⊢
  clear hn'
  have HK0 : Hid (Keep (fun _ => False) w (w.alloc (.cells #[.int .i64 ep, vm, .slice a n c] 31))) := Lib.hid ((Keep.refl _ w).alloc _)
  have HT3 := Lib.hid (three_cell w (.int .i64 ep) vm (.slice a n c) 31)
  have HZ : Hid (w.heap.size < (w.alloc (.cells #[.int .i64 ep, vm, .slice a n c] 31)).heap.size) := Lib.hid (by simp)
  have HZ0 : Hid (w.heap.size ≤ w.heap.size) := Lib.hid (Nat.le_refl _)
  go_enter Tryd.func25, Tryd.ntmps25
  go_wp2_with fail
  generalize w.alloc (.cells #[.int .i64 ep, vm, .slice a n c] 31) = W0 at *
  generalize hz : w.heap.size = z at HT3 HZ
  have HZE := Lib.hid hz
  clear hz
  with_reducible refine (HLI.out _ HK0.out).mono ?_
  rintro e W1 ⟨bm, rfl, hbm, hmf, k1⟩
  have HK1 := Lib.hid (HK0.out.trans k1)
  have HBM : Hid (w.heap.size ≤ bm ∧ z ≠ bm) := Lib.hid ⟨by have := HK0.out.size; omega, by have := HZ.out; omega⟩
  have HM1 : Hid (MapF W1 bm (fun q => limitL l q - cnt (ow.take 0) q)) := Lib.hid (hmf.congr (fun q => by simp [cnt]))
  have HZC := Lib.hid (And.intro (k1.cell HT3.out.1 (fun h => h)) (And.intro (k1.cell HT3.out.2.1 (fun h => h)) (k1.cell HT3.out.2.2.1 (fun h => h))))
  clear k1 hbm hmf HT3 HLI
  have d2 := HZC.out.2.2
  go_wp2_with fail
  clear d2
  go_loopg [12] n (fun gh v wr => ∃ k : Nat, gh + k = n ∧ v = .int .i64 k ∧ MapF wr bm (fun q => limitL l q - cnt (ow.take k) q) ∧ (∀ q, cnt (ow.take k) q ≤ limitL l q) ∧ Keep (fun _ => False) w wr ∧ Keep (fun x => x = bm) W1 wr)
  case atStart => exact ⟨0, by omega, rfl, HM1.out, fun q => by have := (limitL_nn l q).1; simp [cnt]; omega, HK1.out, Keep.refl _ _⟩
  case round =>
    clear HM1 HK1
    obtain ⟨k, hk, rfl, hmf, hle, hkeep, hkp⟩ := hrel
    have HMF := Lib.hid hmf
    have HLE := Lib.hid hle
    have HK := Lib.hid hkeep
    have HKP := Lib.hid hkp
    clear hmf hle hkeep hkp
    by_cases hlt : k < n
    · obtain ⟨x, hx⟩ : ∃ x, ow[k]? = some x := ⟨_, List.getElem?_eq_getElem (by have := HL.out; omega)⟩
      obtain rfl := HA.out (by have := HL.out; omega)
      have c1 := HK.out.cell (HC.out k x hx) (fun h => h)
      have hxb := HBD.out x (List.mem_of_getElem? hx)
      have HXB := Lib.hid hxb
      have HS := Lib.hid (cnt_take_succ hx)
      have HXM := Lib.hid (List.mem_of_getElem? hx)
      have hb0 := cnt_nn (ow.take k) x
      have hb1 := HLE.out x
      have hb2 := limitL_nn l x
      obtain ⟨g, hg⟩ : ∃ g, limitL l x - cnt (ow.take k) x = g := ⟨_, rfl⟩
      have hgb : 0 ≤ g ∧ g ≤ 1280 := by omega
      have lk := HMF.out.look hxb

      rw [hg] at lk
      obtain ⟨es', ck', hup, hmr⟩ := HMF.out.update hxb (g - 1)
      have HGX := Lib.hid hg
      have HM2 : Hid (MapF (wr.putObj bm (.map es' ck')) bm (fun q => limitL l q - cnt (ow.take (k + 1)) q)) := Lib.hid (hmr.congr (fun q => by
        unfold upd
        rw [HS.out q]
        by_cases e : q = x
        · subst e; rw [if_pos rfl, if_pos rfl]; have := HGX.out; omega
        · rw [if_neg e, if_neg e, Int.add_zero]))
      have lk2 := HM2.out.look hxb

      have HLK : Hid (limitL l x - cnt (ow.take (k + 1)) x = g - 1) := Lib.hid (by rw [HS.out x, if_pos rfl]; have := HGX.out; omega)
      rw [HLK.out] at lk2
      have HK2 : Hid (Keep (fun _ => False) w (wr.putObj bm (.map es' ck'))) := Lib.hid (HK.out.putObj _ (.inr HBM.out.1))
      have HKP2 : Hid (Keep (fun x => x = bm) W1 (wr.putObj bm (.map es' ck'))) := Lib.hid (HKP.out.putObj _ (.inl rfl))
      have hkz : (k : Int) < (n : Int) := by omega
      have hk0 : (0 : Int) ≤ (k : Int) := by omega
      clear hx hmr hg hb0 hb1 hb2 hxb
      by_cases hneg : g - 1 < 0
      · have HF : Hid (validRB ep l ow = false) := Lib.hid (by
          cases e : validRB ep l ow with
          | false => rfl
          | true =>
            have h1 := ((validRB_iff ep l ow).1 e).2.2.2.2 x
            have h2 := cnt_take_le ow (k + 1) x
            have := HLK.out
            omega)
        go_wp2_with fail
        go_ret
        exact ⟨by rw [HF.out]; rfl, HK2.out⟩
      · have HLE2 : Hid (∀ q, cnt (ow.take (k + 1)) q ≤ limitL l q) := Lib.hid (fun q => by
          have h1 := HLE.out q
          have h2 := HS.out q
          by_cases e : q = x
          · subst e; have := HLK.out; omega
          · rw [if_neg e] at h2; omega)
        go_wp2_with fail
        clear lk lk2 hup c1
        generalize wr.putObj bm (.map es' ck') = W2 at *
        go_roundg (gk - 1)
        case rel => exact ⟨k + 1, by omega, by go_num, HM2.out, HLE2.out, HK2.out, HKP2.out⟩
        case measure => omega
    · have HALL : Hid (ow.all (fun n => decide (cnt ow n ≤ limitL l n)) = true) := Lib.hid (by
        rw [List.all_eq_true]
        intro q _
        have := HLE.out q
        rw [List.take_of_length_le (by have := HL.out; omega)] at this
        exact decide_eq_true this)
      have d0 := HKP.out.cell HZC.out.1 HBM.out.2
      have d1 := HKP.out.cell HZC.out.2.1 HBM.out.2
      have d2 := HKP.out.cell HZC.out.2.2 HBM.out.2
      have HRB : Hid (validRB ep l ow = (decide (1 ≤ ep ∧ ep ≤ 1000000) && (validL l && decide (n = 64)))) := Lib.hid (by unfold validRB; rw [HALL.out, HL.out]; rfl)
      go_wp2_with fail
      by_cases h1 : 1 ≤ ep ∧ ep ≤ 1000000
      · have H1 := Lib.hid (decide_eq_true h1)
        clear h1
        with_reducible refine (within_b ep 1 1000000 true H1.out _).mono ?_
        rintro e w' ⟨rfl, rfl⟩
        go_wp2_with fail
        with_reducible refine (HVA.out _ HK.out).mono ?_
        rintro e W3 ⟨rfl, k3⟩
        have HK3 := Lib.hid (HK.out.trans k3)
        have d2' := k3.cell d2 (fun h => h)
        clear d2 d1 d0 k3
        cases hva : validL l with
        | false =>
          have HVF := Lib.hid hva
          clear hva
          go_wp2_with fail
          go_ret
          exact ⟨by rw [HRB.out, H1.out, HVF.out]; rfl, HK3.out⟩
        | true =>
          have HVF := Lib.hid hva
          clear hva
          by_cases h64 : n = 64
          · subst h64
            go_wp2_with fail
            go_ret
            exact ⟨by rw [HRB.out, H1.out, HVF.out]; rfl, HK3.out⟩
          · have hb : ((n : Int) == 64) = false := by simp; omega
            have HN := Lib.hid (decide_eq_false h64)
            clear h64
            go_wp2_with fail
            go_ret
            exact ⟨by rw [HRB.out, H1.out, HVF.out, HN.out]; rfl, HK3.out⟩
      · have H1 := Lib.hid (decide_eq_false h1)
        clear h1
        with_reducible refine (within_b ep 1 1000000 false H1.out _).mono ?_
        rintro e w' ⟨rfl, rfl⟩
        go_wp2_with fail
        go_ret
        exact ⟨by rw [HRB.out, H1.out]; rfl, HK.out⟩
end Go.Proofs.YtplkmbfeeegaiaaDoor
