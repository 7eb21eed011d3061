/-
  The reference's Ordered.
-/
import Derived.Test.YtogkkghliogpeaaR1
namespace Go.Proofs.Ytogkkghliogpeaa
open Go.RowKit Go.Shelf

theorem befB_iff (x y : C) : befB x y = true ↔ BefC x y := by
  unfold befB BefC
  simp only [Bool.or_eq_true, Bool.and_eq_true, decide_eq_true_eq, less_iff, ByteArray.toList_eq]
  exact ⟨fun h => h.imp id (fun ⟨a, b⟩ => ⟨a.symm, b⟩), fun h => h.imp id (fun ⟨a, b⟩ => ⟨a.symm, b⟩)⟩

/-- x goes before all of D, and behind all of A. -/
theorem ins_sorted {A D : List C} {x : C} (hs : (A ++ D).Pairwise BefC) (hA : ∀ y ∈ A, BefC y x) (hD : ∀ y ∈ D, BefC x y) : (A ++ x :: D).Pairwise BefC := by
  rw [List.pairwise_append] at hs ⊢
  refine ⟨hs.1, List.pairwise_cons.2 ⟨hD, hs.2.1⟩, fun a ha b hb => ?_⟩
  rcases List.mem_cons.1 hb with rfl | hb
  · exact hA a ha
  · exact hs.2.2 a ha b hb

theorem keys_apart {X : List C} (h : (X.map C.key).Nodup) {i : Nat} {x y : C} (hx : X[i]? = some x) (hy : y ∈ X.take i) : x.key ≠ y.key := by
  have e : X = X.take i ++ x :: X.drop (i + 1) := by
    obtain ⟨h1, h2⟩ := List.getElem?_eq_some_iff.1 hx
    rw [← h2, List.getElem_cons_drop, List.take_append_drop]
  rw [e, List.map_append, List.map_cons, List.nodup_append] at h
  intro e'
  exact h.2.2 y.key (List.mem_map_of_mem hy) x.key List.mem_cons_self e'.symm

/-- The list so far. -/
structure OrdR (w : World) (X : List C) (i : Nat) (vo : Value) (S : List C) (W : World) : Prop where
  k : Keep (fun _ => False) w W
  own : W.ownsRow w.heap.size 37 3 vo S.length (flat (S.map ctrOf))
  pm : S.Perm (X.take i)
  so : S.Pairwise BefC

theorem OrdR.keep {w W W' : World} {X S : List C} {i : Nat} {vo : Value} (h : OrdR w X i vo S W) (k : Keep (fun _ => False) W W') : OrdR w X i vo S W' :=
  ⟨h.k.trans k, ownsRow_keep h.own k (fun _ _ h => h), h.pm, h.so⟩
theorem OrdR.cs {w W : World} {X S : List C} {i : Nat} {vo : Value} (h : OrdR w X i vo S W) : Cs W vo (S.map ctrOf) := Cs.of_owns (by rw [List.length_map]; exact h.own)

def OrdPost (w : World) (X : List C) (e : Ending) (w' : World) : Prop := ∃ v, e = .returned v ∧ w'.ownsRow w.heap.size 37 3 v X.length (flat (X.map ctrOf)) ∧ Keep (fun _ => False) w w'

set_option maxRecDepth 100000 in
set_option maxHeartbeats 4000000 in
theorem rord_sk {w : World} {v : Value} {X : List C} (h : Cs w v (X.map ctrOf)) (hn : (X.map C.key).Nodup) (hl : X.length ≤ 64) : Calls Try.prog 38 #[v] w (OrdPost w (ordC X)) := by
  obtain ⟨a, c, b, off, rfl, hc, ha, hcell⟩ := h.open_
  rw [List.length_map] at ha hc
  rw [List.length_map]
  obtain ⟨n, hn'⟩ : ∃ n, n = X.length := ⟨_, rfl⟩
  rw [← hn'] at ha hl ⊢
  have HN := Lib.hid hn'
  have HA := Lib.hid ha
  have HC := Lib.hid hcell
  have HK := Lib.hid hn
  clear h hn' ha hcell hc hn
  go_enter Try.func38, Try.ntmps38
  go_wp2_with fail
  go_loopg [3, 4] n (fun gh vo vi wr => ∃ (i : Nat) (S : List C), vi = .int .i64 i ∧ i ≤ n ∧ n ≤ gh + i ∧ OrdR w X i vo S wr)
  case atStart => exact ⟨0, [], rfl, Nat.zero_le _, by omega, Keep.refl _ _, by simpa [flat] using World.ownsRow_nil w w.heap.size 37 3, by simp, List.Pairwise.nil⟩
  case round =>
    obtain ⟨i, S, rfl, hi, hgh, hor⟩ := hrel
    have hSl : S.length = i := by
      have := hor.pm.length_eq
      rw [List.length_take] at this
      have := HN.out
      omega
    obtain ⟨a3, c3, b3, off3, rfl, _, ha3, hcell3⟩ := hor.cs.open_
    rw [List.length_map, hSl] at ha3 hor
    rw [List.length_map, hSl]
    have HO := Lib.hid hor
    have HA3 := Lib.hid ha3
    have HC3 := Lib.hid hcell3
    have HSL := Lib.hid hSl
    clear hor ha3 hcell3 hSl
    by_cases hlt : i < n
    · have hltz : (i : Int) < (n : Int) := by omega
      have hi0 : (0 : Int) ≤ (i : Int) := by omega
      obtain rfl := HA.out (by omega)
      obtain ⟨x, hx⟩ : ∃ x, X[i]? = some x := ⟨_, List.getElem?_eq_getElem (by rw [← HN.out]; exact hlt)⟩
      have HX := Lib.hid hx
      have HQ := Lib.hid (HC.out i (ctrOf x) (by rw [List.getElem?_map, hx]; rfl))
      clear hx
      obtain ⟨Wo, hWo⟩ : ∃ Wo, Wo = wr := ⟨_, rfl⟩
      subst hWo
      go_wp2_with fail
      go_loopg [5] i (fun g2 vk wr2 => ∃ (k : Nat), vk = .int .i64 k ∧ k ≤ i ∧ k ≤ g2 ∧ Keep (fun _ => False) Wo wr2 ∧ Hid (∀ y ∈ S.drop k, BefC x y))
      case atStart => exact ⟨i, rfl, Nat.le_refl _, Nat.le_refl _, Keep.refl _ _, Lib.hid (by rw [List.drop_of_length_le (by rw [HSL.out]; exact Nat.le_refl _)]; simp)⟩
      case round =>
        obtain ⟨k, rfl, hk, hkg, hkp, HD⟩ := hrel
        have HKP := Lib.hid hkp
        clear hkp
        have HBX : Hid (∀ p : KW wr, p.val.cell? ⟨b, off + i * 3, none⟩ = some (.string x.key) ∧ p.val.cell? ⟨b, off + i * 3 + 1, none⟩ = some (.int .i64 x.hi) ∧ p.val.cell? ⟨b, off + i * 3 + 2, none⟩ = some (.int .i64 (x.hi - x.lo))) := Lib.hid (fun p => by
          have hk := (HO.out.k.trans HKP.out).trans p.k
          exact ⟨hk.cell HQ.out.1 (fun h => h), hk.cell HQ.out.2.1 (fun h => h), hk.cell HQ.out.2.2 (fun h => h)⟩)
        -- whether the search goes on
        by_cases hgo : ∃ kp y, k = kp + 1 ∧ S[kp]? = some y ∧ befB x y = true
        · obtain ⟨kp, y, hkk, hy, hby⟩ := hgo
          have HY : Hid (∀ p : KW wr, p.val.cell? ⟨b3, off3 + kp * 3, none⟩ = some (.string y.key) ∧ p.val.cell? ⟨b3, off3 + kp * 3 + 1, none⟩ = some (.int .i64 y.hi) ∧ p.val.cell? ⟨b3, off3 + kp * 3 + 2, none⟩ = some (.int .i64 (y.hi - y.lo))) := Lib.hid (fun p => by
            have hk := HKP.out.trans p.k
            have := HC3.out kp (ctrOf y) (by rw [List.getElem?_map, hy]; rfl)
            exact ⟨hk.cell this.1 (fun h => h), hk.cell this.2.1 (fun h => h), hk.cell this.2.2 (fun h => h)⟩)
          have HDN : Hid (∀ z ∈ S.drop kp, BefC x z) := Lib.hid (fun z hz => by
            have hl := (List.getElem?_eq_some_iff.1 hy)
            obtain ⟨h1, h2⟩ := hl
            rw [List.drop_eq_getElem_cons h1, h2, List.mem_cons] at hz
            rcases hz with rfl | hz
            · exact (befB_iff _ _).1 hby
            · exact HD.out z (by rw [hkk]; exact hz))
          have HB := Lib.hid hby
          obtain rfl := HA3.out (by omega)
          have hk0 : 0 < (k : Int) := by omega
          have hk1 : (k : Int) - 1 = (kp : Int) := by omega
          have hk2 : IntKind.i64.wrap ((k : Int) - 1) = (kp : Int) := by rw [IntKind.wrap_i64]; omega
          have hk3 : IntKind.i64.wrap (kp : Int) = (kp : Int) := by rw [IntKind.wrap_i64]; omega
          have hk4 : (kp : Int) < (i : Int) := by omega
          have hk5 : (0 : Int) ≤ (kp : Int) := by omega
          have x0 := fun p => (HBX.out p).1
          have x1 := fun p => (HBX.out p).2.1
          have x2 := fun p => (HBX.out p).2.2
          have y0 := fun p => (HY.out p).1
          have y1 := fun p => (HY.out p).2.1
          have y2 := fun p => (HY.out p).2.2
          clear hy hby
          go_wp2_with fail
          refine wp_region_quiet_kept (by kernel_rfl) (by kernel_rfl) ?_
          repeat (quiet_step ((go_at_call 46; refine Calls.kept_of (before_any x y _ _ _))))
          refine wpQuiet_nil ?_
          rintro _ ⟨p, rfl⟩
          have HP := Lib.hid (HKP.out.trans p.k)
          clear x0 x1 x2 y0 y1 y2 HBX HY
          generalize p.val = W2 at *
          rw [HB.out]
          go_wp2_with fail
          go_roundg kp
          case rel => exact ⟨kp, by go_num, by omega, by omega, HP.out, HDN⟩
          case measure => omega
        · have HIN : Hid (∀ z ∈ S.take k, BefC z x) := Lib.hid (fun z hz => by
            obtain ⟨kp, hkk⟩ : ∃ kp, k = kp + 1 := by
              cases k with
              | zero => simp at hz
              | succ kp => exact ⟨kp, rfl⟩
            have hkl : kp < S.length := by rw [HSL.out]; omega
            have hb : ¬ befB x S[kp] = true := fun hb => hgo ⟨kp, _, hkk, List.getElem?_eq_getElem hkl, hb⟩
            rw [befB_iff] at hb
            have hxm : ∀ y ∈ S, x.key ≠ y.key := fun y hy => keys_apart HK.out HX.out (HO.out.pm.mem_iff.1 hy)
            have hyx : BefC S[kp] x := (BefC.total (hxm _ (List.getElem_mem hkl))).resolve_left hb
            rw [hkk, List.take_add_one, List.getElem?_eq_getElem hkl, List.mem_append] at hz
            rcases hz with hz | hz
            · have hs := HO.out.so
              rw [← List.take_append_drop kp S, List.pairwise_append] at hs
              exact (hs.2.2 z hz _ (by rw [List.drop_eq_getElem_cons hkl]; exact List.mem_cons_self)).trans hyx
            · simp at hz; rw [hz]; exact hyx)
          have HS' : Hid ((S.take k ++ x :: S.drop k).Pairwise BefC ∧ (S.take k ++ x :: S.drop k).Perm (X.take (i + 1))) := Lib.hid (by
            refine ⟨ins_sorted (by rw [List.take_append_drop]; exact HO.out.so) HIN.out HD.out, ?_⟩
            rw [List.take_add_one, HX.out]
            refine List.perm_middle.trans ?_
            rw [List.take_append_drop]
            exact (HO.out.pm.cons x).trans (by simpa using (List.perm_append_singleton x (X.take i)).symm))
          have hcase : (¬ 0 < (k : Int)) ∨ ∃ kp y, k = kp + 1 ∧ S[kp]? = some y ∧ befB x y = false := by
            by_cases h0 : k = 0
            · exact .inl (by omega)
            · obtain ⟨kp, hkk⟩ : ∃ kp, k = kp + 1 := ⟨k - 1, by omega⟩
              have hkl : kp < S.length := by rw [HSL.out]; omega
              exact .inr ⟨kp, S[kp], hkk, List.getElem?_eq_getElem hkl, by
                cases hb : befB x S[kp] with
                | false => rfl
                | true => exact absurd ⟨kp, _, hkk, List.getElem?_eq_getElem hkl, hb⟩ hgo⟩
          clear hgo HIN
          have hk0' : (0 : Int) ≤ (k : Int) := by omega
          rcases hcase with hk0 | ⟨kp, y, hkk, hy, hby⟩
          · have hkd : decide (0 < k) = false := by rw [decide_eq_false_iff_not]; omega
            go_wp2_with fail
            go_quiet (fail)
            have HP := Lib.hid (HKP.out.trans ((Keep.refl (fun _ => False) wr).drewN nq))
            generalize wr.drewN nq = W2 at *
            clear HBX
            have HO2 := Lib.hid (HO.out.keep HP.out)
            have hSl := HSL.out
            obtain ⟨v1, hr1, hcs1, hob1⟩ := slice_hi HO2.out.cs k (by rw [List.length_map, HSL.out]; exact hk)
            obtain ⟨v2, W3, hr2, hown2, hkp2, hob2⟩ := app_ctrs W2 34 w.heap.size (.slice none 0 0) v1 [] _ (by simpa [flat] using World.ownsRow_nil W2 w.heap.size 37 3) hcs1 (by rw [List.length_take, List.length_map]; simp; omega) HO2.out.k.size
            have HK3 : Hid (Keep (fun _ => False) W2 W3) := Lib.hid (hkp2.mono (fun j e => by cases e))
            rw [List.nil_append] at hown2
            obtain ⟨v3, W4, hr3, hown3, hkp3, hob3, g3, cc3, hv3⟩ := app_ctr W3 34 w.heap.size v2 _ (ctrOf x) hown2 (by rw [List.length_take, List.length_map]; omega) (Nat.le_trans HO2.out.k.size HK3.out.size)
            have HV2 : Hid (∀ j, v2.ownBlock = some j → W2.heap.size ≤ j) := Lib.hid (fun j e => by
              rcases hob2 with h | h
              · rw [h] at e; cases e
              · rw [h] at e; cases e; exact Nat.le_refl _)
            have HO4 := Lib.hid (((HO2.out.cs.keep HK3.out (fun _ _ h => h)).keep hkp3 (fun j e h => by
              have h1 := (HO2.out.own.lt j e).2
              have h2 := HV2.out j h
              omega)))
            obtain ⟨v4, hr4, hcs4, hob4⟩ := slice_lo HO4.out k (by rw [List.length_map, HSL.out]; exact hk)
            obtain ⟨v5, W5, hr5, hown5, hkp5, hob5⟩ := app_ctrs W4 34 w.heap.size v3 v4 _ _ hown3 hcs4 (by rw [List.length_append, List.length_take, List.length_drop, List.length_map]; simp; omega) (Nat.le_trans (Nat.le_trans HO2.out.k.size HK3.out.size) hkp3.size)
            have HN5 : Hid (OrdR w X (i + 1) v5 (S.take k ++ x :: S.drop k) W5) := Lib.hid (by
              refine ⟨((HO2.out.k.trans HK3.out).trans' hkp3 (fun j e => .inr (hown2.lt j e).1)).trans' hkp5 (fun j e => .inr (hown3.lt j e).1), ?_, HS'.out.2, HS'.out.1⟩
              have e : (S.take k ++ x :: S.drop k).map ctrOf = ((S.map ctrOf).take k ++ [ctrOf x]) ++ (S.map ctrOf).drop k := by simp
              rw [e, ← List.length_map (f := ctrOf), e]
              exact hown5)
            have hxc : ∀ o u, w.cell? ⟨b, o, none⟩ = some u → W3.cell? ⟨b, o, none⟩ = some u := fun o u h => HK3.out.cell (HO2.out.k.cell h (fun h => h)) (fun h => h)
            have z0 : W3.cell? ⟨b, off + i * 3, none⟩ = some (.string x.key) := hxc _ _ HQ.out.1
            have z1 : W3.cell? ⟨b, off + i * 3 + 1, none⟩ = some (.int .i64 x.hi) := hxc _ _ HQ.out.2.1
            have z2 : W3.cell? ⟨b, off + i * 3 + 2, none⟩ = some (.int .i64 (x.hi - x.lo)) := hxc _ _ HQ.out.2.2
            have hr3' : (Builtin.append_ #[34, 34] 34 #[v2, .slice (some ⟨W3.heap.size, 0, none⟩) 1 1]).run Try.prog (W3.alloc (.cells #[.string x.key, .int .i64 x.hi, .int .i64 (x.hi - x.lo)] 37)) = .ok v3 W4 := hr3
            clear hSl hxc hcs1 hob1 hown2 hkp2 hob2 hr3 hown3 hkp3 hob3 hv3 hcs4 hob4 hown5 hkp5 hob5
            go_wp2_with (first
              | refine wpList_slice rfl 34 (.tmp 32) none (some (.tmp 33)) rfl hr1 ?_
              | (at_builtin; refine wpList_app rfl (.tmp 31) (.tmp 34) 34 rfl rfl rfl hr2 ?_)
              | (at_builtin; refine wpList_app rfl (.tmp 36) (.tmp 41) 34 rfl rfl rfl hr3' ?_)
              | refine wpList_slice rfl 34 (.tmp 44) (some (.tmp 45)) none rfl hr4 ?_
              | (at_builtin; refine wpList_app rfl (.tmp 43) (.tmp 46) 34 rfl rfl rfl hr5 ?_))
            clear z0 z1 z2 hr1 hr2 hr3' hr4 hr5
            go_roundg (n - (i + 1))
            case rel => exact ⟨i + 1, _, by go_num, by omega, by omega, HN5.out⟩
            case measure => omega
          · have HY : Hid (∀ p : KW wr, p.val.cell? ⟨b3, off3 + kp * 3, none⟩ = some (.string y.key) ∧ p.val.cell? ⟨b3, off3 + kp * 3 + 1, none⟩ = some (.int .i64 y.hi) ∧ p.val.cell? ⟨b3, off3 + kp * 3 + 2, none⟩ = some (.int .i64 (y.hi - y.lo))) := Lib.hid (fun p => by
              have hk := HKP.out.trans p.k
              have := HC3.out kp (ctrOf y) (by rw [List.getElem?_map, hy]; rfl)
              exact ⟨hk.cell this.1 (fun h => h), hk.cell this.2.1 (fun h => h), hk.cell this.2.2 (fun h => h)⟩)
            have HB := Lib.hid hby
            obtain rfl := HA3.out (by omega)
            have hk0 : 0 < (k : Int) := by omega
            have hk0n : 0 < k := by omega
            have hk1 : (k : Int) - 1 = (kp : Int) := by omega
            have hk2 : IntKind.i64.wrap ((k : Int) - 1) = (kp : Int) := by rw [IntKind.wrap_i64]; omega
            have hk3 : IntKind.i64.wrap (kp : Int) = (kp : Int) := by rw [IntKind.wrap_i64]; omega
            have hk4 : (kp : Int) < (i : Int) := by omega
            have hk5 : (0 : Int) ≤ (kp : Int) := by omega
            have x0 := fun p => (HBX.out p).1
            have x1 := fun p => (HBX.out p).2.1
            have x2 := fun p => (HBX.out p).2.2
            have y0 := fun p => (HY.out p).1
            have y1 := fun p => (HY.out p).2.1
            have y2 := fun p => (HY.out p).2.2
            clear hy hby hkk
            go_wp2_with fail
            refine wp_region_quiet_kept (by kernel_rfl) (by kernel_rfl) ?_
            repeat (quiet_step ((go_at_call 46; refine Calls.kept_of (before_any x y _ _ _))))
            refine wpQuiet_nil ?_
            rintro _ ⟨p, rfl⟩
            have HP := Lib.hid (HKP.out.trans p.k)
            clear x0 x1 x2 y0 y1 y2 HBX HY hk1 hk2 hk3 hk4 hk5
            generalize p.val = W2 at *
            rw [HB.out]
            have HO2 := Lib.hid (HO.out.keep HP.out)
            have hSl := HSL.out
            obtain ⟨v1, hr1, hcs1, hob1⟩ := slice_hi HO2.out.cs k (by rw [List.length_map, HSL.out]; exact hk)
            obtain ⟨v2, W3, hr2, hown2, hkp2, hob2⟩ := app_ctrs W2 34 w.heap.size (.slice none 0 0) v1 [] _ (by simpa [flat] using World.ownsRow_nil W2 w.heap.size 37 3) hcs1 (by rw [List.length_take, List.length_map]; simp; omega) HO2.out.k.size
            have HK3 : Hid (Keep (fun _ => False) W2 W3) := Lib.hid (hkp2.mono (fun j e => by cases e))
            rw [List.nil_append] at hown2
            obtain ⟨v3, W4, hr3, hown3, hkp3, hob3, g3, cc3, hv3⟩ := app_ctr W3 34 w.heap.size v2 _ (ctrOf x) hown2 (by rw [List.length_take, List.length_map]; omega) (Nat.le_trans HO2.out.k.size HK3.out.size)
            have HV2 : Hid (∀ j, v2.ownBlock = some j → W2.heap.size ≤ j) := Lib.hid (fun j e => by
              rcases hob2 with h | h
              · rw [h] at e; cases e
              · rw [h] at e; cases e; exact Nat.le_refl _)
            have HO4 := Lib.hid (((HO2.out.cs.keep HK3.out (fun _ _ h => h)).keep hkp3 (fun j e h => by
              have h1 := (HO2.out.own.lt j e).2
              have h2 := HV2.out j h
              omega)))
            obtain ⟨v4, hr4, hcs4, hob4⟩ := slice_lo HO4.out k (by rw [List.length_map, HSL.out]; exact hk)
            obtain ⟨v5, W5, hr5, hown5, hkp5, hob5⟩ := app_ctrs W4 34 w.heap.size v3 v4 _ _ hown3 hcs4 (by rw [List.length_append, List.length_take, List.length_drop, List.length_map]; simp; omega) (Nat.le_trans (Nat.le_trans HO2.out.k.size HK3.out.size) hkp3.size)
            have HN5 : Hid (OrdR w X (i + 1) v5 (S.take k ++ x :: S.drop k) W5) := Lib.hid (by
              refine ⟨((HO2.out.k.trans HK3.out).trans' hkp3 (fun j e => .inr (hown2.lt j e).1)).trans' hkp5 (fun j e => .inr (hown3.lt j e).1), ?_, HS'.out.2, HS'.out.1⟩
              have e : (S.take k ++ x :: S.drop k).map ctrOf = ((S.map ctrOf).take k ++ [ctrOf x]) ++ (S.map ctrOf).drop k := by simp
              rw [e, ← List.length_map (f := ctrOf), e]
              exact hown5)
            have hxc : ∀ o u, w.cell? ⟨b, o, none⟩ = some u → W3.cell? ⟨b, o, none⟩ = some u := fun o u h => HK3.out.cell (HO2.out.k.cell h (fun h => h)) (fun h => h)
            have z0 : W3.cell? ⟨b, off + i * 3, none⟩ = some (.string x.key) := hxc _ _ HQ.out.1
            have z1 : W3.cell? ⟨b, off + i * 3 + 1, none⟩ = some (.int .i64 x.hi) := hxc _ _ HQ.out.2.1
            have z2 : W3.cell? ⟨b, off + i * 3 + 2, none⟩ = some (.int .i64 (x.hi - x.lo)) := hxc _ _ HQ.out.2.2
            have hr3' : (Builtin.append_ #[34, 34] 34 #[v2, .slice (some ⟨W3.heap.size, 0, none⟩) 1 1]).run Try.prog (W3.alloc (.cells #[.string x.key, .int .i64 x.hi, .int .i64 (x.hi - x.lo)] 37)) = .ok v3 W4 := hr3
            clear hSl hxc hcs1 hob1 hown2 hkp2 hob2 hr3 hown3 hkp3 hob3 hv3 hcs4 hob4 hown5 hkp5 hob5
            go_wp2_with (first
              | refine wpList_slice rfl 34 (.tmp 32) none (some (.tmp 33)) rfl hr1 ?_
              | (at_builtin; refine wpList_app rfl (.tmp 31) (.tmp 34) 34 rfl rfl rfl hr2 ?_)
              | (at_builtin; refine wpList_app rfl (.tmp 36) (.tmp 41) 34 rfl rfl rfl hr3' ?_)
              | refine wpList_slice rfl 34 (.tmp 44) (some (.tmp 45)) none rfl hr4 ?_
              | (at_builtin; refine wpList_app rfl (.tmp 43) (.tmp 46) 34 rfl rfl rfl hr5 ?_))
            clear z0 z1 z2 hr1 hr2 hr3' hr4 hr5
            go_roundg (n - (i + 1))
            case rel => exact ⟨i + 1, _, by go_num, by omega, by omega, HN5.out⟩
            case measure => omega
    · have hltz : ¬ (i : Int) < (n : Int) := by omega
      go_wp2_with fail
      go_ret
      refine ⟨_, rfl, ?_, HO.out.k⟩
      have e : S = ordC X := by
        have hp := HO.out.pm
        rw [List.take_of_length_le (by have := HN.out; omega)] at hp
        exact ordC_of_sorted hp HO.out.so ((hp.map C.key).nodup_iff.2 HK.out)
      rw [← e]
      exact HO.out.own
end Go.Proofs.Ytogkkghliogpeaa
