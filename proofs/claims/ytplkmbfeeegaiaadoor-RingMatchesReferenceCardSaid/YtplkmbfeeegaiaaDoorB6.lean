/-
  Same of package ring; pick, members.
-/
import Derived.Test.YtplkmbfeeegaiaaDoorB5
namespace Go.Proofs.YtplkmbfeeegaiaaDoor
open Go.RowKit Go.Shelf

set_option maxRecDepth 100000 in
set_option maxHeartbeats 2000000 in
theorem same_any (va vb : Value) (ep ep' : Int) (l l' : List Mb) (ow ow' : List Int) (w : World) (ha : Rng w va ep l ow) (hb : Rng w vb ep' l' ow') : Calls Tryd.prog 31 #[va, vb] w fun e w' => e = .returned (.bool (decide (ep = ep') && (decide (l = l') && decide (ow = ow')))) ∧ Keep (fun _ => False) w w' := by
  obtain ⟨-, vm, vo, rfl, hm, ho⟩ := ha
  obtain ⟨-, vm', vo', rfl, hm', ho'⟩ := hb
  obtain ⟨⟨ma, mn, mc, rfl⟩, ⟨oa, on, oc, rfl⟩⟩ : (∃ a n c, vm = .slice a n c) ∧ ∃ a n c, vo = .slice a n c := by
    obtain ⟨a, c, b, off, h1, _⟩ := hm.at_
    obtain ⟨a', c', b', off', h2, _⟩ := ho.at_
    exact ⟨⟨_, _, _, h1⟩, _, _, _, h2⟩
  obtain ⟨⟨ma', mn', mc', rfl⟩, ⟨oa', on', oc', rfl⟩⟩ : (∃ a n c, vm' = .slice a n c) ∧ ∃ a n c, vo' = .slice a n c := by
    obtain ⟨a, c, b, off, h1, _⟩ := hm'.at_
    obtain ⟨a', c', b', off', h2, _⟩ := ho'.at_
    exact ⟨⟨_, _, _, h1⟩, _, _, _, h2⟩
  have HEM : Hid (∀ W, Keep (fun _ => False) w W → Calls Tryd.prog 56 #[.slice ma mn mc, .slice ma' mn' mc'] W fun e w' => e = .returned (.bool (decide (l = l'))) ∧ Keep (fun _ => False) W w') := Lib.hid (fun W k => eqMb_any _ _ l l' W (hm.kept k) (hm'.kept k))
  have HEI : Hid (∀ W, Keep (fun _ => False) w W → Calls Tryd.prog 57 #[.slice oa on oc, .slice oa' on' oc'] W fun e w' => e = .returned (.bool (decide (ow = ow'))) ∧ Keep (fun _ => False) W w') := Lib.hid (fun W k => eqInt_any _ _ ow ow' W (ho.kept k) (ho'.kept k))
  clear hm ho hm' ho'
  have t1 := three_cell w (.int .i64 ep) (.slice ma mn mc) (.slice oa on oc) 31
  have t2 := three_cell (w.alloc (.cells #[.int .i64 ep, .slice ma mn mc, .slice oa on oc] 31)) (.int .i64 ep') (.slice ma' mn' mc') (.slice oa' on' oc') 31
  have k1 : Keep (fun _ => False) w (w.alloc (.cells #[.int .i64 ep, .slice ma mn mc, .slice oa on oc] 31)) := (Keep.refl _ w).alloc _
  have k2 : Keep (fun _ => False) (w.alloc (.cells #[.int .i64 ep, .slice ma mn mc, .slice oa on oc] 31)) ((w.alloc (.cells #[.int .i64 ep, .slice ma mn mc, .slice oa on oc] 31)).alloc (.cells #[.int .i64 ep', .slice ma' mn' mc', .slice oa' on' oc'] 31)) := (Keep.refl _ _).alloc _
  have HX := Lib.hid (And.intro (k2.cell t1.1 (fun h => h)) (And.intro (k2.cell t1.2.1 (fun h => h)) (k2.cell t1.2.2.1 (fun h => h))))
  rw [World.size_alloc] at t2
  have HY := Lib.hid t2
  have HK := Lib.hid (k1.trans k2)
  clear t1 t2 k1 k2
  go_enter Tryd.func31, Tryd.ntmps31
  by_cases he : ep = ep'
  · have hbe : (ep == ep') = true := by simpa using he
    have HE := Lib.hid (decide_eq_true he)
    clear he
    go_wp2_with fail
    generalize (w.alloc (.cells #[.int .i64 ep, .slice ma mn mc, .slice oa on oc] 31)).alloc (.cells #[.int .i64 ep', .slice ma' mn' mc', .slice oa' on' oc'] 31) = W1 at *
    generalize w.heap.size = z at *
    with_reducible refine (HEM.out _ HK.out).mono ?_
    rintro e W2 ⟨rfl, k2⟩
    have HK2 := Lib.hid (HK.out.trans k2)
    have x2 := k2.cell HX.out.2.2 (fun h => h)
    have y2 := k2.cell HY.out.2.2.1 (fun h => h)
    clear k2
    cases hl : decide (l = l') with
    | true =>
      have HL := Lib.hid hl
      clear hl
      go_wp2_with fail
      with_reducible refine (HEI.out _ HK2.out).mono ?_
      rintro e W3 ⟨rfl, k3⟩
      have HK3 := Lib.hid (HK2.out.trans k3)
      clear k3
      cases ho : decide (ow = ow') with
      | true =>
        have HO := Lib.hid ho
        clear ho
        go_wp2_with fail
        go_ret
        exact ⟨by rw [HE.out, HL.out, HO.out]; rfl, HK3.out⟩
      | false =>
        have HO := Lib.hid ho
        clear ho
        go_wp2_with fail
        go_ret
        exact ⟨by rw [HE.out, HL.out, HO.out]; rfl, HK3.out⟩
    | false =>
      have HL := Lib.hid hl
      clear hl
      go_wp2_with fail
      go_ret
      exact ⟨by rw [HE.out, HL.out]; rfl, HK2.out⟩
  · have hbe : (ep == ep') = false := by simpa using he
    have HE := Lib.hid (decide_eq_false he)
    clear he
    go_wp2_with fail
    go_ret
    exact ⟨by rw [HE.out]; rfl, HK.out⟩

def pk (c n : Int) : Int := (if c < 0 then -(c + 1) else c) % n
set_option maxRecDepth 100000 in
set_option maxHeartbeats 400000 in
theorem pick_any (c n : Int) (w : World) (hc : I64 c) (hn : 1 ≤ n ∧ n ≤ 9223372036854775807) : Calls Tryd.prog 37 #[.int .i64 c, .int .i64 n] w fun e w' => e = .returned (.int .i64 (pk c n)) ∧ w = w' := by
  unfold I64 at hc
  by_cases h : c < 0
  · have HP : Hid (pk c n = (-(c + 1)) % n) := Lib.hid (by unfold pk; rw [if_pos h])
    have h0 : 0 ≤ -(c + 1) := by omega
    have h1 : -(c + 1) ≤ 9223372036854775807 := by omega
    go_enter Tryd.func37, Tryd.ntmps37
    go_wp2
    go_ret
    refine ⟨?_, rfl⟩
    show Ending.returned (.int .i64 (-(c + 1).tmod n)) = _
    rw [HP.out, ← Int.neg_tmod, Int.tmod_eq_emod_of_nonneg (by omega)]
  · have HP : Hid (pk c n = c % n) := Lib.hid (by unfold pk; rw [if_neg h])
    go_enter Tryd.func37, Tryd.ntmps37
    go_wp2
    go_ret
    exact ⟨by rw [HP.out]; rfl, rfl⟩
theorem pk_bd (c n : Int) (hn : 1 ≤ n) : 0 ≤ pk c n ∧ pk c n < n := by
  unfold pk
  exact ⟨Int.emod_nonneg _ (by omega), Int.emod_lt_of_pos _ (by omega)⟩

/-- Members in a slice of their own. -/
def OwnB (w : World) (l : List Mb) (v : Value) (W : World) : Prop := Keep (fun _ => False) w W ∧ W.ownsRow w.heap.size 25 3 v l.length (flatB l)
theorem OwnB.nil {w W : World} (k : Keep (fun _ => False) w W) : OwnB w [] (.slice none 0 0) W := ⟨k, by simpa [flatB] using World.ownsRow_nil W w.heap.size 25 3⟩
theorem OwnB.keep {w W W' : World} {l : List Mb} {v : Value} (h : OwnB w l v W) (k : Keep (fun _ => False) W W') : OwnB w l v W' := ⟨h.1.trans k, ownsRow_keep h.2 k (fun _ _ h => h)⟩
theorem OwnB.snoc {w W : World} {l : List Mb} {v : Value} (h : OwnB w l v W) (x : Mb) (hl : l.length ≤ 100000) :
    ∃ v' w', (Builtin.append_ #[22, 22] 22 #[v, .slice (some ⟨W.heap.size, 0, none⟩) 1 1]).run Tryd.prog (W.alloc (.cells #[.int .i64 x.node, .int .i64 x.region, .int .i64 x.weight] 25)) = .ok v' w' ∧ OwnB w (l ++ [x]) v' w' ∧ Keep (fun j => v.ownBlock = some j) W w' ∧ (∃ g n c, v' = .slice (some ⟨g, 0, none⟩) n c) := by
  obtain ⟨v', w', r1, r2, r3, r4, g, c, r5⟩ := app_one 22 25 3 24 _ Tryd.underlying22 infoMb rfl (by decide) (by decide) W 22 w.heap.size v l.length (flatB l) (encMb x) h.2 rfl (by simp [encMb, Value.oneCell']) (by omega) h.1.size
  refine ⟨v', w', r1, ⟨h.1.trans' r3 (fun j e => .inr (h.2.lt j e).1), ?_⟩, r3, g, _, c, r5⟩
  rw [flatB_append, flatB_one, List.length_append]
  exact r2

/-- members. -/
def memsL (xs : List Int) (k : Nat) : List Mb := (List.range k).map (fun i : Nat => ⟨(i : Int), 0, xs.getD i 0⟩)
theorem memsL_succ (xs : List Int) (k : Nat) {x : Int} (h : xs[k]? = some x) : memsL xs (k + 1) = memsL xs k ++ [⟨(k : Int), 0, x⟩] := by
  unfold memsL
  rw [List.range_succ, List.map_append]
  congr 1
  simp [List.getD_eq_getElem?_getD, h]
theorem memsL_len (xs : List Int) (k : Nat) : (memsL xs k).length = k := by simp [memsL]
def OwnPost (l : List Mb) (w : World) (e : Ending) (w' : World) : Prop := ∃ v, e = .returned v ∧ OwnB w l v w'
set_option maxRecDepth 100000 in
set_option maxHeartbeats 1000000 in
theorem members_any (v : Value) (xs : List Int) (w : World) (h : Its w v xs) (hl : xs.length ≤ 100) : Calls Tryd.prog 47 #[v] w (OwnPost (memsL xs xs.length) w) := by
  obtain ⟨hn, -, a, c, b, off, rfl, hc, ha, hcell⟩ := h
  have HC := Lib.hid hcell
  have HA := Lib.hid ha
  clear hcell ha
  obtain ⟨n, hn'⟩ : ∃ n, xs.length = n := ⟨_, rfl⟩
  have HL := Lib.hid hn'
  rw [hn'] at hn hc hl ⊢
  clear hn'
  go_enter Tryd.func47, Tryd.ntmps47
  go_wp2_with fail
  go_loopg [3, 4] n (fun gh v3 v wr => ∃ (k : Nat), gh + k = n ∧ v = .int .i64 k ∧ OwnB w (memsL xs k) v3 wr)
  case atStart => exact ⟨0, by omega, rfl, OwnB.nil (Keep.refl _ _)⟩
  case round =>
    obtain ⟨k, hk, rfl, how⟩ := hrel
    have HOW := Lib.hid how
    clear how
    by_cases hlt : k < n
    · obtain ⟨x, hx⟩ : ∃ x, xs[k]? = some x := ⟨_, List.getElem?_eq_getElem (by have := HL.out; omega)⟩
      obtain rfl := HA.out (by have := HL.out; omega)
      have c1 := HOW.out.1.cell (HC.out k x hx) (fun h => h)
      obtain ⟨v', W2, hr, how2, -, -⟩ := HOW.out.snoc ⟨(k : Int), 0, x⟩ (by rw [memsL_len]; omega)
      rw [← memsL_succ xs k hx] at how2
      simp only [] at hr
      have HR := Lib.hid hr
      have HN := Lib.hid how2
      clear hr how2 hx
      have hkz : (k : Int) < (n : Int) := by omega
      have hk0 : (0 : Int) ≤ (k : Int) := by omega
      go_wp2_with (at_builtin; refine wpList_app rfl (.tmp 11) (.tmp 18) 22 rfl rfl rfl HR.out ?_)
      clear c1
      go_roundg (gk - 1)
      case rel => exact ⟨k + 1, by omega, by go_num, HN.out⟩
      case measure => omega
    · obtain rfl : k = n := by omega
      go_wp2_with fail
      go_ret
      exact ⟨_, rfl, HOW.out⟩
end Go.Proofs.YtplkmbfeeegaiaaDoor
