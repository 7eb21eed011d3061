/-
  Same, name, shape.
-/
import Derived.Test.YtigkhglgoabjaaaH1
namespace Go.Proofs.Ytigkhglgoabjaaa
open Go.RowKit Go.Shelf

/-- A slice of strings that reads as xs. -/
def StrsAt (W : World) (v : Value) (xs : List ByteArray) : Prop :=
  ∃ a c, v = .slice a xs.length c ∧ ∀ (j : Nat) (s : ByteArray), xs[j]? = some s → ∃ b off, a = some ⟨b, off, none⟩ ∧ W.cell? ⟨b, off + j, none⟩ = some (.string s)

theorem StrsAt.of_owns {W : World} {lo : Nat} {v : Value} {n : Nat} {xs : List ByteArray} (h : W.ownsRow lo 9 1 v n (xs.map Value.string)) : StrsAt W v xs := by
  have hl : xs.length = n := by have := h.1; simpa using this
  rcases h.2 with ⟨rfl, hx⟩ | ⟨g, cap, cur, rfl, r⟩
  · have : xs = [] := by
      apply List.eq_nil_of_length_eq_zero
      rw [hl]; simpa using hx
    subst this
    exact ⟨none, 0, rfl, fun j s hj => by cases hj⟩
  · refine ⟨some ⟨g, 0, none⟩, cap, by rw [hl], fun j s hj => ⟨g, 0, rfl, ?_⟩⟩
    have := h.cells (g := g) rfl j (.string s) (by rw [List.getElem?_map, hj]; rfl)
    rw [Addr.add_lit] at this
    exact this

theorem StrsAt.keep {W W' : World} {v : Value} {xs : List ByteArray} {A : Nat → Prop} (h : StrsAt W v xs) (k : Keep A W W') (hA : ∀ b, v.ownBlock = some b → ¬ A b) : StrsAt W' v xs := by
  obtain ⟨a, c, rfl, h⟩ := h
  refine ⟨a, c, rfl, fun j s hj => ?_⟩
  obtain ⟨b, off, rfl, hc⟩ := h j s hj
  exact ⟨b, off, rfl, k.cell hc (hA b rfl)⟩

theorem drewN_drewN (w : World) (a b : Nat) : (w.drewN a).drewN b = w.drewN (a + b) := by simp [World.drewN, Nat.add_assoc]

theorem beq_str (s t : ByteArray) : (s == t) = decide (s = t) := by
  have e : (s == t) = (s.data == t.data) := rfl
  rw [e]
  by_cases h : s = t
  · subst h; simp
  · have : s.data ≠ t.data := fun h' => h (by cases s; cases t; simp at h'; rw [h'])
    simp [h, this]
theorem bne_str (s t : ByteArray) : (s != t) = !decide (s = t) := by rw [bne, beq_str]

theorem toList_inj {s t : ByteArray} (e : s.toList = t.toList) : s = t := by
  rw [ByteArray.toList_eq, ByteArray.toList_eq] at e
  cases s; cases t
  simp at e
  rw [e]

set_option maxRecDepth 100000 in
set_option maxHeartbeats 1000000 in
theorem same_any (va vb : Value) (xs ys : List ByteArray) (w : World) (ha : StrsAt w va xs) (hb : StrsAt w vb ys) (hx : xs.length ≤ 1000000000) (hy : ys.length ≤ 1000000000) :
    Calls Try.prog 23 #[va, vb] w fun e w' => e = .returned (.bool (decide (xs = ys))) ∧ ∃ k, w' = w.drewN k := by
  obtain ⟨a, c, rfl, ha⟩ := ha
  obtain ⟨b, d, rfl, hb⟩ := hb
  by_cases hl : xs.length = ys.length
  · by_cases h0 : xs.length = 0
    · have e1 : xs = [] := List.eq_nil_of_length_eq_zero h0
      have e2 : ys = [] := List.eq_nil_of_length_eq_zero (hl ▸ h0)
      subst e1; subst e2
      clear ha hb
      have hd : ((0 : Int) != 0) = false := by decide
      go_enter Try.func23, Try.ntmps23
      go_wp2
      go_loop [5] (fun i => i = .int .i64 0) (fun _ => 0)
      case atStart => rfl
      case round =>
        subst hrel
        go_wp2
        go_ret
        exact ⟨by simp, 0, rfl⟩
    · obtain ⟨x0, hx0⟩ : ∃ x, xs[0]? = some x := ⟨_, List.getElem?_eq_getElem (by omega)⟩
      obtain ⟨y0, hy0⟩ : ∃ y, ys[0]? = some y := ⟨_, List.getElem?_eq_getElem (by omega)⟩
      obtain ⟨ba, oa, rfl, _⟩ := ha 0 x0 hx0
      obtain ⟨bb, ob, rfl, _⟩ := hb 0 y0 hy0
      have hca : ∀ (j : Nat) (s : ByteArray), xs[j]? = some s → w.cell? ⟨ba, oa + j, none⟩ = some (.string s) := fun j s hj => by obtain ⟨b', o', e, h⟩ := ha j s hj; cases e; exact h
      have hcb : ∀ (j : Nat) (s : ByteArray), ys[j]? = some s → w.cell? ⟨bb, ob + j, none⟩ = some (.string s) := fun j s hj => by obtain ⟨b', o', e, h⟩ := hb j s hj; cases e; exact h
      clear ha hb hx0 hy0
      obtain ⟨n, hn⟩ : ∃ n, n = xs.length := ⟨_, rfl⟩
      have hny : ys.length = n := by omega
      have HN := Lib.hid hn
      have HNY := Lib.hid hny
      rw [← hn, hny]
      have hnb : n ≤ 1000000000 := by omega
      have hd : ((n : Int) != (n : Int)) = false := by simp
      have HCA := Lib.hid hca; clear hca
      have HCB := Lib.hid hcb; clear hcb
      clear hl h0 hx hy hn hny
      go_enter Try.func23, Try.ntmps23
      go_wp2
      go_loopg [5] (n) (fun gh i wr => ∃ (k m : Nat), gh + k = n ∧ i = .int .i64 k ∧ wr = w.drewN m ∧ Hid (xs.take k = ys.take k))
      case atStart => exact ⟨0, 0, Nat.add_zero _, rfl, rfl, rfl⟩
      case round =>
        obtain ⟨k, m, hk, rfl, rfl, HE⟩ := hrel
        have HKK := Lib.hid hk; clear hk
        have hk : k ≤ n := by have := HKK.out; omega
        by_cases hlt : k < n
        · have hkx : k < xs.length := by rw [← HN.out]; exact hlt
          have hky : k < ys.length := by rw [HNY.out]; exact hlt
          have ca : w.cell? ⟨ba, oa + k, none⟩ = some (.string xs[k]) := HCA.out k _ (List.getElem?_eq_getElem hkx)
          have cb : w.cell? ⟨bb, ob + k, none⟩ = some (.string ys[k]) := HCB.out k _ (List.getElem?_eq_getElem hky)
          have t1 : xs.take (k + 1) = xs.take k ++ [xs[k]] := take_succ_get (List.getElem?_eq_getElem hkx)
          have t2 : ys.take (k + 1) = ys.take k ++ [ys[k]] := take_succ_get (List.getElem?_eq_getElem hky)
          have hb0 : (0 : Int) ≤ (k : Int) := by omega
          have hb1 : (k : Int) < (n : Int) := by omega
          by_cases hst : xs[k] = ys[k]
          · have hbe : (xs[k].toList == ys[k].toList) = true := by rw [hst]; simp
            have HT : Hid (xs.take (k + 1) = ys.take (k + 1)) := by
              show _ = _
              rw [t1, t2, HE.out, hst]
            clear t1 t2 hst
            generalize xs[k] = s at *
            generalize ys[k] = u at *
            clear hkx hky
            go_wp2
            go_quiet (fail)
            go_wp2
            go_roundg (gk - 1)
            case rel => exact ⟨k + 1, _, by have := HKK.out; omega, by go_num, rfl, HT⟩
            case measure => have := HKK.out; omega
          · have hbe : (xs[k].toList == ys[k].toList) = false := by
              rw [beq_eq_false_iff_ne]
              intro e
              exact hst (toList_inj e)
            have hne : decide (xs = ys) = false := by
              rw [decide_eq_false_iff_not]
              intro e
              apply hst
              subst e; rfl
            have HNE := Lib.hid hne; clear hne
            clear t1 t2 hst
            generalize xs[k] = s at *
            generalize ys[k] = u at *
            clear hkx hky
            go_wp2
            go_quiet (fail)
            go_wp2
            go_ret
            exact ⟨by rw [HNE.out]; rfl, _, drewN_drewN _ _ _⟩
        · have hkn : k = n := by omega
          have hee : decide (xs = ys) = true := by
            rw [decide_eq_true_iff]
            have := HE.out
            rw [List.take_of_length_le (by rw [← HN.out]; omega), List.take_of_length_le (by rw [HNY.out]; omega)] at this
            exact this
          have HEE := Lib.hid hee; clear hee hkn
          go_wp2
          go_ret
          exact ⟨by rw [HEE.out]; rfl, _, rfl⟩
  · have hne : decide (xs = ys) = false := by
      rw [decide_eq_false_iff_not]; intro e; exact hl (by rw [e])
    have HNE := Lib.hid hne; clear hne
    have hd : ((xs.length : Int) != (ys.length : Int)) = true := by simp; omega
    clear ha hb
    generalize xs.length = n1 at *
    generalize ys.length = n2 at *
    go_enter Try.func23, Try.ntmps23
    go_wp2
    go_ret
    exact ⟨by rw [HNE.out]; rfl, 0, rfl⟩
end Go.Proofs.Ytigkhglgoabjaaa
