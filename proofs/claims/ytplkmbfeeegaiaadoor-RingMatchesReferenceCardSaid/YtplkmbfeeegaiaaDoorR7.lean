/-
  The reference's order of nodes, clockwise from a point.
-/
import Derived.Test.YtplkmbfeeegaiaaDoorR6
import Derived.Test.YtplkmbfeeegaiaaDoorB3
namespace Go.Proofs.YtplkmbfeeegaiaaDoor
open Go.RowKit Go.Shelf

/-- Numbers in a slice of their own. -/
def OwnI (w : World) (l : List Int) (v : Value) (W : World) : Prop := Keep (fun _ => False) w W ∧ W.ownsRow w.heap.size 3 1 v l.length (l.map (fun x => Value.int .i64 x))
theorem OwnI.nil {w W : World} (k : Keep (fun _ => False) w W) : OwnI w [] (.slice none 0 0) W := ⟨k, by simpa using World.ownsRow_nil W w.heap.size 3 1⟩
theorem OwnI.keep {w W W' : World} {l : List Int} {v : Value} (h : OwnI w l v W) (k : Keep (fun _ => False) W W') : OwnI w l v W' := ⟨h.1.trans k, ownsRow_keep h.2 k (fun _ _ h => h)⟩
theorem OwnI.snoc {w W : World} {l : List Int} {v : Value} (h : OwnI w l v W) (x : Int) (hl : l.length ≤ 100000) :
    ∃ v' w', (Builtin.append_ #[26, 26] 26 #[v, .slice (some ⟨W.heap.size, 0, none⟩) 1 1]).run Tryd.prog (W.alloc (.cells #[.int .i64 x] 3)) = .ok v' w' ∧ OwnI w (l ++ [x]) v' w' ∧ Keep (fun j => v.ownBlock = some j) W w' ∧ (v'.ownBlock = v.ownBlock ∨ v'.ownBlock = some (W.heap.size + 1)) := by
  obtain ⟨v', w', r1, r2, r3, r4, g, c, r5⟩ := app_one 26 3 1 8 _ Tryd.underlying26 infoInt rfl (by decide) (by decide) W 26 w.heap.size v l.length (l.map (fun x => Value.int .i64 x)) [.int .i64 x] h.2 rfl (by simp [Value.oneCell']) (by omega) h.1.size
  refine ⟨v', w', r1, ⟨h.1.trans' r3 (fun j e => .inr (h.2.lt j e).1), ?_⟩, r3, r4⟩
  rw [List.map_append, List.length_append]
  exact r2
/-- More numbers, out of another slice of its own. -/
theorem OwnI.more {w W : World} {l l' : List Int} {v v2 : Value} (h : OwnI w l v W) (h2 : OwnI w l' v2 W) (hl : l.length + l'.length ≤ 100000) :
    ∃ v' w', (Builtin.append_ #[26, 26] 26 #[v, v2]).run Tryd.prog W = .ok v' w' ∧ OwnI w (l ++ l') v' w' ∧ Keep (fun j => v.ownBlock = some j) W w' := by
  obtain ⟨i0, hi, hz0, hz1, hz2⟩ := info_parts infoInt
  have h2' := h2
  rcases h2.2.2 with ⟨rfl, e0⟩ | ⟨g, c, cur, rfl, _⟩
  · have : l' = [] := List.eq_nil_of_length_eq_zero e0
    subst this
    exact ⟨v, W, run_append_owned_none W w.heap.size 26 26 3 i0 1 Tryd.underlying26 hi v l.length _ h.2, by rw [List.append_nil]; exact h, Keep.refl _ W⟩
  · obtain ⟨v', w', r1, r2, r3, r4, r5⟩ := run_append_own_at (P := Tryd.prog) W w.heap.size 26 26 3 i0 _ 1 8 Tryd.underlying26 hi hz0 hz1 hz2 rfl (by decide) v l.length _ h.2 ⟨g, 0, none⟩ l'.length c (l'.map (fun x => Value.int .i64 x)) (by simp)
      (fun j u hj => h2'.2.cells rfl j u hj)
      (by
        intro u hu
        obtain ⟨x, _, rfl⟩ := List.mem_map.1 hu
        rfl) (by unfold maxLen; omega) (by omega) h.1.size
    refine ⟨v', w', r1, ⟨h.1.trans' (Keep.of_grown r3) (fun j e => .inr (h.2.lt j e).1), ?_⟩, Keep.of_grown r3⟩
    rw [List.map_append, List.length_append]
    exact r2
theorem OwnI.slice {w W : World} {l : List Int} {v : Value} (h : OwnI w l v W) : ∃ a n c, v = .slice a n c ∧ n = l.length := by
  rcases h.2.2 with ⟨h1, h2⟩ | ⟨g, c, cur, h1, _⟩
  · exact ⟨_, _, _, h1, h2.symm⟩
  · exact ⟨_, _, _, h1, rfl⟩

/-- The first i points: those from p on, and those below. -/
def hiN (c : List Mk) (p : Int) (i : Nat) : List Int := ((c.take i).filter (fun x => decide (p ≤ x.point))).map Mk.node
def loN (c : List Mk) (p : Int) (i : Nat) : List Int := ((c.take i).filter (fun x => decide (x.point < p))).map Mk.node
theorem hiN_zero (c : List Mk) (p : Int) : hiN c p 0 = [] := by simp [hiN]
theorem loN_zero (c : List Mk) (p : Int) : loN c p 0 = [] := by simp [loN]
theorem hiN_succ {c : List Mk} {p : Int} {i : Nat} {x : Mk} (h : c[i]? = some x) : hiN c p (i + 1) = hiN c p i ++ (if p ≤ x.point then [x.node] else []) := by
  unfold hiN
  rw [List.take_add_one, h, List.filter_append, List.map_append]
  by_cases e : p ≤ x.point <;> simp [e]
theorem loN_succ {c : List Mk} {p : Int} {i : Nat} {x : Mk} (h : c[i]? = some x) : loN c p (i + 1) = loN c p i ++ (if x.point < p then [x.node] else []) := by
  unfold loN
  rw [List.take_add_one, h, List.filter_append, List.map_append]
  by_cases e : x.point < p <;> simp [e]
theorem hiN_len (c : List Mk) (p : Int) (i : Nat) : (hiN c p i).length ≤ c.length := by
  unfold hiN
  rw [List.length_map]
  exact Nat.le_trans (List.length_filter_le _ _) (by rw [List.length_take]; omega)
theorem loN_len (c : List Mk) (p : Int) (i : Nat) : (loN c p i).length ≤ c.length := by
  unfold loN
  rw [List.length_map]
  exact Nat.le_trans (List.length_filter_le _ _) (by rw [List.length_take]; omega)
theorem ords_hilo (l : List Mb) (p : Int) {i : Nat} (hi : (circ PN l).length ≤ i) : ords PN l p = hiN (circ PN l) p i ++ loN (circ PN l) p i := by
  unfold ords rot hiN loN
  rw [List.take_of_length_le hi, List.map_append]
theorem circ_len {l : List Mb} (hv : VL l) : (circ PN l).length ≤ 1536 := by
  have h1 := draws_len PN l hv.ok
  have h2 := hv.wsum
  have h3 := (sortMk_perm (draws PN l)).length_eq
  unfold circ
  omega

set_option maxRecDepth 100000 in
set_option maxHeartbeats 4000000 in
theorem clockwise_any (v : Value) (l : List Mb) (p : Int) (w : World) (h : Mbs w v l) (hv : VL l) : Calls Tryd.prog 39 #[v, .int .i64 p] w fun e w' => ∃ vo, e = .returned vo ∧ OwnI w (ords PN l p) vo w' := by
  have HSP := Lib.hid (spots_any v l w h hv)
  have HCL := Lib.hid (circ_len hv)
  obtain ⟨va, vn, vc, rfl⟩ : ∃ a n c, v = .slice a n c := by
    obtain ⟨a, c, b, off, h1, _⟩ := h.at_
    exact ⟨_, _, _, h1⟩
  clear h hv
  go_enter Tryd.func39, Tryd.ntmps39
  go_wp2_with fail
  with_reducible refine HSP.out.mono ?_
  rintro e W1 ⟨vs, rfl, hos⟩
  have HO := Lib.hid hos
  clear hos HSP
  obtain ⟨c, hc⟩ : ∃ c, circ PN l = c := ⟨_, rfl⟩
  have HC := Lib.hid hc
  rw [hc] at HO HCL
  clear hc
  obtain ⟨sa, sc, sb, hse, hsa⟩ : ∃ (a : Option Addr) (cc b : Nat), vs = .slice a c.length cc ∧ (0 < c.length → a = some ⟨b, 0, none⟩) := by
    rcases HO.out.form with ⟨h1, h2⟩ | ⟨b, cc, h1⟩
    · exact ⟨none, 0, 0, by rw [h1, h2]; rfl, fun h => by rw [h2] at h; simp at h⟩
    · exact ⟨_, cc, b, h1, fun _ => rfl⟩
  subst hse
  have HSA := Lib.hid hsa
  clear hsa
  obtain ⟨n, hn⟩ : ∃ n, c.length = n := ⟨_, rfl⟩
  have HN := Lib.hid hn
  rw [hn] at HSA HCL ⊢
  have hn2 : n ≤ 1536 := HCL.out
  clear hn
  go_wp2_with fail
  go_loopg [6, 7, 8] n (fun gh v6 v7 v8 wr => ∃ (i : Nat), gh + i = n ∧ v8 = .int .i64 i ∧ OwnI W1 (hiN c p i) v6 wr ∧ OwnI W1 (loN c p i) v7 wr ∧ (∀ b, v6.ownBlock = some b → v7.ownBlock ≠ some b))
  case atStart => exact ⟨0, by omega, rfl, by rw [hiN_zero]; exact OwnI.nil (Keep.refl _ _), by rw [loN_zero]; exact OwnI.nil (Keep.refl _ _), fun b hb => by cases hb⟩
  case round =>
    obtain ⟨i, hi, rfl, h1, h2, hne⟩ := hrel
    have H1 := Lib.hid h1
    have H2 := Lib.hid h2
    have HNE := Lib.hid hne
    clear h1 h2 hne
    by_cases hlt : i < n
    · obtain ⟨x, hx⟩ : ∃ x, c[i]? = some x := ⟨_, List.getElem?_eq_getElem (by rw [HN.out]; exact hlt)⟩
      obtain rfl := HSA.out (by omega)
      have hcx0 : W1.cell? ⟨sb, i * 2, none⟩ = some (.int .i64 x.point) := by
        have h3 := HO.out.2
        rw [HN.out] at h3
        rw [h3.cellAt (i * 2) (by omega)]
        exact flat_get encSp_len c i x 0 hx (by decide)
      have hcx1 : W1.cell? ⟨sb, i * 2 + 1, none⟩ = some (.int .i64 x.node) := by
        have h3 := HO.out.2
        rw [HN.out] at h3
        rw [h3.cellAt (i * 2 + 1) (by omega)]
        exact flat_get encSp_len c i x 1 hx (by decide)
      have c0 := H1.out.1.cell hcx0 (fun h => h)
      have c1 := H1.out.1.cell hcx1 (fun h => h)
      have HHS := Lib.hid (hiN_succ (p := p) hx)
      have HLS := Lib.hid (loN_succ (p := p) hx)
      have HL1 := Lib.hid (hiN_len c p i)
      have HL2 := Lib.hid (loN_len c p i)
      have hkz : (i : Int) < (n : Int) := by omega
      have hk0 : (0 : Int) ≤ (i : Int) := by omega
      clear hx hcx0 hcx1
      obtain ⟨xp, xn, xi⟩ := x
      simp only [] at c0 c1 HHS HLS
      by_cases hp : p ≤ xp
      · have HHS' : Hid (hiN c p (i + 1) = hiN c p i ++ [xn]) := Lib.hid (by rw [HHS.out, if_pos hp])
        have HLS' : Hid (loN c p (i + 1) = loN c p i) := Lib.hid (by rw [HLS.out, if_neg (by omega), List.append_nil])
        obtain ⟨v', W2, hr, how2, hk2, hob⟩ := H1.out.snoc xn (by have := HL1.out; have := HN.out; omega)
        have HR := Lib.hid hr
        have HN1 : Hid (OwnI W1 (hiN c p (i + 1)) v' W2) := Lib.hid (by rw [HHS'.out]; exact how2)
        have HN2 : Hid (OwnI W1 (loN c p (i + 1)) u7 W2) := Lib.hid (by
          rw [HLS'.out]
          exact ⟨how2.1, ownsRow_keep H2.out.2 hk2 (fun b hb e => HNE.out b e hb)⟩)
        have HNE2 : Hid (∀ b, v'.ownBlock = some b → u7.ownBlock ≠ some b) := Lib.hid (fun b hb e => by
          rcases hob with hob | hob
          · exact HNE.out b (hob ▸ hb) e
          · rw [hob] at hb
            cases hb
            have := (H2.out.2.lt _ e).2
            omega)
        clear hr how2 hk2 hob
        go_wp2_with (at_builtin; refine wpList_app rfl (.tmp 24) (.tmp 30) 26 rfl rfl rfl HR.out ?_)
        clear c0 c1
        go_roundg (gk - 1)
        case rel => exact ⟨i + 1, by omega, by go_num, HN1.out, HN2.out, HNE2.out⟩
        case measure => omega
      · have HHS' : Hid (hiN c p (i + 1) = hiN c p i) := Lib.hid (by rw [HHS.out, if_neg hp, List.append_nil])
        have HLS' : Hid (loN c p (i + 1) = loN c p i ++ [xn]) := Lib.hid (by rw [HLS.out, if_pos (by omega)])
        obtain ⟨v', W2, hr, how2, hk2, hob⟩ := H2.out.snoc xn (by have := HL2.out; have := HN.out; omega)
        have HR := Lib.hid hr
        have HN2 : Hid (OwnI W1 (loN c p (i + 1)) v' W2) := Lib.hid (by rw [HLS'.out]; exact how2)
        have HN1 : Hid (OwnI W1 (hiN c p (i + 1)) u6 W2) := Lib.hid (by
          rw [HHS'.out]
          exact ⟨how2.1, ownsRow_keep H1.out.2 hk2 (fun b hb e => HNE.out b hb e)⟩)
        have HNE2 : Hid (∀ b, u6.ownBlock = some b → v'.ownBlock ≠ some b) := Lib.hid (fun b hb e => by
          rcases hob with hob | hob
          · exact HNE.out b hb (hob ▸ e)
          · rw [hob] at e
            cases e
            have := (H1.out.2.lt _ hb).2
            omega)
        clear hr how2 hk2 hob
        go_wp2_with (at_builtin; refine wpList_app rfl (.tmp 32) (.tmp 38) 26 rfl rfl rfl HR.out ?_)
        clear c0 c1
        go_roundg (gk - 1)
        case rel => exact ⟨i + 1, by omega, by go_num, HN1.out, HN2.out, HNE2.out⟩
        case measure => omega
    · obtain rfl : i = n := by omega
      obtain ⟨v', W2, hr, how2, hk2⟩ := H1.out.more H2.out (by have := hiN_len c p i; have := loN_len c p i; have := HN.out; omega)
      have HR := Lib.hid hr
      have HE : Hid (OwnI w (ords PN l p) v' W2) := Lib.hid (by
        rw [ords_hilo l p (i := i) (by rw [HC.out, HN.out]; exact Nat.le_refl _), HC.out]
        exact ⟨HO.out.1.trans how2.1, ownsRow_lo how2.2 HO.out.1.size⟩)
      clear hr how2 hk2
      go_wp2_with (at_builtin; refine wpList_app rfl (.tmp 40) (.tmp 41) 26 rfl rfl rfl HR.out ?_)
      go_ret
      exact ⟨_, rfl, HE.out⟩
end Go.Proofs.YtplkmbfeeegaiaaDoor
