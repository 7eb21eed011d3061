/-
  The reference's words and read.
-/
import Derived.Test.YtfcfjeieocjllaaDoorW13
import Derived.Test.YtfcfjeieocjllaaDoorZ2
import Derived.Maps.AppendAt
import Derived.OwnWalk
import Derived.RangeFuncBox
namespace Go.Proofs.YtfcfjeieocjllaaDoor
open Go.RowKit Go.Shelf

theorem ownsRow_keep {W W' : World} {lo : Nat} {e : TypeId} {z : Nat} {v : Value} {n : Nat} {xs : List Value} {A : Nat → Prop} (h : W.ownsRow lo e z v n xs) (k : Keep A W W') (hA : ∀ b, v.ownBlock = some b → ¬ A b) : W'.ownsRow lo e z v n xs := by
  obtain ⟨h1, h2⟩ := h
  refine ⟨h1, ?_⟩
  rcases h2 with h2 | ⟨g, cap, cur, rfl, hb, hh, r⟩
  · exact .inl h2
  · exact .inr ⟨g, cap, cur, rfl, hb, k.heap hh (hA g rfl), r⟩
theorem cells_new (W : World) (xs : List Value) (t : TypeId) (j : Nat) (u : Value) (h : xs[j]? = some u) : (W.alloc (.cells xs.toArray t)).cell? ⟨W.heap.size, j, none⟩ = some u := by
  unfold World.cell?
  rw [World.alloc_heap_new]
  simp [h]

/-- One element more. -/
theorem app_one (st e : TypeId) (k by_ : Nat) (z : Value) (hst : Tryd.prog.underlying st = some (.slice e)) (hinfo : (Tryd.prog.info? e).map (fun i => (i.zero, i.size, i.bytes)) = some (some z, k, by_)) (hzs : z.cells.size = k) (hk : 0 < k) (hby : by_ ≤ 64)
    (W : World) (ty lo : Nat) (v : Value) (n : Nat) (xs new : List Value) (hown : W.ownsRow lo e k v n xs) (hlen : new.length = k) (h1 : ∀ u ∈ new, u.oneCell' = true) (hn : n ≤ 1000000) (hlo : lo ≤ W.heap.size) :
    ∃ v' w', (Builtin.append_ #[st, st] ty #[v, .slice (some ⟨W.heap.size, 0, none⟩) 1 1]).run Tryd.prog (W.alloc (.cells new.toArray e)) = .ok v' w' ∧ w'.ownsRow lo e k v' (n + 1) (xs ++ new) ∧
      Keep (fun k => v.ownBlock = some k) W w' ∧ (v'.ownBlock = v.ownBlock ∨ v'.ownBlock = some (W.heap.size + 1)) ∧ ∃ g c, v' = .slice (some ⟨g, 0, none⟩) (n + 1) c := by
  obtain ⟨i0, hi, hz0, hz1, hz2⟩ := info_parts hinfo
  obtain ⟨v', w', r1, r2, r3, r4, r5⟩ := run_append_own_at (P := Tryd.prog) (W.alloc (.cells new.toArray e)) lo st ty e i0 z k by_ hst hi hz0 hz1 hz2 hzs hk v n xs (hown.alloc _) ⟨W.heap.size, 0, none⟩ 1 1 new (by omega)
    (by
      intro j u hj
      rw [Addr.add_lit, Nat.zero_add]
      exact cells_new W new e j u hj)
    h1 (by unfold maxLen; omega) (by
      have : (n + 1) * by_ ≤ 1000001 * 64 := Nat.mul_le_mul (by omega) hby
      omega) (by rw [World.size_alloc]; omega)
  exact ⟨v', w', r1, r2, ((Keep.refl _ W).alloc _).trans (Keep.of_grown r3), by rw [World.size_alloc] at r5; exact r5, ownsRow_succ r2⟩

theorem wpList_app {P : Program} {ops : Array Oper} {rest : List Oper} {o : Oper} {a : Act} {w w' : World} {Q : Exit → Act → World → Prop} {v v2 v' : Value}
    (hg : o.guard = none) (s x : Operand) (t : TypeId) (hop : o.op = Op.call { callee := Callee.builtin Builtin.append, args := #[s, x], argTypes := #[t, t] })
    (hs : a.eval s = v) (hx : a.eval x = v2) (hrun : (Builtin.append_ #[t, t] o.type #[v, v2]).run P w = .ok v' w') (hK : wpList P ops Q rest (a.put o.dst v') w') : wpList P ops Q (o :: rest) a w := by
  refine wpList_plain hg fun K hK' => ?_
  unfold Oper.wp
  simp [execOp, hop, resolve, invoke, builtin, hs, hx, hrun, Result.andThen]
  exact hK' _ _ hK

theorem infoStr : (Tryd.prog.info? 9).map (fun i => (i.zero, i.size, i.bytes)) = some (some (.string ⟨#[]⟩), 1, 16) := by kernel_rfl
/-- Strings in a slice of their own. -/
def OwnT (w : World) (l : List ByteArray) (v : Value) (W : World) : Prop := Keep (fun _ => False) w W ∧ W.ownsRow w.heap.size 9 1 v l.length (l.map Value.string)
theorem OwnT.nil {w W : World} (k : Keep (fun _ => False) w W) : OwnT w [] (.slice none 0 0) W := ⟨k, by simpa using World.ownsRow_nil W w.heap.size 9 1⟩
theorem OwnT.keep {w W W' : World} {l : List ByteArray} {v : Value} (h : OwnT w l v W) (k : Keep (fun _ => False) W W') : OwnT w l v W' := ⟨h.1.trans k, ownsRow_keep h.2 k (fun _ _ h => h)⟩
theorem OwnT.snoc {w W : World} {l : List ByteArray} {v : Value} (h : OwnT w l v W) (x : ByteArray) (hl : l.length ≤ 100000) :
    ∃ v' w', (Builtin.append_ #[35, 35] 35 #[v, .slice (some ⟨W.heap.size, 0, none⟩) 1 1]).run Tryd.prog (W.alloc (.cells #[.string x] 9)) = .ok v' w' ∧ OwnT w (l ++ [x]) v' w' ∧ Keep (fun j => v.ownBlock = some j) W w' ∧ (v'.ownBlock = v.ownBlock ∨ v'.ownBlock = some (W.heap.size + 1)) := by
  obtain ⟨v', w', r1, r2, r3, r4, g, c, r5⟩ := app_one 35 9 1 16 _ Tryd.underlying35 infoStr rfl (by decide) (by decide) W 35 w.heap.size v l.length (l.map Value.string) [.string x] h.2 rfl (by simp [Value.oneCell']) (by omega) h.1.size
  refine ⟨v', w', r1, ⟨h.1.trans' r3 (fun j e => .inr (h.2.lt j e).1), ?_⟩, r3, r4⟩
  rw [List.map_append, List.length_append]
  exact r2

theorem wds_owns {W : World} {lo : Nat} {v : Value} {xs : List ByteArray} (h : W.ownsRow lo 9 1 v xs.length (xs.map Value.string)) (hl : xs.length ≤ 1000000) : Wds W v xs := by
  rcases h.2 with ⟨rfl, h0⟩ | ⟨g, cap, cur, rfl, hg, hh, hcap, r⟩
  · have : xs = [] := List.eq_nil_of_length_eq_zero h0
    subst this
    exact ⟨by simp, none, 0, 0, 0, rfl, by simp, fun h => by simp at h, fun j x hj => by simp at hj⟩
  · refine ⟨hl, some ⟨g, 0, none⟩, cap, g, 0, rfl, hcap, fun _ => rfl, fun j x hj => ?_⟩
    have h3 := h.cells (g := g) rfl j (.string x) (by rw [List.getElem?_map, hj]; rfl)
    rw [Addr.add_lit] at h3
    exact h3
/-! ## read -/
def rdG (l : List UInt8) (k : Nat) : Int := match l with
  | [] => 1
  | c :: _ => if k ≠ 0 ∧ c.toNat = 45 then -1 else 1
def rdN (l : List UInt8) (k : Nat) : Int := match l with
  | [] => 0
  | c :: r => if c.toNat = 45 then (r.take (k - 1)).foldl rdStep 0 else ((c :: r).take k).foldl rdStep 0
theorem rdN_zero (l : List UInt8) : rdN l 0 = 0 := by
  cases l with
  | nil => rfl
  | cons c r => simp [rdN]
theorem rdG_zero (l : List UInt8) : rdG l 0 = 1 := by
  cases l with
  | nil => rfl
  | cons c r => simp [rdG]
theorem rd_minus {l : List UInt8} (h0 : 0 < l.length) (h : (l[0]'h0).toNat = 45) : rdN l 1 = 0 ∧ rdG l 1 = -1 := by
  cases l with
  | nil => cases h0
  | cons c r =>
    have h : c.toNat = 45 := h
    simp [rdN, rdG, h]
theorem rd_next {l : List UInt8} {k : Nat} (hk : k < l.length) (h : k ≠ 0 ∨ ∀ h0 : 0 < l.length, (l[0]'h0).toNat ≠ 45) : rdN l (k + 1) = rdStep (rdN l k) l[k] ∧ rdG l (k + 1) = rdG l k := by
  cases l with
  | nil => cases hk
  | cons c r =>
    by_cases hc : c.toNat = 45
    · have hk0 : k ≠ 0 := by
        rcases h with h | h
        · exact h
        · exact absurd hc (h (by simp))
      obtain ⟨m, rfl⟩ := Nat.exists_eq_succ_of_ne_zero hk0
      simp only [rdN, rdG, hc, if_true]
      simp only [List.length_cons] at hk
      have hm : m < r.length := by omega
      refine ⟨?_, by simp⟩
      show (r.take (m + 1)).foldl rdStep 0 = rdStep ((r.take m).foldl rdStep 0) r[m]
      rw [List.take_add_one, List.getElem?_eq_getElem hm, List.foldl_append]
      rfl
    · simp only [rdN, rdG, hc, if_false, and_false]
      refine ⟨?_, trivial⟩
      rw [List.take_add_one, List.getElem?_eq_getElem hk, List.foldl_append]
      rfl
theorem foldl_rd_bound : ∀ (n : Nat) (l : List UInt8), l.length = n → -(24 * (10 : Int) ^ n - 24) ≤ l.foldl rdStep 0 ∧ l.foldl rdStep 0 ≤ 24 * (10 : Int) ^ n - 24
  | 0, l, h => by
    have : l = [] := List.eq_nil_of_length_eq_zero h
    subst this
    simp
  | n + 1, l, h => by
    have hne : l ≠ [] := fun e => by subst e; cases h
    have h2 := List.dropLast_concat_getLast hne
    have h3 := foldl_rd_bound n l.dropLast (by simp [h])
    rw [← h2, List.foldl_append]
    simp only [List.foldl_cons, List.foldl_nil]
    have h4 := (l.getLast hne).toNat_lt
    generalize l.dropLast.foldl rdStep 0 = x at *
    generalize l.getLast hne = c at *
    unfold rdStep
    rw [Int.pow_succ]
    generalize (10 : Int) ^ n = p at *
    omega
theorem pow10_le : ∀ {m n : Nat}, m ≤ n → (10 : Int) ^ m ≤ (10 : Int) ^ n := by
  intro m n h
  have h2 := Nat.pow_le_pow_right (show 10 > 0 by decide) h
  exact_mod_cast h2
theorem rd_bound {l : List UInt8} {k : Nat} (hk : k ≤ 11) : -2400000000000 ≤ rdN l k ∧ rdN l k ≤ 2400000000000 := by
  have key : ∀ m : List UInt8, m.length ≤ 11 → -2400000000000 ≤ m.foldl rdStep 0 ∧ m.foldl rdStep 0 ≤ 2400000000000 := fun m hm => by
    have h1 := foldl_rd_bound m.length m rfl
    have h2 := pow10_le hm
    have h3 : (10 : Int) ^ 11 = 100000000000 := by decide
    rw [h3] at h2
    omega
  unfold rdN
  split
  · omega
  · split
    · exact key _ (by rw [List.length_take]; omega)
    · exact key _ (by rw [List.length_take]; omega)
theorem rd_end (l : List UInt8) : rdG l (min l.length 11) * rdN l (min l.length 11) = rdL l := by
  cases l with
  | nil => simp [rdG, rdN, rdL]
  | cons c r =>
    have h0 : min (c :: r).length 11 ≠ 0 := by simp only [List.length_cons]; omega
    have h1 : (c :: r).take (min (c :: r).length 11) = (c :: r).take 11 := by
      rw [← List.take_take]
      exact List.take_of_length_le (by rw [List.length_take]; exact Nat.min_le_right _ _)
    have h2 : r.take (min (c :: r).length 11 - 1) = r.take 10 := by
      have : min (c :: r).length 11 - 1 = min r.length 10 := by simp only [List.length_cons]; omega
      rw [this, ← List.take_take]
      exact List.take_of_length_le (by rw [List.length_take]; exact Nat.min_le_right _ _)
    unfold rdG rdN rdL
    simp only []
    by_cases hc : c.toNat = 45
    · rw [if_pos ⟨h0, hc⟩, if_pos hc, if_pos hc, h2]
      omega
    · rw [if_neg (fun h => hc h.2), if_neg hc, if_neg hc, h1]
      omega
set_option maxRecDepth 100000 in
set_option maxHeartbeats 2000000 in
theorem read_ref (s : ByteArray) (w : World) : Calls Tryd.prog 30 #[.string s] w fun e w' => e = .returned (.int .i64 (rdL s.data.toList)) ∧ w = w' := by
  have hln : s.data.toList.length = s.size := by rw [Array.length_toList, ByteArray.size_data]
  have HLN := Lib.hid hln
  have HEND := Lib.hid (rd_end s.data.toList)
  rw [hln] at HEND
  clear hln
  go_enter Tryd.func30, Tryd.ntmps30
  go_wp2_with fail
  go_loopg [3, 4, 5] (min s.size 11) (fun gh v3 v4 v5 wr => ∃ k : Nat, v5 = .int .i64 k ∧ k + gh = min s.size 11 ∧ v3 = .int .i64 (rdN s.data.toList k) ∧ v4 = .int .i64 (rdG s.data.toList k) ∧ w = wr)
  case atStart => exact ⟨0, rfl, by omega, by rw [rdN_zero], by rw [rdG_zero], rfl⟩
  case round =>
    obtain ⟨k, rfl, hi, rfl, rfl, rfl⟩ := hrel
    by_cases hlt : k < min s.size 11
    · have hkl : k < s.data.toList.length := by have := HLN.out; omega
      have hks : k < s.size := by omega
      obtain ⟨bt, hbt⟩ : ∃ bt : Nat, s[k].toNat = bt := ⟨_, rfl⟩
      have hb : bt < 256 := by rw [← hbt]; exact s[k].toNat_lt
      have hbl : (s.data.toList[k]).toNat = bt := by rw [← hbt]; rfl
      obtain ⟨hx0, hx1⟩ := rd_bound (l := s.data.toList) (k := k) (by omega)
      have h11 : (k : Int) < 11 := by omega
      have hk0 : (0 : Int) ≤ (k : Int) := by omega
      by_cases hm : k = 0 ∧ bt = 45
      · obtain ⟨rfl, rfl⟩ := hm
        have HM := Lib.hid (rd_minus (l := s.data.toList) (by omega) hbl)
        have hz := rdN_zero s.data.toList
        clear hbl
        go_wp2_with fail
        go_roundg (gk - 1)
        case rel => exact ⟨1, by go_num, by omega, by rw [HM.out.1, hz], by rw [HM.out.2], rfl⟩
        case measure => omega
      · have HN : Hid (rdN s.data.toList (k + 1) = 10 * rdN s.data.toList k + ((bt : Int) - 48) ∧ rdG s.data.toList (k + 1) = rdG s.data.toList k) := Lib.hid (by
          have h := rd_next hkl (by
            by_cases hk : k = 0
            · refine .inr fun h0 h45 => hm ⟨hk, ?_⟩
              subst hk
              rw [← hbl]
              exact h45
            · exact .inl hk)
          refine ⟨?_, h.2⟩
          rw [h.1]
          unfold rdStep
          rw [hbl])
        clear hbl
        generalize rdN s.data.toList k = x at *
        generalize rdG s.data.toList k = g at *
        have hm2 : ¬ ((k : Int) = 0) ∨ ¬ ((bt : Int) = 45) := by omega
        by_cases hk : k = 0
        · have hb45 : ¬ ((bt : Int) = 45) := by omega
          subst hk
          clear hm hm2
          go_wp2_with fail
          go_roundg (gk - 1)
          case rel => exact ⟨0 + 1, by go_num, by omega, by rw [HN.out.1] <;> go_num, by rw [HN.out.2], rfl⟩
          case measure => omega
        · have hki : ¬ ((k : Int) = 0) := by omega
          clear hm hm2
          go_wp2_with fail
          go_roundg (gk - 1)
          case rel => exact ⟨k + 1, by go_num, by omega, by rw [HN.out.1] <;> go_num, by rw [HN.out.2], rfl⟩
          case measure => omega
    · obtain rfl : k = min s.size 11 := by omega
      have hx := rd_bound (l := s.data.toList) (k := min s.size 11) (by omega)
      have hg : rdG s.data.toList (min s.size 11) = 1 ∨ rdG s.data.toList (min s.size 11) = -1 := by
        unfold rdG
        split
        · exact .inl rfl
        · split
          · exact .inr rfl
          · exact .inl rfl
      have hstop : ¬ ((((min s.size 11 : Nat) : Int) < (s.size : Int)) ∧ ((min s.size 11 : Nat) : Int) < 11) := by omega
      generalize rdN s.data.toList (min s.size 11) = x at *
      generalize rdG s.data.toList (min s.size 11) = g at *
      generalize min s.size 11 = k at *
      have hgx : g * x = -x ∨ g * x = x := by rcases hg with rfl | rfl <;> omega
      by_cases h1 : (k : Int) < (s.size : Int)
      · have h2 : ¬ ((k : Int) < 11) := fun h => hstop ⟨h1, h⟩
        go_wp2_with fail
        go_ret
        exact ⟨by rw [← HEND.out] <;> go_num, rfl⟩
      · go_wp2_with fail
        go_ret
        exact ⟨by rw [← HEND.out] <;> go_num, rfl⟩

/-! ## words -/
def wSt (s : List UInt8) (k : Nat) (l : List (List UInt8)) (f : Nat) : Prop := (k ≤ s.length ∧ wFold (s.take k) = (l, (s.take k).drop f)) ∨ (k = s.length + 1 ∧ l = wordsR s)
theorem wSt_zero (s : List UInt8) : wSt s 0 [] 0 := .inl ⟨by omega, by simp [wFold]⟩
theorem wFold_snoc (s : List UInt8) {k : Nat} (hk : k < s.length) : wFold (s.take (k + 1)) = wStep (wFold (s.take k)) s[k] := by
  unfold wFold
  rw [List.take_add_one, List.getElem?_eq_getElem hk, List.foldl_append]
  rfl
theorem wSt_space {s : List UInt8} {k f : Nat} {l : List (List UInt8)} (h : wSt s k l f) (hk : k < s.length) (hc : s[k] = 32) : wSt s (k + 1) (l ++ [(s.take k).drop f]) (k + 1) := by
  rcases h with ⟨_, h⟩ | ⟨h, _⟩
  · refine .inl ⟨hk, ?_⟩
    rw [wFold_snoc s hk, h, hc]
    unfold wStep
    rw [if_pos rfl, show (s.take (k + 1)).drop (k + 1) = [] from List.drop_of_length_le (by rw [List.length_take]; omega)]
  · omega
theorem wSt_other {s : List UInt8} {k f : Nat} {l : List (List UInt8)} (h : wSt s k l f) (hk : k < s.length) (hf : f ≤ k) (hc : s[k] ≠ 32) : wSt s (k + 1) l f := by
  rcases h with ⟨_, h⟩ | ⟨h, _⟩
  · refine .inl ⟨hk, ?_⟩
    rw [wFold_snoc s hk, h]
    unfold wStep
    rw [if_neg hc, List.take_add_one, List.getElem?_eq_getElem hk, List.drop_append_of_le_length (by rw [List.length_take]; omega)]
    rfl
  · omega
theorem wSt_last {s : List UInt8} {f : Nat} {l : List (List UInt8)} (h : wSt s s.length l f) : wSt s (s.length + 1) (l ++ [(s.take s.length).drop f]) (s.length + 1) := by
  rcases h with ⟨_, h⟩ | ⟨h, _⟩
  · refine .inr ⟨rfl, ?_⟩
    unfold wordsR
    rw [List.take_of_length_le (Nat.le_refl _)] at h ⊢
    rw [h]
  · omega
theorem wSt_end {s : List UInt8} {f : Nat} {l : List (List UInt8)} (h : wSt s (s.length + 1) l f) : l = wordsR s := by
  rcases h with ⟨h, _⟩ | ⟨_, h⟩
  · omega
  · exact h
set_option maxRecDepth 100000 in
set_option maxHeartbeats 4000000 in
theorem words_ref (s : ByteArray) (hs : s.size ≤ 1000) (w : World) : Calls Tryd.prog 28 #[.string s] w fun e w' => ∃ v, e = .returned v ∧ Wds w' v ((wordsR s.data.toList).map bs) ∧ Keep (fun _ => False) w w' := by
  have hln : s.data.toList.length = s.size := by rw [Array.length_toList, ByteArray.size_data]
  have HLN := Lib.hid hln
  clear hln
  go_enter Tryd.func28, Tryd.ntmps28
  go_wp2_with fail
  go_loopg [3, 4, 5] (s.size + 1) (fun gh v3 v4 v5 wr => ∃ (k f : Nat) (l : List (List UInt8)) (ov : Value), v3 = ov ∧ v5 = .int .i64 k ∧ k + gh = s.size + 1 ∧ v4 = .int .i64 f ∧ f ≤ k ∧ l.length ≤ k ∧ OwnT w (l.map bs) ov wr ∧ Hid (wSt s.data.toList k l f))
  case atStart => exact ⟨0, 0, [], _, rfl, rfl, by omega, rfl, by omega, by simp, .nil (Keep.refl _ w), Lib.hid (wSt_zero _)⟩
  case round =>
    obtain ⟨k, f, l, ov, rfl, rfl, hi, rfl, hf, hll, how, HST⟩ := hrel
    have HOW := Lib.hid how
    have HLL := Lib.hid hll
    clear how hll
    by_cases hlt : k ≤ s.size
    · have hk0 : (0 : Int) ≤ (k : Int) := by omega
      have hf0 : (0 : Int) ≤ (f : Int) := by omega
      have hfk : (f : Int) ≤ (k : Int) := by omega
      have hks : (k : Int) ≤ (s.size : Int) := by omega
      by_cases hend : k = s.size
      · subst hend
        have HNX : Hid (wSt s.data.toList (s.size + 1) (l ++ [(s.data.toList.take s.size).drop f]) (s.size + 1)) := Lib.hid (by
          have h := HST.out
          rw [← HLN.out] at h ⊢
          exact wSt_last h)
        obtain ⟨x, hx⟩ : ∃ x, s.extract f s.size = x := ⟨_, rfl⟩
        have HX : Hid (bs ((s.data.toList.take s.size).drop f) = x) := Lib.hid (by rw [← hx, extract_bs])
        obtain ⟨v', W4, hr, how4, -, -⟩ := HOW.out.snoc x (by rw [List.length_map]; have := HLL.out; omega)
        have HOW4 := Lib.hid how4
        have HR := Lib.hid hr
        clear hr how4
        go_wp2_with (at_builtin; refine wpList_app rfl (.tmp 22) (.tmp 27) 35 rfl rfl rfl HR.out ?_)
        go_roundg (gk - 1)
        case rel => exact ⟨s.size + 1, s.size + 1, l ++ [(s.data.toList.take s.size).drop f], _, rfl, by go_num, by omega, by go_num, by omega, by rw [List.length_append]; have := HLL.out; simp; omega, by rw [List.map_append, List.map_cons, HX.out]; exact HOW4.out, HNX⟩
        case measure => omega
      · have hkl : k < s.size := by omega
        have hkl2 : k < s.data.toList.length := by rw [HLN.out]; exact hkl
        have hki : ¬ (k : Int) = (s.size : Int) := by omega
        have hki2 : (k : Int) < (s.size : Int) := by omega
        obtain ⟨bt, hbt⟩ : ∃ bt : Nat, s[k].toNat = bt := ⟨_, rfl⟩
        have hb : bt < 256 := by rw [← hbt]; exact s[k].toNat_lt
        have hbl : (s.data.toList[k]).toNat = bt := by rw [← hbt]; rfl
        by_cases h32 : bt = 32
        · have HNX : Hid (wSt s.data.toList (k + 1) (l ++ [(s.data.toList.take k).drop f]) (k + 1)) := Lib.hid (wSt_space HST.out hkl2 (by
            apply UInt8.toNat_inj.1
            rw [hbl, h32]
            rfl))
          obtain ⟨x, hx⟩ : ∃ x, s.extract f k = x := ⟨_, rfl⟩
          have HX : Hid (bs ((s.data.toList.take k).drop f) = x) := Lib.hid (by rw [← hx, extract_bs])
          obtain ⟨v', W4, hr, how4, -, -⟩ := HOW.out.snoc x (by rw [List.length_map]; have := HLL.out; omega)
          have HOW4 := Lib.hid how4
          have HR := Lib.hid hr
          have hbi : (bt : Int) = 32 := by omega
          clear hr how4 hbl
          go_wp2_with (at_builtin; refine wpList_app rfl (.tmp 22) (.tmp 27) 35 rfl rfl rfl HR.out ?_)
          go_roundg (gk - 1)
          case rel => exact ⟨k + 1, k + 1, l ++ [(s.data.toList.take k).drop f], _, rfl, by go_num, by omega, by go_num, by omega, by rw [List.length_append]; have := HLL.out; simp; omega, by rw [List.map_append, List.map_cons, HX.out]; exact HOW4.out, HNX⟩
          case measure => omega
        · have HNX : Hid (wSt s.data.toList (k + 1) l f) := Lib.hid (wSt_other HST.out hkl2 hf (fun e => h32 (by
            rw [← hbl, e]
            rfl)))
          have hka : ((k : Int) == (s.size : Int)) = false := by simpa using hki
          have hkb : ((bt : Int) == 32) = false := by
            have h9 : ¬ (bt : Int) = 32 := by omega
            simpa using h9
          clear hbl
          go_wp2_with fail
          go_roundg (gk - 1)
          case rel => exact ⟨k + 1, f, l, _, rfl, by go_num, by omega, rfl, by omega, by have := HLL.out; omega, HOW.out, HNX⟩
          case measure => omega
    · obtain rfl : k = s.size + 1 := by omega
      have HL : Hid (l = wordsR s.data.toList) := Lib.hid (by
        have h := HST.out
        rw [← HLN.out] at h
        exact wSt_end h)
      have HW := Lib.hid (wds_owns HOW.out.2 (by rw [List.length_map]; have := HLL.out; omega))
      have hstop : ¬ (((s.size + 1 : Nat) : Int) ≤ (s.size : Int)) := by omega
      have HK := Lib.hid HOW.out.1
      generalize ((s.size + 1 : Nat) : Int) = kk at *
      go_wp2_with fail
      go_ret
      exact ⟨_, rfl, by rw [← HL.out]; exact HW.out, HK.out⟩
end Go.Proofs.YtfcfjeieocjllaaDoor
