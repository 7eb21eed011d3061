/-
  Slices of counters; Top.
-/
import Derived.Test.YtogkkghliogpeaaC3
import Derived.Maps.AppendAt
import Derived.OwnWalk
namespace Go.Proofs.Ytogkkghliogpeaa
open Go.RowKit Go.Shelf

/-- A counter: its key, its count, its error. -/
structure K3 where
  key : ByteArray
  n : Int
  e : Int
deriving DecidableEq
def ctrOf (x : C) : K3 := ⟨x.key, x.hi, x.hi - x.lo⟩
/-- The cells of counters. -/
def flat : List K3 → List Value
  | [] => []
  | x :: r => .string x.key :: .int .i64 x.n :: .int .i64 x.e :: flat r
theorem flat_append : ∀ a b : List K3, flat (a ++ b) = flat a ++ flat b
  | [], b => rfl
  | x :: r, b => by simp only [List.cons_append, flat]; rw [flat_append r b]
theorem flat_length : ∀ a : List K3, (flat a).length = a.length * 3
  | [] => rfl
  | x :: r => by simp only [flat, List.length_cons, flat_length r]; omega
theorem flat_get : ∀ (l : List K3) (j : Nat) (x : K3), l[j]? = some x → (flat l)[j * 3]? = some (.string x.key) ∧ (flat l)[j * 3 + 1]? = some (.int .i64 x.n) ∧ (flat l)[j * 3 + 2]? = some (.int .i64 x.e)
  | [], j, x, h => by simp at h
  | y :: r, 0, x, h => by
    simp at h
    subst h
    exact ⟨rfl, rfl, rfl⟩
  | y :: r, j + 1, x, h => by
    obtain ⟨h1, h2, h3⟩ := flat_get r j x (by simpa using h)
    have e : (j + 1) * 3 = j * 3 + 1 + 1 + 1 := by omega
    rw [e]
    simp only [flat, List.getElem?_cons_succ]
    exact ⟨h1, h2, h3⟩

theorem info37 : (Try.prog.info? 37).map (fun i => (i.zero, i.size, i.bytes)) = some (some (ctrV ⟨#[]⟩ 0 0), 3, 32) := by kernel_rfl

/-- A slice that reads as these counters. -/
def CtrsAt (W : World) (v : Value) (l : List K3) : Prop :=
  ∃ a c, v = .slice a l.length c ∧ ∀ (j : Nat) (x : K3), l[j]? = some x → ∃ b off, a = some ⟨b, off, none⟩ ∧ W.cell? ⟨b, off + j * 3, none⟩ = some (.string x.key) ∧ W.cell? ⟨b, off + j * 3 + 1, none⟩ = some (.int .i64 x.n) ∧ W.cell? ⟨b, off + j * 3 + 2, none⟩ = some (.int .i64 x.e)

theorem CtrsAt.of_owns {W : World} {lo : Nat} {v : Value} {l : List K3} (h : W.ownsRow lo 37 3 v l.length (flat l)) : CtrsAt W v l := by
  rcases h.2 with ⟨rfl, hx⟩ | ⟨g, cap, cur, rfl, r⟩
  · have : l = [] := List.eq_nil_of_length_eq_zero hx
    subst this
    exact ⟨none, 0, rfl, fun j s hj => by simp at hj⟩
  · refine ⟨some ⟨g, 0, none⟩, cap, rfl, fun j x hj => ⟨g, 0, rfl, ?_, ?_, ?_⟩⟩
    · have := h.cells (g := g) rfl _ _ (flat_get l j x hj).1
      rwa [Addr.add_lit] at this
    · have := h.cells (g := g) rfl _ _ (flat_get l j x hj).2.1
      rwa [Addr.add_lit, ← Nat.add_assoc] at this
    · have := h.cells (g := g) rfl _ _ (flat_get l j x hj).2.2
      rwa [Addr.add_lit, ← Nat.add_assoc] at this

theorem CtrsAt.keep {W W' : World} {v : Value} {l : List K3} {A : Nat → Prop} (h : CtrsAt W v l) (k : Keep A W W') (hA : ∀ b, v.ownBlock = some b → ¬ A b) : CtrsAt W' v l := by
  obtain ⟨a, c, rfl, h⟩ := h
  refine ⟨a, c, rfl, fun j s hj => ?_⟩
  obtain ⟨b, off, rfl, h1, h2, h3⟩ := h j s hj
  exact ⟨b, off, rfl, k.cell h1 (hA b rfl), k.cell h2 (hA b rfl), k.cell h3 (hA b rfl)⟩

theorem ownsRow_keep {W W' : World} {lo : Nat} {e : TypeId} {z : Nat} {v : Value} {n : Nat} {xs : List Value} {A : Nat → Prop} (h : W.ownsRow lo e z v n xs) (k : Keep A W W') (hA : ∀ b, v.ownBlock = some b → ¬ A b) : W'.ownsRow lo e z v n xs := by
  obtain ⟨h1, h2⟩ := h
  refine ⟨h1, ?_⟩
  rcases h2 with h2 | ⟨g, cap, cur, rfl, hb, hh, r⟩
  · exact .inl h2
  · exact .inr ⟨g, cap, cur, rfl, hb, k.heap hh (hA g rfl), r⟩

/-- One counter more. -/
theorem app_ctr (W : World) (ty lo : Nat) (v : Value) (l : List K3) (x : K3) (hown : W.ownsRow lo 37 3 v l.length (flat l)) (hn : l.length ≤ 100000) (hlo : lo ≤ W.heap.size) :
    ∃ v' w', (Builtin.append_ #[34, 34] ty #[v, .slice (some ⟨W.heap.size, 0, none⟩) 1 1]).run Try.prog (W.alloc (.cells #[.string x.key, .int .i64 x.n, .int .i64 x.e] 37)) = .ok v' w' ∧ w'.ownsRow lo 37 3 v' (l ++ [x]).length (flat (l ++ [x])) ∧
      Keep (fun k => v.ownBlock = some k) W w' ∧ (v'.ownBlock = v.ownBlock ∨ v'.ownBlock = some (W.heap.size + 1)) ∧ ∃ g c, v' = .slice (some ⟨g, 0, none⟩) (l.length + 1) c := by
  obtain ⟨i0, hi, hz0, hz1, hz2⟩ := info_parts info37
  obtain ⟨c0, c1, c2, _⟩ := three_cell W (.string x.key) (.int .i64 x.n) (.int .i64 x.e) 37
  obtain ⟨v', w', h1, h2, h3, h4, h5⟩ := run_append_own_at (P := Try.prog) (W.alloc (.cells #[.string x.key, .int .i64 x.n, .int .i64 x.e] 37)) lo 34 ty 37 i0 (ctrV ⟨#[]⟩ 0 0) 3 32 Try.underlying34 hi hz0 hz1 hz2 rfl (by decide) v l.length (flat l) (hown.alloc _) ⟨W.heap.size, 0, none⟩ 1 1 (flat [x]) rfl
    (by
      intro j u hj
      rw [Addr.add_lit, Nat.zero_add]
      match j, hj with
      | 0, hj => cases hj; exact c0
      | 1, hj => cases hj; exact c1
      | 2, hj => cases hj; exact c2
      | n + 3, hj => simp [flat] at hj)
    (by simp [flat, Value.oneCell']) (by unfold maxLen; omega) (by omega) (by rw [World.size_alloc]; omega)
  rw [← flat_append] at h2
  have e : l.length + 1 = (l ++ [x]).length := by simp
  refine ⟨v', w', h1, by rw [← e]; exact h2, ((Keep.refl _ W).alloc _).trans (Keep.of_grown h3), by rw [World.size_alloc] at h5; exact h5, ?_⟩
  exact ownsRow_succ h2

theorem wpList_app {P : Program} {ops : Array Oper} {rest : List Oper} {o : Oper} {a : Act} {w w' : World} {Q : Exit → Act → World → Prop} {v v2 v' : Value}
    (hg : o.guard = none) (s x : Operand) (t : TypeId) (hop : o.op = Op.call { callee := Callee.builtin Builtin.append, args := #[s, x], argTypes := #[t, t] })
    (hs : a.eval s = v) (hx : a.eval x = v2) (hrun : (Builtin.append_ #[t, t] o.type #[v, v2]).run P w = .ok v' w') (hK : wpList P ops Q rest (a.put o.dst v') w') : wpList P ops Q (o :: rest) a w := by
  refine wpList_plain hg fun K hK' => ?_
  unfold Oper.wp
  simp [execOp, hop, resolve, invoke, builtin, hs, hx, hrun, Result.andThen]
  exact hK' _ _ hK

def TopPost (w : World) (l : List K3) (e : Ending) (w' : World) : Prop := ∃ v, e = .returned v ∧ w'.ownsRow w.heap.size 37 3 v l.length (flat l) ∧ Keep (fun _ => False) w w'

set_option maxRecDepth 100000 in
set_option maxHeartbeats 400000 in
theorem top_nil (n : Int) (w : World) : Calls Try.prog 15 #[.pointer none, .int .i64 n] w fun e w' => e = .returned (.slice none 0 0) ∧ w = w' := by
  go_enter Try.func15, Try.ntmps15
  go_wp2_with fail
  go_step3
  go_wp2_with fail
  rw [Exit.noGoto_ret]
  go_ret
  exact ⟨rfl, rfl⟩

def TopR (W : World) (L : List C) (i : Nat) (vo : Value) (wr : World) : Prop := Keep (fun _ => False) W wr ∧ wr.ownsRow W.heap.size 37 3 vo ((L.take i).map ctrOf).length (flat ((L.take i).map ctrOf))

/-- The first ones. -/
def topC (L : List C) (n : Int) : List K3 := (L.take n.toNat).map ctrOf

set_option maxRecDepth 100000 in
set_option maxHeartbeats 1000000 in
theorem top_sk {w : World} {s bm cap : Nat} {L : List C} (h : Sk w s bm cap L) (hl : L.length ≤ 12) (n : Int) :
    Calls Try.prog 15 #[ptr s, .int .i64 n] w (TopPost w (topC L n)) := by
  have H := Lib.hid h
  have HO := Lib.hid (ordered_sk h.at_ h.ok.sorted hl)
  clear h
  go_enter Try.func15, Try.ntmps15
  go_wp2_with fail
  go_step3
  go_wp2_with fail
  go_step3
  go_wp2_with fail
  with_reducible refine HO.out.mono ?_
  rintro e W ⟨v, rfl, ⟨a, c, rfl, -, hc⟩, hk⟩
  have HC := Lib.hid hc
  have HK := Lib.hid hk
  have HSK := Lib.hid (H.out.keep hk (fun h => h) (fun h => h))
  rw [List.length_map]
  obtain ⟨m, hm⟩ : ∃ m, m = L.length := ⟨_, rfl⟩
  rw [← hm] at hl ⊢
  have HM := Lib.hid hm
  clear hc hk HO hm
  go_wp2_with fail
  go_loopg [4, 12] m (fun gh vo vi wr => ∃ (i : Nat), vi = .int .i64 i ∧ i ≤ m ∧ m ≤ gh + i ∧ i ≤ n.toNat ∧ TopR W L i vo wr)
  case atStart => exact ⟨0, rfl, Nat.zero_le _, by omega, Nat.zero_le _, Keep.refl _ _, by simpa [flat] using World.ownsRow_nil W W.heap.size 37 3⟩
  case round =>
    obtain ⟨i, rfl, him, hgh, hin, hk, hrow⟩ := hrel
    have HKR := Lib.hid hk
    have HROW := Lib.hid hrow
    clear hk hrow
    have hvs : u4 = .slice none 0 0 ∨ ∃ b n c, u4 = .slice (some ⟨b, 0, none⟩) n c := by
      rcases HROW.out.2 with ⟨rfl, _⟩ | ⟨g', cap, cur, rfl, _⟩
      · exact .inl rfl
      · exact .inr ⟨_, _, _, rfl⟩
    have HVS := Lib.hid hvs
    clear hvs
    by_cases hlt : i < m
    · have hltz : (i : Int) < (m : Int) := by omega
      have hi : i < L.length := by rw [← HM.out]; exact hlt
      have hget : L[i]? = some L[i] := List.getElem?_eq_getElem hi
      generalize L[i] = x at hget
      obtain ⟨b, rfl, hb, hc⟩ := HC.out i x.key (by rw [List.getElem?_map, hget]; rfl)
      have hc' := HKR.out.cell hc (fun h => h)
      have hxL : x ∈ L := List.mem_of_getElem? hget
      have HG := Lib.hid hget
      have HX := Lib.hid hxL
      have HKX := Lib.hid (H.out.ok.ks x hxL)
      clear hi hget hc hxL
      have hi0 : (0 : Int) ≤ (i : Int) := by omega
      by_cases hn : n ≤ (i : Int)
      · have HF : Hid (TopPost w (topC L n) (.returned u4) wr) := Lib.hid ⟨u4, rfl, by
          have e : n.toNat = i := by omega
          unfold topC
          rw [e]
          exact ⟨HROW.out.1, HROW.out.2.imp id (fun ⟨g, cp, cur, a1, a2, a3⟩ => ⟨g, cp, cur, a1, Nat.le_trans HK.out.size a2, a3⟩)⟩, HK.out.trans HKR.out⟩
        clear hin
        go_wp2_with fail
        rw [Exit.noGoto_ret]
        go_ret
        exact HF.out
      · have hn' : ¬ n ≤ (i : Int) := hn
        have HIN := Lib.hid hin
        clear hin
        go_wp2_with fail
        with_reducible refine (counter_sk (HSK.out.keep HKR.out (fun h => h) (fun h => h)) x.key HKX.out).mono ?_
        rintro e W2 ⟨rfl, k2⟩
        rw [hiOf_mem H.out.ok.keys HX.out, loOf_mem H.out.ok.keys HX.out]
        have hrow2 := ownsRow_keep HROW.out k2 (fun _ _ h => h)
        obtain ⟨v', w', r1, hown', hk', hloc, g, cc, rfl⟩ := app_ctr W2 34 W.heap.size u4 ((L.take i).map ctrOf) (ctrOf x) hrow2 (by simp; have := HM.out; omega) (Nat.le_trans HKR.out.size k2.size)
        have hst : (L.take i).map ctrOf ++ [ctrOf x] = (L.take (i + 1)).map ctrOf := by
          rw [List.take_add_one, HG.out]; simp
        rw [hst] at hown'
        have hr1 : (Builtin.append_ #[34, 34] 34 #[u4, .slice (some ⟨W2.heap.size, 0, none⟩) 1 1]).run Try.prog (W2.alloc (.cells #[.string x.key, .int .i64 x.hi, .int .i64 (x.hi - x.lo)] 37)) = .ok (.slice (some ⟨g, 0, none⟩) (((L.take i).map ctrOf).length + 1) cc) w' := r1
        have HN : Hid (TopR W L (i + 1) (.slice (some ⟨g, 0, none⟩) (((L.take i).map ctrOf).length + 1) cc) w') := Lib.hid ⟨(HKR.out.trans k2).trans' hk' (fun j e => .inr (HROW.out.lt j e).1), hown'⟩
        clear hrow2 r1 hown' hk' hloc hst k2
        generalize ((L.take i).map ctrOf).length + 1 = len at *
        rcases HVS.out with rfl | ⟨b5, n5, c5, rfl⟩
        all_goals
          go_wp2_with (at_builtin; refine wpList_app rfl (.tmp 20) (.tmp 24) 34 rfl rfl rfl hr1 ?_)
          clear hr1
          go_roundg (m - (i + 1))
          case rel => exact ⟨i + 1, by go_num, by omega, by omega, by have := HIN.out; omega, HN.out⟩
          case measure => omega
    · have hltz : ¬ (i : Int) < (m : Int) := by omega
      have HF : Hid (TopPost w (topC L n) (.returned u4) wr) := Lib.hid ⟨u4, rfl, by
        have e : i = L.length := by have := HM.out; omega
        have e2 : (L.take n.toNat) = L.take i := by rw [List.take_of_length_le (by omega), List.take_of_length_le (by omega)]
        unfold topC
        rw [e2]
        exact ⟨HROW.out.1, HROW.out.2.imp id (fun ⟨g, cp, cur, a1, a2, a3⟩ => ⟨g, cp, cur, a1, Nat.le_trans HK.out.size a2, a3⟩)⟩, HK.out.trans HKR.out⟩
      clear hin
      go_wp2_with fail
      go_ret
      exact HF.out
end Go.Proofs.Ytogkkghliogpeaa
