/-
  Assign: what holds between two slots.
-/
import Derived.Test.YtplkmbfeeegaiaaDoorB1
namespace Go.Proofs.YtplkmbfeeegaiaaDoor
open Go.RowKit Go.Shelf

theorem arr40 (t : Array Value) (h : t.size = 40) : ∃ x0 x1 x2 x3 x4 x5 x6 x7 x8 x9 x10 x11 x12 x13 x14 x15 x16 x17 x18 x19 x20 x21 x22 x23 x24 x25 x26 x27 x28 x29 x30 x31 x32 x33 x34 x35 x36 x37 x38 x39, t = #[x0, x1, x2, x3, x4, x5, x6, x7, x8, x9, x10, x11, x12, x13, x14, x15, x16, x17, x18, x19, x20, x21, x22, x23, x24, x25, x26, x27, x28, x29, x30, x31, x32, x33, x34, x35, x36, x37, x38, x39] := by
  obtain ⟨l⟩ := t
  simp only [List.size_toArray] at h
  match l, h with
  | x0 :: x1 :: x2 :: x3 :: x4 :: x5 :: x6 :: x7 :: x8 :: x9 :: x10 :: x11 :: x12 :: x13 :: x14 :: x15 :: x16 :: x17 :: x18 :: x19 :: x20 :: x21 :: x22 :: x23 :: x24 :: x25 :: x26 :: x27 :: x28 :: x29 :: x30 :: x31 :: x32 :: x33 :: x34 :: x35 :: x36 :: x37 :: x38 :: x39 :: [], _ => exact ⟨x0, x1, x2, x3, x4, x5, x6, x7, x8, x9, x10, x11, x12, x13, x14, x15, x16, x17, x18, x19, x20, x21, x22, x23, x24, x25, x26, x27, x28, x29, x30, x31, x32, x33, x34, x35, x36, x37, x38, x39, rfl⟩

abbrev markD (D : Nat) : Deferred := { target := .collected D, args := #[] }
/-- A frame leaves with its marks. -/
theorem leaves_marks {fn : Func} {tmps : Array Value} {R : Ending → World → Prop} : ∀ (Ds : List Nat) (W : World), Ds.Nodup → (∀ D ∈ Ds, W.heap[D]? = some (.deferred (some []))) →
    (∀ W', Keep (fun j => j ∈ Ds) W W' → LeavesInM Fence.wide 0 Tryd.prog fn tmps R [] .returning W') → LeavesInM Fence.wide 0 Tryd.prog fn tmps R (Ds.map markD) .returning W
  | [], W, _, _, h => h W (Keep.refl _ _)
  | D :: Ds, W, hn, hd, h => by
    rw [List.nodup_cons] at hn
    refine ⟨by simp, .inl ⟨D, _, rfl, run_takeDeferred (hd D (by simp)), ?_⟩⟩
    refine leaves_marks Ds _ hn.2 (fun E hE => ?_) (fun W' k => h W' ?_)
    · rw [World.putObj_heap_other (fun e => hn.1 (by rw [← e]; exact hE))]
      exact hd E (by simp [hE])
    · exact ((Keep.refl (fun j => j ∈ D :: Ds) W).putObj _ (.inl (by simp))).trans (k.mono (fun j hj => by simp [hj]))

/-- Behind some slots. -/
structure AI (Wc : World) (bm bO : Nat) (Ds : List Nat) (st : (Int → Int) × List Int) (vo : Value) (W : World) : Prop where
  k : Keep (fun j => j = bm ∨ j = bO) Wc W
  mf : MapF W bm st.1
  co : W.cell? ⟨bO, 0, none⟩ = some vo
  fo : W.frozen? ⟨bO, 0, none⟩ = false
  ow : W.ownsRow Wc.heap.size 3 1 vo st.2.length (st.2.map (fun x => Value.int .i64 x))
  ds : ∀ D ∈ Ds, Wc.heap.size ≤ D ∧ W.heap[D]? = some (.deferred (some []))
  nd : Ds.Nodup

theorem grown_cell {V V' : World} {row : Option Nat} {B b o : Nat} {v : Value} (h : V.cell? ⟨b, o, none⟩ = some v) (hg : V.grownBy V' row) (hr : ∀ r, row = some r → B ≤ r ∧ ∃ o : Obj, V.heap[r]? = some o ∧ o.isCells = false) : V'.cell? ⟨b, o, none⟩ = some v := by
  refine (Keep.of_grown hg).cell h (fun e => ?_)
  obtain ⟨_, ob, h1, h2⟩ := hr b e
  unfold World.cell? at h
  rw [h1] at h
  cases ob <;> simp_all [Obj.isCells]
theorem grown_mks {V V' : World} {row : Option Nat} {B : Nat} {v : Value} {l : List Mk} (h : Mks V v l) (hg : V.grownBy V' row) (hr : ∀ r, row = some r → B ≤ r ∧ ∃ o : Obj, V.heap[r]? = some o ∧ o.isCells = false) : Mks V' v l := by
  obtain ⟨a, c, b, off, rfl, hc, ha, h1⟩ := h.at_
  exact ⟨h.n, a, c, b, off, rfl, hc, ha, fun j x hj => ⟨grown_cell (h1 j x hj).1 hg hr, grown_cell (h1 j x hj).2.1 hg hr, grown_cell (h1 j x hj).2.2 hg hr⟩⟩
theorem grown_row {V V' : World} {row : Option Nat} {B lo e z n : Nat} {v : Value} {xs : List Value} (h : V.ownsRow lo e z v n xs) (hg : V.grownBy V' row) (hr : ∀ r, row = some r → B ≤ r ∧ ∃ o : Obj, V.heap[r]? = some o ∧ o.isCells = false) : V'.ownsRow lo e z v n xs := by
  refine ownsRow_keep h (Keep.of_grown hg) (fun b hb e => ?_)
  obtain ⟨_, o, ho, hc⟩ := hr b e
  rcases h.2 with ⟨rfl, _⟩ | ⟨g', cap, cur, rfl, hb', hh, _⟩
  · cases hb
  · cases hb; rw [hh] at ho; cases ho; cases hc

theorem AI.grown {Wc V V' : World} {bm bO : Nat} {Ds : List Nat} {st : (Int → Int) × List Int} {vo : Value} {row : Option Nat} {B : Nat} (h : AI Wc bm bO Ds st vo V) (hbm : bm < Wc.heap.size) (hbO : bO < Wc.heap.size) (hB : Wc.heap.size ≤ B) (hD : ∀ D ∈ Ds, D < B)
    (hg : V.grownBy V' row) (hr : ∀ r, row = some r → B ≤ r ∧ ∃ o : Obj, V.heap[r]? = some o ∧ o.isCells = false) : AI Wc bm bO Ds st vo V' := by
  have k := Keep.of_grown hg
  have hk : ∀ j, row = some j → B ≤ j := fun j e => (hr j e).1
  refine ⟨h.k.trans' k (fun i e => .inr (by have := hk i e; omega)), h.mf.keep k (fun e => by have := hk _ e; omega), grown_cell h.co hg hr, ?_, grown_row h.ow hg hr, fun D hDD => ⟨(h.ds D hDD).1, k.heap (h.ds D hDD).2 (fun e => by have := hk _ e; have := hD D hDD; omega)⟩, h.nd⟩
  exact (k.frozen (b := bO) (World.block_lt_of_cell? _ _ h.co) (fun (e : row = some bO) => by have := hk bO e; omega) 0).trans h.fo
theorem AI.keep {Wc V V' : World} {bm bO : Nat} {Ds : List Nat} {st : (Int → Int) × List Int} {vo : Value} (h : AI Wc bm bO Ds st vo V) (k : Keep (fun _ => False) V V') : AI Wc bm bO Ds st vo V' :=
  ⟨h.k.trans' k (fun i e => e.elim), h.mf.kept k, k.cell h.co (fun h => h), (k.frozen (World.block_lt_of_cell? _ _ h.co) (fun h => h) 0).trans h.fo, ownsRow_keep h.ow k (fun _ _ h => h), fun D hD => ⟨(h.ds D hD).1, k.heap (h.ds D hD).2 (fun h => h)⟩, h.nd⟩
theorem AI.mark {Wc V : World} {bm bO D : Nat} {Ds : List Nat} {st : (Int → Int) × List Int} {vo : Value} {B : Nat} (h : AI Wc bm bO Ds st vo V) (hB : ∀ E ∈ Ds, E < B) (hc : Wc.heap.size ≤ B) (hD : B ≤ D) (hh : V.heap[D]? = some (.deferred (some []))) : AI Wc bm bO (D :: Ds) st vo V :=
  ⟨h.k, h.mf, h.co, h.fo, h.ow, fun E hE => by
    rcases List.mem_cons.1 hE with rfl | hE
    · exact ⟨by omega, hh⟩
    · exact h.ds E hE, List.nodup_cons.2 ⟨fun hm => by have := hB D hm; omega, h.nd⟩⟩
theorem AI.lt {Wc V : World} {bm bO : Nat} {Ds : List Nat} {st : (Int → Int) × List Int} {vo : Value} (h : AI Wc bm bO Ds st vo V) {D : Nat} (hD : D ∈ Ds) : D < V.heap.size := (Array.getElem?_eq_some_iff.1 (h.ds D hD).2).1

/-- A node takes a slot. -/
theorem AI.take {Wc V : World} {bm bO : Nat} {Ds : List Nat} {st : (Int → Int) × List Int} {vo : Value} (h : AI Wc bm bO Ds st vo V) (hbm : bm < Wc.heap.size) (hbO : bO < Wc.heap.size) (hne : bm ≠ bO) {n : Int} (hn : I64 n) (hl : st.2.length ≤ 1000) {B : Nat} (hB : Wc.heap.size ≤ B) :
    ∃ es ck v' V2, (Instr.mapUpdate 68 (.map (some bm)) (.int .i64 n) (.int .i64 (st.1 n - 1))).run Tryd.prog V = .ok () (V.putObj bm (.map es ck)) ∧
      (Builtin.append_ #[26, 26] 26 #[vo, .slice (some ⟨(V.putObj bm (.map es ck)).heap.size, 0, none⟩) 1 1]).run Tryd.prog ((V.putObj bm (.map es ck)).alloc (.cells #[.int .i64 n] 3)) = .ok v' V2 ∧
      (V.putObj bm (.map es ck)).cell? ⟨bO, 0, none⟩ = some vo ∧ V2.cell? ⟨bO, 0, none⟩ = some vo ∧ V2.frozen? ⟨bO, 0, none⟩ = false ∧
      AI Wc bm bO Ds (upd st.1 n (st.1 n - 1), st.2 ++ [n]) v' (V2.setCell ⟨bO, 0, none⟩ v') ∧ KeepsFrom B V (V2.setCell ⟨bO, 0, none⟩ v') ∧ ∃ g c, v' = .slice (some ⟨g, 0, none⟩) (st.2.length + 1) c := by
  obtain ⟨es, ck, hup, hmf⟩ := h.mf.update hn (st.1 n - 1)
  have k1 : Keep (fun j => j = bm) V (V.putObj bm (.map es ck)) := (Keep.refl (fun j => j = bm) V).putObj _ (.inl rfl)
  have hvo : ∀ j, vo.ownBlock = some j → Wc.heap.size ≤ j := fun j e => (h.ow.lt j e).1
  have co1 := k1.cell h.co (fun e => hne e.symm)
  have fo1 : (V.putObj bm (.map es ck)).frozen? ⟨bO, 0, none⟩ = false := (k1.frozen (World.block_lt_of_cell? _ _ h.co) (fun e => hne e.symm) 0).trans h.fo
  have ow1 := ownsRow_keep h.ow k1 (fun b hb e => by have := hvo b hb; omega)
  obtain ⟨v', V2, r1, r2, r3, r4, r5⟩ := app_one 26 3 1 8 _ Tryd.underlying26 infoInt rfl (by decide) (by decide) _ 26 Wc.heap.size vo st.2.length _ [.int .i64 n] ow1 rfl (by simp [Value.oneCell']) (by omega) (Nat.le_trans h.k.size k1.size)
  have hO : ¬ vo.ownBlock = some bO := fun e => by have := hvo _ e; omega
  have hM : ¬ vo.ownBlock = some bm := fun e => by have := hvo _ e; omega
  have co2 := r3.cell co1 hO
  have fo2 : V2.frozen? ⟨bO, 0, none⟩ = false := (r3.frozen (World.block_lt_of_cell? _ _ co1) hO 0).trans fo1
  have k3 : Keep (fun j => j = bO) V2 (V2.setCell ⟨bO, 0, none⟩ v') := (Keep.refl (fun j => j = bO) V2).setCell (p := ⟨bO, 0, none⟩) _ (.inl rfl)
  have hv' : ∀ j, v'.ownBlock = some j → Wc.heap.size ≤ j := fun j e => (r2.lt j e).1
  have hDm : ∀ D ∈ Ds, D ≠ bm ∧ D ≠ bO ∧ vo.ownBlock ≠ some D := fun D hD => by
    have h1 := (h.ds D hD).1
    refine ⟨by omega, by omega, fun e => ?_⟩
    rcases h.ow.2 with ⟨rfl, _⟩ | ⟨g', cap, cur, rfl, hb', hh, _⟩
    · cases e
    · cases e
      rw [(h.ds _ hD).2] at hh
      cases hh
  refine ⟨es, ck, v', V2, hup, r1, co1, co2, fo2, ⟨?_, ?_, cell_set_same co2, by rw [World.frozen?_setCell]; exact fo2, ?_, fun D hD => ⟨(h.ds D hD).1, ?_⟩, h.nd⟩, ⟨?_, fun j o hj ho hcl => ?_⟩, r5⟩
  · exact ((h.k.trans' k1 (fun i e => .inl (.inl e))).trans' r3 (fun i e => .inr (hvo i e))).trans' k3 (fun i e => .inl (.inr e))
  · exact (hmf.keep r3 hM).keep k3 hne
  · rw [List.length_append, List.map_append]
    exact ownsRow_keep r2 k3 (fun b hb e => by have := hv' b hb; omega)
  · have hx := hDm D hD
    exact k3.heap (r3.heap (k1.heap (h.ds D hD).2 hx.1) hx.2.2) hx.2.1
  · exact Nat.le_trans k1.size (Nat.le_trans r3.size k3.size)
  · refine k3.heap (r3.heap (k1.heap ho (by omega)) (fun e => ?_)) (by omega)
    rcases h.ow.2 with ⟨rfl, _⟩ | ⟨g', cap, cur, rfl, hb', hh, _⟩
    · cases e
    · cases e
      rw [hh] at ho
      cases ho
      cases hcl

theorem find_first {q : Int → Bool} : ∀ {o : List Int} {i : Nat} {x : Int}, o[i]? = some x → q x = true → (∀ k y, k < i → o[k]? = some y → q y = false) → o.find? q = some x
  | [], i, x, h, _, _ => by simp at h
  | y :: o, 0, x, h, hq, _ => by
    simp only [List.getElem?_cons_zero, Option.some.injEq] at h
    subst h
    rw [List.find?_cons, hq]
  | y :: o, i + 1, x, h, hq, hk => by
    simp only [List.getElem?_cons_succ] at h
    rw [List.find?_cons, hk 0 y (by omega) rfl]
    exact find_first h hq (fun k z hkl hz => hk (k + 1) z (by omega) (by simpa using hz))
theorem ords_at (l : List Mb) (p : Int) {i : Nat} (hi : i < (circ PN l).length) : (ords PN l p)[i]? = some (cwN (circ PN l) p i) := by
  unfold ords cwN
  rw [List.getElem?_map]
  have h : i < (rot (circ PN l) p).length := by rw [rot_len]; exact hi
  rw [List.getElem?_eq_getElem h]
  rfl
theorem step_found {l : List Mb} {p : Int} {st : (Int → Int) × List Int} {i : Nat} (hi : i < (circ PN l).length) (h0 : 0 < st.1 (cwN (circ PN l) p i)) (hb : ∀ k, k < i → st.1 (cwN (circ PN l) p k) ≤ 0) :
    stepA (ords PN l p) st = (upd st.1 (cwN (circ PN l) p i) (st.1 (cwN (circ PN l) p i) - 1), st.2 ++ [cwN (circ PN l) p i]) := by
  have : firstN st.1 (ords PN l p) = some (cwN (circ PN l) p i) := find_first (ords_at l p hi) (by simpa using h0) (fun k y hk hy => by
    rw [ords_at l p (by omega)] at hy
    cases hy
    have := hb k hk
    simp; omega)
  unfold stepA
  rw [this]
theorem step_none {l : List Mb} {p : Int} {st : (Int → Int) × List Int} (hb : ∀ k, k < (circ PN l).length → st.1 (cwN (circ PN l) p k) ≤ 0) : stepA (ords PN l p) st = st := by
  have : firstN st.1 (ords PN l p) = none := by
    unfold firstN
    rw [List.find?_eq_none]
    intro y hy
    obtain ⟨i, hi⟩ := List.mem_iff_getElem?.1 hy
    have hl : i < (circ PN l).length := by
      have := (List.getElem?_eq_some_iff.1 hi).1
      unfold ords at this
      rwa [List.length_map, rot_len] at this
    rw [ords_at l p hl] at hi
    cases hi
    have := hb i hl
    simp; omega
  unfold stepA
  rw [this]
/-- Between two nodes. -/
def RI (Wc : World) (bm bO : Nat) (Ds : List Nat) (l : List Mb) (bc bp : Nat) (vc : Value) (p : Int) (st : (Int → Int) × List Int) (vo : Value) (i : Nat) (V : World) : Prop :=
  AI Wc bm bO Ds st vo V ∧ FromReads bc bp vc (circ PN l) p V ∧ ∀ k, k < i → st.1 (cwN (circ PN l) p k) ≤ 0
def RX (Wc : World) (bm bO : Nat) (Ds : List Nat) (l : List Mb) (p : Int) (st : (Int → Int) × List Int) (c : Code) (_ : Nat) (V : World) : Prop :=
  c = .exit 1 ∧ ∃ v', AI Wc bm bO Ds (stepA (ords PN l p) st) v' V
theorem RI_own {Wc : World} {bm bO : Nat} {Ds : List Nat} {l : List Mb} {bc bp : Nat} {vc : Value} {p : Int} {st : (Int → Int) × List Int} {vo : Value} {B : Nat} (hbm : bm < Wc.heap.size) (hbO : bO < Wc.heap.size) (hB : Wc.heap.size ≤ B) (hD : ∀ D ∈ Ds, D < B) : OwnFrom B (RI Wc bm bO Ds l bc bp vc p st vo) := by
  rintro i V V' row ⟨h1, ⟨h2, h3, h4⟩, h5⟩ hg hr
  exact ⟨h1.grown hbm hbO hB hD hg hr, ⟨grown_cell h2 hg hr, grown_cell h3 hg hr, grown_mks h4 hg hr⟩, h5⟩
theorem RX_own {Wc : World} {bm bO : Nat} {Ds : List Nat} {l : List Mb} {p : Int} {st : (Int → Int) × List Int} {B : Nat} (hbm : bm < Wc.heap.size) (hbO : bO < Wc.heap.size) (hB : Wc.heap.size ≤ B) (hD : ∀ D ∈ Ds, D < B) (c : Code) : OwnFrom B (RX Wc bm bO Ds l p st c) := by
  rintro i V V' row ⟨h1, v', h2⟩ hg hr
  exact ⟨h1, v', h2.grown hbm hbO hB hD hg hr⟩
theorem wpListIn_app {F : Fence} {n : Nat} {P : Program} {ops : Array Oper} {rest : List Oper} {o : Oper} {a : Act} {w w' : World} {Q : Exit → Act → World → Prop} {v v2 v' : Value}
    (hg : o.guard = none) (s x : Operand) (t : TypeId) (hop : o.op = Op.call { callee := Callee.builtin Builtin.append, args := #[s, x], argTypes := #[t, t] })
    (hs : a.eval s = v) (hx : a.eval x = v2) (hrun : (Builtin.append_ #[t, t] o.type #[v, v2]).run P w = .ok v' w') (hK : wpListIn F n P ops Q rest (a.put o.dst v') w') : wpListIn F n P ops Q (o :: rest) a w := by
  refine wpListIn_plain hg fun K hK' => ?_
  unfold Oper.wpIn
  refine ⟨?_, ?_⟩
  · simp [Oper.about, hop, resolve, Target.leads, Sem.run_pure]
  · rw [Oper.semAt_plain F _ _ (by rw [hop]; intro c hc'; cases hc')]
    simp [execOp, hop, resolve, invoke, builtin, hs, hx, hrun, Result.andThen]
    exact hK' _ _ hK
end Go.Proofs.YtplkmbfeeegaiaaDoor
