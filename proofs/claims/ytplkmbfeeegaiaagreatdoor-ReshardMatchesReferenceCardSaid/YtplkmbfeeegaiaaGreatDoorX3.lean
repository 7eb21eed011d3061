/-
  Several texts in one, each under its own heading below (merged by a program of ours): the contracts of the functions that the law reaches, part 3 of 7.
-/
import Derived.Test.YtplkmbfeeegaiaaGreatDoorX1
import Derived.Test.YtplkmbfeeegaiaaGreatDoorX2
import Derived.Sort.LoopGhostIn

/-
  The iterator of a circle.
-/
namespace Go.Proofs.YtplkmbfeeegaiaaGreatDoor
open Go.RowKit Go.Shelf
attribute [local go_sem] Oper.semAt_some

/-- The i-th node clockwise. -/
def cwN (c : List Mk) (p : Int) (i : Nat) : Int := match (rot c p)[i]? with | some x => x.node | none => 0
theorem cwN_at {c : List Mk} (h : c.Pairwise ltMk) (p : Int) {i : Nat} (hi : i < c.length) : ∃ x, c[(lows c p + i) % c.length]? = some x ∧ cwN c p i = x.node := by
  have h1 := rot_at h p hi
  have hlt : (lows c p + i) % c.length < c.length := Nat.mod_lt _ (by omega)
  refine ⟨c[(lows c p + i) % c.length], List.getElem?_eq_getElem hlt, ?_⟩
  unfold cwN
  rw [h1, List.getElem?_eq_getElem hlt]
/-- What the iterator reads. -/
def FromReads (bc bp : Nat) (vc : Value) (c : List Mk) (p : Int) (V : World) : Prop := V.cell? ⟨bc, 0, none⟩ = some vc ∧ V.cell? ⟨bp, 0, none⟩ = some (.int .i64 p) ∧ Mks V vc c

theorem keep_grown {V V' : World} (k : Keep (fun _ => False) V V') : V.grownBy V' none := ⟨k.os, k.tape, k.output, k.size, fun i hi _ => k.block i hi (fun h => h)⟩

set_option maxRecDepth 100000 in
set_option maxHeartbeats 4000000 in
theorem from_iter (bc bp : Nat) (vc : Value) (c : List Mk) (p : Int) (hs : c.Pairwise ltMk) (hne : 0 < c.length) : IterL Tryz.prog 130 #[ptr bc, ptr bp] c.length (fun i => #[.int .i64 (cwN c p i)]) (FromReads bc bp vc c p) := by
  intro l J Jx W hA hD hY h0
  have hA0 := hA 0 W h0
  obtain ⟨r0, r1, hm⟩ := hA0
  obtain ⟨hn, a, cc, b, off, hvc, hc, ha, -⟩ := id hm
  have HBS := Lib.hid (bsearch_any vc c p W hm hs)
  have HA := Lib.hid hA; clear hA
  have HD := Lib.hid hD; clear hD
  have HY := Lib.hid hY; clear hY
  have HJ := Lib.hid h0; clear h0 hm
  have HS := Lib.hid hs; clear hs
  obtain rfl := ha hne
  clear ha
  subst hvc
  obtain ⟨n, hn'⟩ : ∃ n, c.length = n := ⟨_, rfl⟩
  have HL := Lib.hid hn'
  rw [hn'] at hn hc hne r0 HBS
  have hlo := lows_le c p
  rw [hn'] at hlo
  clear hn'
  have HCW : Hid (∀ i, i < n → ∃ x, c[(lows c p + i) % n]? = some x ∧ cwN c p i = x.node) := Lib.hid (fun i hi => by have := cwN_at HS.out p (i := i) (by rw [HL.out]; exact hi); rwa [HL.out] at this)
  generalize lows c p = lo at *
  refine callsIn_of_wp Tryz.func130 rfl trivial ?_ rfl
  simp only [Tryz.ntmps130, List.size_toArray, List.length_cons, List.length_nil, Nat.reduceAdd, Nat.reduceSub, Array.replicate_succ, Array.replicate_zero, List.push_toArray, List.append_toArray, List.nil_append, List.cons_append]
  gi_wp2_with fail
  refine ⟨trivial, rfl, (callsIn_wide.2 HBS.out).mono ?_⟩
  rintro e V1 ⟨⟨bb, rfl⟩, k1⟩
  have HJ1 := Lib.hid (HD.out 0 W V1 HJ.out (keep_grown k1))
  have q0 := k1.cell r0 (fun h => h)
  have q1 := k1.cell r1 (fun h => h)
  clear k1 HJ HBS r0 r1
  gi_wp2_with fail
  gi_loopg [15] n (fun g2 v15 wr => ∃ i : Nat, g2 + i = n ∧ v15 = .int .i64 i ∧ J i wr)
  case atStart => exact ⟨0, by omega, rfl, HJ1.out⟩
  case round =>
    clear q0 q1 HJ1
    obtain ⟨i, hi, rfl, hj⟩ := hrel
    have ha := HA.out _ _ hj
    by_cases hin : i < n
    · obtain ⟨fn, tmps, assign, body, hy, hR⟩ := HY.out i wr.drew (by rw [HL.out]; exact hin) (HD.out i _ _ hj (grownBy_drew wr))
      obtain ⟨x, hx, hcw⟩ := HCW.out i hin
      obtain ⟨q0, q1, hm⟩ := ha
      obtain ⟨-, a', c', b', off', hvc, -, ha', hcell⟩ := hm
      rw [HL.out] at q0 hvc
      have hcx := hcell _ x hx
      obtain ⟨r1, r2⟩ : a' = some ⟨b, off, none⟩ ∧ b' = b ∧ off' = off := by
        cases hvc
        have := ha' (by rw [HL.out]; omega)
        cases this
        exact ⟨rfl, rfl, rfl⟩
      obtain ⟨rfl, rfl⟩ := r2
      have c1 := hcx.2.1
      obtain ⟨ix, hix⟩ : ∃ ix, (lo + i) % n = ix := ⟨_, rfl⟩
      rw [hix] at c1
      have e1 : ((lo : Int) + (i : Int)) % (n : Int) = (ix : Int) := by rw [← hix]; first | rw [Int.natCast_emod, Int.natCast_add] | rw [Int.natCast_mod, Int.natCast_add] | simp
      have hixn : ix < n := by rw [← hix]; exact Nat.mod_lt _ (by omega)
      rw [hcw] at hy
      have HR := Lib.hid hR
      clear hR hj hvc ha' hcell hcx hx hcw hix r1
      obtain ⟨x0, x1, x2⟩ := x
      simp only [] at c1 hy
      have hinz : (i : Int) < (n : Int) := by omega
      gi_wp2_with fail
      have HRB := Lib.hid (HR.out.mono (R' := fun e V' => ∃ y : Bool, e = .returned (.bool y) ∧ ((y = true ∧ J (i + 1) V') ∨ (y = false ∧ Jx i V'))) (by
        rintro e V' (⟨rfl, h⟩ | ⟨rfl, h⟩)
        · exact ⟨true, rfl, .inl ⟨rfl, h⟩⟩
        · exact ⟨false, rfl, .inr ⟨rfl, h⟩⟩))
      gi_region_with (refine ⟨rfl, HRB.out.mono ?_⟩; rintro e W3 ⟨y, rfl, hy3⟩)
      all_goals
        have HY3 := Lib.hid hy3
        clear hy3 c1 hy q0 q1
        cases y with
        | true =>
          have HJ3 : Hid (J (i + 1) W3) := Lib.hid (by rcases HY3.out with ⟨_, h⟩ | ⟨h, _⟩; exact h; cases h)
          gi_wp2_with fail
          go_roundg (gk - 1)
          case rel => exact ⟨i + 1, by omega, by go_num, HJ3.out⟩
          case measure => omega
        | false =>
          have HX3 : Hid (Jx i W3) := Lib.hid (by rcases HY3.out with ⟨h, _⟩ | ⟨_, h⟩; cases h; exact h)
          gi_wp2_with fail
          refine bodyPost_ret (results_none rfl _ _ _) rfl ?_
          exact ⟨⟨_, rfl⟩, .inr ⟨i, by rw [HL.out]; exact hin, HX3.out⟩⟩
    · obtain rfl : i = n := by omega
      have HJ3 := Lib.hid hj
      clear hj ha
      have hinz : ¬ (i : Int) < (i : Int) := by omega
      gi_wp2_with fail
      go_end0
      exact ⟨⟨_, rfl⟩, .inl (by rw [HL.out]; exact HJ3.out)⟩
end Go.Proofs.YtplkmbfeeegaiaaGreatDoor

/-
  Assign: what holds between two slots.
-/
namespace Go.Proofs.YtplkmbfeeegaiaaGreatDoor
open Go.RowKit Go.Shelf

theorem arr40 (t : Array Value) (h : t.size = 40) : ∃ x0 x1 x2 x3 x4 x5 x6 x7 x8 x9 x10 x11 x12 x13 x14 x15 x16 x17 x18 x19 x20 x21 x22 x23 x24 x25 x26 x27 x28 x29 x30 x31 x32 x33 x34 x35 x36 x37 x38 x39, t = #[x0, x1, x2, x3, x4, x5, x6, x7, x8, x9, x10, x11, x12, x13, x14, x15, x16, x17, x18, x19, x20, x21, x22, x23, x24, x25, x26, x27, x28, x29, x30, x31, x32, x33, x34, x35, x36, x37, x38, x39] := by
  obtain ⟨l⟩ := t
  simp only [List.size_toArray] at h
  match l, h with
  | x0 :: x1 :: x2 :: x3 :: x4 :: x5 :: x6 :: x7 :: x8 :: x9 :: x10 :: x11 :: x12 :: x13 :: x14 :: x15 :: x16 :: x17 :: x18 :: x19 :: x20 :: x21 :: x22 :: x23 :: x24 :: x25 :: x26 :: x27 :: x28 :: x29 :: x30 :: x31 :: x32 :: x33 :: x34 :: x35 :: x36 :: x37 :: x38 :: x39 :: [], _ => exact ⟨x0, x1, x2, x3, x4, x5, x6, x7, x8, x9, x10, x11, x12, x13, x14, x15, x16, x17, x18, x19, x20, x21, x22, x23, x24, x25, x26, x27, x28, x29, x30, x31, x32, x33, x34, x35, x36, x37, x38, x39, rfl⟩

abbrev markD (D : Nat) : Deferred := { target := .collected D, args := #[] }
/-- A frame leaves with its marks. -/
theorem leaves_marks {fn : Func} {tmps : Array Value} {R : Ending → World → Prop} : ∀ (Ds : List Nat) (W : World), Ds.Nodup → (∀ D ∈ Ds, W.heap[D]? = some (.deferred (some []))) →
    (∀ W', Keep (fun j => j ∈ Ds) W W' → LeavesInM Fence.wide 0 Tryz.prog fn tmps R [] .returning W') → LeavesInM Fence.wide 0 Tryz.prog fn tmps R (Ds.map markD) .returning W
  | [], W, _, _, h => h W (Keep.refl _ _)
  | D :: Ds, W, hn, hd, h => by
    rw [List.nodup_cons] at hn
    refine ⟨by simp, .inl ⟨D, _, rfl, run_takeDeferred (hd D (by simp)), ?_⟩⟩
    refine leaves_marks Ds _ hn.2 (fun E hE => ?_) (fun W' k => h W' ?_)
    · rw [World.putObj_heap_other (fun e => hn.1 (by rw [← e]; exact hE))]
      exact hd E (by simp [hE])
    · exact ((Keep.refl (fun j => j ∈ D :: Ds) W).putObj _ (.inl (by simp))).trans (k.mono (fun j hj => by simp [hj]))

/-- Behind some slots. -/
structure AI (Wc : World) (bm bO : Nat) (Ds : List Nat) (st : (Int → Int) × List Int) (vo : Value) (W : World) : Prop where
  k : Keep (fun j => j = bm ∨ j = bO) Wc W
  mf : MapF W bm st.1
  co : W.cell? ⟨bO, 0, none⟩ = some vo
  fo : W.frozen? ⟨bO, 0, none⟩ = false
  ow : W.ownsRow Wc.heap.size 3 1 vo st.2.length (st.2.map (fun x => Value.int .i64 x))
  ds : ∀ D ∈ Ds, Wc.heap.size ≤ D ∧ W.heap[D]? = some (.deferred (some []))
  nd : Ds.Nodup

theorem grown_cell {V V' : World} {row : Option Nat} {B b o : Nat} {v : Value} (h : V.cell? ⟨b, o, none⟩ = some v) (hg : V.grownBy V' row) (hr : ∀ r, row = some r → B ≤ r ∧ ∃ o : Obj, V.heap[r]? = some o ∧ o.isCells = false) : V'.cell? ⟨b, o, none⟩ = some v := by
  refine (Keep.of_grown hg).cell h (fun e => ?_)
  obtain ⟨_, ob, h1, h2⟩ := hr b e
  unfold World.cell? at h
  rw [h1] at h
  cases ob <;> simp_all [Obj.isCells]
theorem grown_mks {V V' : World} {row : Option Nat} {B : Nat} {v : Value} {l : List Mk} (h : Mks V v l) (hg : V.grownBy V' row) (hr : ∀ r, row = some r → B ≤ r ∧ ∃ o : Obj, V.heap[r]? = some o ∧ o.isCells = false) : Mks V' v l := by
  obtain ⟨a, c, b, off, rfl, hc, ha, h1⟩ := h.at_
  exact ⟨h.n, a, c, b, off, rfl, hc, ha, fun j x hj => ⟨grown_cell (h1 j x hj).1 hg hr, grown_cell (h1 j x hj).2.1 hg hr, grown_cell (h1 j x hj).2.2 hg hr⟩⟩
theorem grown_row {V V' : World} {row : Option Nat} {B lo e z n : Nat} {v : Value} {xs : List Value} (h : V.ownsRow lo e z v n xs) (hg : V.grownBy V' row) (hr : ∀ r, row = some r → B ≤ r ∧ ∃ o : Obj, V.heap[r]? = some o ∧ o.isCells = false) : V'.ownsRow lo e z v n xs := by
  refine ownsRow_keep h (Keep.of_grown hg) (fun b hb e => ?_)
  obtain ⟨_, o, ho, hc⟩ := hr b e
  rcases h.2 with ⟨rfl, _⟩ | ⟨g', cap, cur, rfl, hb', hh, _⟩
  · cases hb
  · cases hb; rw [hh] at ho; cases ho; cases hc

theorem AI.grown {Wc V V' : World} {bm bO : Nat} {Ds : List Nat} {st : (Int → Int) × List Int} {vo : Value} {row : Option Nat} {B : Nat} (h : AI Wc bm bO Ds st vo V) (hbm : bm < Wc.heap.size) (hbO : bO < Wc.heap.size) (hB : Wc.heap.size ≤ B) (hD : ∀ D ∈ Ds, D < B)
    (hg : V.grownBy V' row) (hr : ∀ r, row = some r → B ≤ r ∧ ∃ o : Obj, V.heap[r]? = some o ∧ o.isCells = false) : AI Wc bm bO Ds st vo V' := by
  have k := Keep.of_grown hg
  have hk : ∀ j, row = some j → B ≤ j := fun j e => (hr j e).1
  refine ⟨h.k.trans' k (fun i e => .inr (by have := hk i e; omega)), h.mf.keep k (fun e => by have := hk _ e; omega), grown_cell h.co hg hr, ?_, grown_row h.ow hg hr, fun D hDD => ⟨(h.ds D hDD).1, k.heap (h.ds D hDD).2 (fun e => by have := hk _ e; have := hD D hDD; omega)⟩, h.nd⟩
  exact (k.frozen (b := bO) (World.block_lt_of_cell? _ _ h.co) (fun (e : row = some bO) => by have := hk bO e; omega) 0).trans h.fo
theorem AI.keep {Wc V V' : World} {bm bO : Nat} {Ds : List Nat} {st : (Int → Int) × List Int} {vo : Value} (h : AI Wc bm bO Ds st vo V) (k : Keep (fun _ => False) V V') : AI Wc bm bO Ds st vo V' :=
  ⟨h.k.trans' k (fun _ e => e.elim), h.mf.kept k, k.cell h.co (fun h => h), (k.frozen (World.block_lt_of_cell? _ _ h.co) (fun h => h) 0).trans h.fo, ownsRow_keep h.ow k (fun _ _ h => h), fun D hD => ⟨(h.ds D hD).1, k.heap (h.ds D hD).2 (fun h => h)⟩, h.nd⟩
theorem AI.mark {Wc V : World} {bm bO D : Nat} {Ds : List Nat} {st : (Int → Int) × List Int} {vo : Value} {B : Nat} (h : AI Wc bm bO Ds st vo V) (hB : ∀ E ∈ Ds, E < B) (hc : Wc.heap.size ≤ B) (hD : B ≤ D) (hh : V.heap[D]? = some (.deferred (some []))) : AI Wc bm bO (D :: Ds) st vo V :=
  ⟨h.k, h.mf, h.co, h.fo, h.ow, fun E hE => by
    rcases List.mem_cons.1 hE with rfl | hE
    · exact ⟨by omega, hh⟩
    · exact h.ds E hE, List.nodup_cons.2 ⟨fun hm => by have := hB D hm; omega, h.nd⟩⟩
theorem AI.lt {Wc V : World} {bm bO : Nat} {Ds : List Nat} {st : (Int → Int) × List Int} {vo : Value} (h : AI Wc bm bO Ds st vo V) {D : Nat} (hD : D ∈ Ds) : D < V.heap.size := (Array.getElem?_eq_some_iff.1 (h.ds D hD).2).1

/-- A node takes a slot. -/
theorem AI.take {Wc V : World} {bm bO : Nat} {Ds : List Nat} {st : (Int → Int) × List Int} {vo : Value} (h : AI Wc bm bO Ds st vo V) (hbm : bm < Wc.heap.size) (hbO : bO < Wc.heap.size) (hne : bm ≠ bO) {n : Int} (hn : I64 n) (hl : st.2.length ≤ 1000) {B : Nat} (hB : Wc.heap.size ≤ B) :
    ∃ es ck v' V2, (Instr.mapUpdate 127 (.map (some bm)) (.int .i64 n) (.int .i64 (st.1 n - 1))).run Tryz.prog V = .ok () (V.putObj bm (.map es ck)) ∧
      (Builtin.append_ #[22, 22] 22 #[vo, .slice (some ⟨(V.putObj bm (.map es ck)).heap.size, 0, none⟩) 1 1]).run Tryz.prog ((V.putObj bm (.map es ck)).alloc (.cells #[.int .i64 n] 3)) = .ok v' V2 ∧
      (V.putObj bm (.map es ck)).cell? ⟨bO, 0, none⟩ = some vo ∧ V2.cell? ⟨bO, 0, none⟩ = some vo ∧ V2.frozen? ⟨bO, 0, none⟩ = false ∧
      AI Wc bm bO Ds (upd st.1 n (st.1 n - 1), st.2 ++ [n]) v' (V2.setCell ⟨bO, 0, none⟩ v') ∧ KeepsFrom B V (V2.setCell ⟨bO, 0, none⟩ v') ∧ ∃ g c, v' = .slice (some ⟨g, 0, none⟩) (st.2.length + 1) c := by
  obtain ⟨es, ck, hup, hmf⟩ := h.mf.update hn (st.1 n - 1)
  have k1 : Keep (fun j => j = bm) V (V.putObj bm (.map es ck)) := (Keep.refl (fun j => j = bm) V).putObj _ (.inl rfl)
  have hvo : ∀ j, vo.ownBlock = some j → Wc.heap.size ≤ j := fun j e => (h.ow.lt j e).1
  have co1 := k1.cell h.co (fun e => hne e.symm)
  have fo1 : (V.putObj bm (.map es ck)).frozen? ⟨bO, 0, none⟩ = false := (k1.frozen (World.block_lt_of_cell? _ _ h.co) (fun e => hne e.symm) 0).trans h.fo
  have ow1 := ownsRow_keep h.ow k1 (fun b hb e => by have := hvo b hb; omega)
  obtain ⟨v', V2, r1, r2, r3, r4, r5⟩ := app_one 22 3 1 8 _ Tryz.underlying22 infoInt rfl (by decide) (by decide) _ 22 Wc.heap.size vo st.2.length _ [.int .i64 n] ow1 rfl (by simp [Value.oneCell']) (by omega) (Nat.le_trans h.k.size k1.size)
  have hO : ¬ vo.ownBlock = some bO := fun e => by have := hvo _ e; omega
  have hM : ¬ vo.ownBlock = some bm := fun e => by have := hvo _ e; omega
  have co2 := r3.cell co1 hO
  have fo2 : V2.frozen? ⟨bO, 0, none⟩ = false := (r3.frozen (World.block_lt_of_cell? _ _ co1) hO 0).trans fo1
  have k3 : Keep (fun j => j = bO) V2 (V2.setCell ⟨bO, 0, none⟩ v') := (Keep.refl (fun j => j = bO) V2).setCell (p := ⟨bO, 0, none⟩) _ (.inl rfl)
  have hv' : ∀ j, v'.ownBlock = some j → Wc.heap.size ≤ j := fun j e => (r2.lt j e).1
  have hDm : ∀ D ∈ Ds, D ≠ bm ∧ D ≠ bO ∧ vo.ownBlock ≠ some D := fun D hD => by
    have h1 := (h.ds D hD).1
    refine ⟨by omega, by omega, fun e => ?_⟩
    rcases h.ow.2 with ⟨rfl, _⟩ | ⟨g', cap, cur, rfl, hb', hh, _⟩
    · cases e
    · cases e
      rw [(h.ds _ hD).2] at hh
      cases hh
  refine ⟨es, ck, v', V2, hup, r1, co1, co2, fo2, ⟨?_, ?_, cell_set_same co2, by rw [World.frozen?_setCell]; exact fo2, ?_, fun D hD => ⟨(h.ds D hD).1, ?_⟩, h.nd⟩, ⟨?_, fun j o hj ho hcl => ?_⟩, r5⟩
  · exact ((h.k.trans' k1 (fun i e => .inl (.inl e))).trans' r3 (fun i e => .inr (hvo i e))).trans' k3 (fun i e => .inl (.inr e))
  · exact (hmf.keep r3 hM).keep k3 hne
  · rw [List.length_append, List.map_append]
    exact ownsRow_keep r2 k3 (fun b hb e => by have := hv' b hb; omega)
  · have hx := hDm D hD
    exact k3.heap (r3.heap (k1.heap (h.ds D hD).2 hx.1) hx.2.2) hx.2.1
  · exact Nat.le_trans k1.size (Nat.le_trans r3.size k3.size)
  · refine k3.heap (r3.heap (k1.heap ho (by omega)) (fun e => ?_)) (by omega)
    rcases h.ow.2 with ⟨rfl, _⟩ | ⟨g', cap, cur, rfl, hb', hh, _⟩
    · cases e
    · cases e
      rw [hh] at ho
      cases ho
      cases hcl

theorem find_first {q : Int → Bool} : ∀ {o : List Int} {i : Nat} {x : Int}, o[i]? = some x → q x = true → (∀ k y, k < i → o[k]? = some y → q y = false) → o.find? q = some x
  | [], i, x, h, _, _ => by simp at h
  | y :: o, 0, x, h, hq, _ => by
    simp only [List.getElem?_cons_zero, Option.some.injEq] at h
    subst h
    rw [List.find?_cons, hq]
  | y :: o, i + 1, x, h, hq, hk => by
    simp only [List.getElem?_cons_succ] at h
    rw [List.find?_cons, hk 0 y (by omega) rfl]
    exact find_first h hq (fun k z hkl hz => hk (k + 1) z (by omega) (by simpa using hz))
theorem ords_at (l : List Mb) (p : Int) {i : Nat} (hi : i < (circ PN l).length) : (ords PN l p)[i]? = some (cwN (circ PN l) p i) := by
  unfold ords cwN
  rw [List.getElem?_map]
  have h : i < (rot (circ PN l) p).length := by rw [rot_len]; exact hi
  rw [List.getElem?_eq_getElem h]
  rfl
theorem step_found {l : List Mb} {p : Int} {st : (Int → Int) × List Int} {i : Nat} (hi : i < (circ PN l).length) (h0 : 0 < st.1 (cwN (circ PN l) p i)) (hb : ∀ k, k < i → st.1 (cwN (circ PN l) p k) ≤ 0) :
    stepA (ords PN l p) st = (upd st.1 (cwN (circ PN l) p i) (st.1 (cwN (circ PN l) p i) - 1), st.2 ++ [cwN (circ PN l) p i]) := by
  have : firstN st.1 (ords PN l p) = some (cwN (circ PN l) p i) := find_first (ords_at l p hi) (by simpa using h0) (fun k y hk hy => by
    rw [ords_at l p (by omega)] at hy
    cases hy
    have := hb k hk
    simp; omega)
  unfold stepA
  rw [this]
theorem step_none {l : List Mb} {p : Int} {st : (Int → Int) × List Int} (hb : ∀ k, k < (circ PN l).length → st.1 (cwN (circ PN l) p k) ≤ 0) : stepA (ords PN l p) st = st := by
  have : firstN st.1 (ords PN l p) = none := by
    unfold firstN
    rw [List.find?_eq_none]
    intro y hy
    obtain ⟨i, hi⟩ := List.mem_iff_getElem?.1 hy
    have hl : i < (circ PN l).length := by
      have := (List.getElem?_eq_some_iff.1 hi).1
      unfold ords at this
      rwa [List.length_map, rot_len] at this
    rw [ords_at l p hl] at hi
    cases hi
    have := hb i hl
    simp; omega
  unfold stepA
  rw [this]
/-- Between two nodes. -/
def RI (Wc : World) (bm bO : Nat) (Ds : List Nat) (l : List Mb) (bc bp : Nat) (vc : Value) (p : Int) (st : (Int → Int) × List Int) (vo : Value) (i : Nat) (V : World) : Prop :=
  AI Wc bm bO Ds st vo V ∧ FromReads bc bp vc (circ PN l) p V ∧ ∀ k, k < i → st.1 (cwN (circ PN l) p k) ≤ 0
def RX (Wc : World) (bm bO : Nat) (Ds : List Nat) (l : List Mb) (p : Int) (st : (Int → Int) × List Int) (c : Code) (_ : Nat) (V : World) : Prop :=
  c = .exit 1 ∧ ∃ v', AI Wc bm bO Ds (stepA (ords PN l p) st) v' V
theorem RI_own {Wc : World} {bm bO : Nat} {Ds : List Nat} {l : List Mb} {bc bp : Nat} {vc : Value} {p : Int} {st : (Int → Int) × List Int} {vo : Value} {B : Nat} (hbm : bm < Wc.heap.size) (hbO : bO < Wc.heap.size) (hB : Wc.heap.size ≤ B) (hD : ∀ D ∈ Ds, D < B) : OwnFrom B (RI Wc bm bO Ds l bc bp vc p st vo) := by
  rintro i V V' row ⟨h1, ⟨h2, h3, h4⟩, h5⟩ hg hr
  exact ⟨h1.grown hbm hbO hB hD hg hr, ⟨grown_cell h2 hg hr, grown_cell h3 hg hr, grown_mks h4 hg hr⟩, h5⟩
theorem RX_own {Wc : World} {bm bO : Nat} {Ds : List Nat} {l : List Mb} {p : Int} {st : (Int → Int) × List Int} {B : Nat} (hbm : bm < Wc.heap.size) (hbO : bO < Wc.heap.size) (hB : Wc.heap.size ≤ B) (hD : ∀ D ∈ Ds, D < B) (c : Code) : OwnFrom B (RX Wc bm bO Ds l p st c) := by
  rintro i V V' row ⟨h1, v', h2⟩ hg hr
  exact ⟨h1, v', h2.grown hbm hbO hB hD hg hr⟩
theorem wpListIn_app {F : Fence} {n : Nat} {P : Program} {ops : Array Oper} {rest : List Oper} {o : Oper} {a : Act} {w w' : World} {Q : Exit → Act → World → Prop} {v v2 v' : Value}
    (hg : o.guard = none) (s x : Operand) (t : TypeId) (hop : o.op = Op.call { callee := Callee.builtin Builtin.append, args := #[s, x], argTypes := #[t, t] })
    (hs : a.eval s = v) (hx : a.eval x = v2) (hrun : (Builtin.append_ #[t, t] o.type #[v, v2]).run P w = .ok v' w') (hK : wpListIn F n P ops Q rest (a.put o.dst v') w') : wpListIn F n P ops Q (o :: rest) a w := by
  refine wpListIn_plain hg fun K hK' => ?_
  unfold Oper.wpIn
  refine ⟨?_, ?_⟩
  · simp [Oper.about, hop, resolve, Target.leads, Sem.run_pure]
  · rw [Oper.semAt_plain F _ _ (by rw [hop]; intro c hc'; cases hc')]
    simp [execOp, hop, resolve, invoke, builtin, hs, hx, hrun, Result.andThen]
    exact hK' _ _ hK
end Go.Proofs.YtplkmbfeeegaiaaGreatDoor

/-
  Assign: the walk.
-/
namespace Go.Proofs.YtplkmbfeeegaiaaGreatDoor
open Go.RowKit Go.Shelf
attribute [local go_sem] Oper.semAt_some

def AsgPost (l : List Mb) (w : World) (e : Ending) (w' : World) : Prop := ∃ v, e = .returned (.tuple #[v, .int .i64 0]) ∧ w'.ownsRow w.heap.size 3 1 v (ownersL PN QS l).length ((ownersL PN QS l).map (fun x => Value.int .i64 x)) ∧ Keep (fun _ => False) w w'

set_option maxRecDepth 100000 in
set_option maxHeartbeats 400000 in
theorem from_any (ca : Option Addr) (cn cc : Nat) (p : Int) (W : World) : Calls Tryz.prog 100 #[.slice ca cn cc, .int .i64 p] W fun e w' => e = .returned (.func (.func 130) #[] #[ptr W.heap.size, ptr (W.heap.size + 1)]) ∧ (W.alloc (.cells #[.slice ca cn cc] 130)).alloc (.cells #[.int .i64 p] 3) = w' := by
  go_enter Tryz.func100, Tryz.ntmps100
  go_wp2_with fail
  go_ret
  exact ⟨rfl, rfl⟩

set_option maxRecDepth 100000 in
set_option maxHeartbeats 8000000 in
theorem assign_ok (v : Value) (l : List Mb) (w : World) (h : Mbs w v l) (hv : VL l) (hT : Tab w) : Calls Tryz.prog 52 #[v] w (AsgPost l w) := by
  have HVA : Hid (Calls Tryz.prog 67 #[v] w fun e w' => e = .returned (.bool true) ∧ Keep (fun _ => False) w w') := Lib.hid (by
    have := valid_any v l w h
    rwa [(validL_iff l).2 hv] at this)
  have HDR : Hid (∀ W, Keep (fun _ => False) w W → Calls Tryz.prog 99 #[v] W (DrawPost l W)) := Lib.hid (fun W k => drawn_any v l W (h.kept k) hv (hT.kept k))
  have HLI : Hid (∀ W, Keep (fun _ => False) w W → Calls Tryz.prog 98 #[v] W (LimPost l W)) := Lib.hid (fun W k => limits_any v l W (h.kept k))
  have HV := Lib.hid hv
  have HT := Lib.hid hT
  clear h hv hT
  refine (callsIn_wide (n := 0)).1 ?_
  refine callsIn_of_wp_marks Tryz.func52 rfl trivial ?_ rfl
  simp only [Tryz.ntmps52, List.size_toArray, List.length_cons, List.length_nil, Nat.reduceAdd, Nat.reduceSub, Array.replicate_succ, Array.replicate_zero, List.push_toArray, List.append_toArray, List.nil_append, List.cons_append]
  refine wpIn_wide.2 ?_
  go_wp2_with fail
  go_step3
  go_wp2_with fail
  with_reducible refine HVA.out.mono ?_
  rintro e W1 ⟨rfl, k1⟩
  have HK1 := Lib.hid k1
  clear k1 HVA
  go_wp2_with fail
  with_reducible refine (HDR.out _ HK1.out).mono ?_
  rintro e W2 ⟨vc, rfl, hmk, k2⟩
  obtain ⟨ca, cn, cc, rfl⟩ : ∃ ca cn cc, vc = .slice ca cn cc := by obtain ⟨a, c, b, off, h, _⟩ := hmk.at_; exact ⟨_, _, _, h⟩
  have HK2 := Lib.hid (HK1.out.trans k2)
  have HMK := Lib.hid hmk
  clear hmk k2 HK1 HDR
  go_wp2_with fail
  with_reducible refine (HLI.out _ HK2.out).mono ?_
  rintro e W3 ⟨bm, rfl, hbm, hmf, k3⟩
  have HK3 := Lib.hid (HK2.out.trans k3)
  have HMK3 := Lib.hid (HMK.out.kept k3)
  have HMF := Lib.hid hmf
  have HBM := Lib.hid (And.intro hbm hmf.lt)
  have HG : Hid (∀ j, (Value.slice ca cn cc).ownBlock = some j → j < W3.heap.size ∧ j ≠ bm) := Lib.hid (fun j e => by
    obtain ⟨a, c, b, off, hvc, _, ha, hcell⟩ := HMK.out.at_
    cases hvc
    have hne : 0 < (circ PN l).length := by
      have h1 := draws_len PN l HV.out.ok
      have h2 := HV.out.wsum
      have h3 : (circ PN l).length = (draws PN l).length := (sortMk_perm _).length_eq
      omega
    have := ha hne
    subst this
    cases e
    have h1 := World.block_lt_of_cell? _ _ (hcell 0 _ (List.getElem?_eq_getElem hne)).1
    have h2 := k3.size
    simp only [] at h1
    show b < W3.heap.size ∧ b ≠ bm
    exact ⟨by omega, by omega⟩)
  have HNE : Hid (0 < (circ PN l).length) := Lib.hid (by
    have h1 := draws_len PN l HV.out.ok
    have h2 := HV.out.wsum
    have h3 : (circ PN l).length = (draws PN l).length := (sortMk_perm _).length_eq
    omega)
  have HCS := Lib.hid (circ_sorted PN HV.out.asc)
  clear k3 hbm hmf HLI
  go_wp2_with fail
  have HAI : Hid (AI ((W3.alloc (.cells #[.map (some bm)] 127)).alloc (.cells #[.slice none 0 0] 22)) bm (W3.heap.size + 1) [] (asg PN QS l 0) (.slice none 0 0) ((W3.alloc (.cells #[.map (some bm)] 127)).alloc (.cells #[.slice none 0 0] 22))) := Lib.hid (by
    have k : Keep (fun _ => False) W3 ((W3.alloc (.cells #[.map (some bm)] 127)).alloc (.cells #[.slice none 0 0] 22)) := ((Keep.refl _ W3).alloc _).alloc _
    have b1 := cells_new (W3.alloc (.cells #[.map (some bm)] 127)) [.slice none 0 0] 22 0 _ rfl
    rw [World.size_alloc] at b1
    refine ⟨Keep.refl _ _, HMF.out.kept k, b1, ?_, ?_, by simp, by simp⟩
    · unfold World.frozen?
      have := World.alloc_heap_new (W3.alloc (.cells #[.map (some bm)] 127)) (.cells #[.slice none 0 0] 22)
      rw [World.size_alloc] at this
      rw [this]
      rfl
    · simpa [asg, assignK] using World.ownsRow_nil _ _ 3 1)
  have HCR : Hid (((W3.alloc (.cells #[.map (some bm)] 127)).alloc (.cells #[.slice none 0 0] 22)).cell? ⟨W3.heap.size, 0, none⟩ = some (.map (some bm))) := Lib.hid (((Keep.refl (fun _ => False) _).alloc _).cell (cells_new W3 [.map (some bm)] 127 0 _ rfl) (fun h => h))
  have HKC : Hid (Keep (fun _ => False) W3 ((W3.alloc (.cells #[.map (some bm)] 127)).alloc (.cells #[.slice none 0 0] 22))) := Lib.hid (((Keep.refl _ W3).alloc _).alloc _)
  have HSZ : Hid (((W3.alloc (.cells #[.map (some bm)] 127)).alloc (.cells #[.slice none 0 0] 22)).heap.size = W3.heap.size + 2) := Lib.hid (by rw [World.size_alloc, World.size_alloc])
  generalize (W3.alloc (.cells #[.map (some bm)] 127)).alloc (.cells #[.slice none 0 0] 22) = Wc at *
  generalize W3.heap.size = z3 at *
  go_step3
  go_wp2_with fail
  refine wp_loop_ghost (fun g a W => ∃ (s : Nat) (Ds : List Nat) (vo : Value), g + s = 64 ∧ a.defers = Ds.map markD ∧ a.tmps.size = 40 ∧ a.tmps[4]? = some (.slice ca cn cc) ∧ a.tmps[5]? = some (ptr z3) ∧ a.tmps[6]? = some (ptr (z3 + 1)) ∧ a.tmps[16]? = some (.int .i64 s) ∧ AI Wc bm (z3 + 1) Ds (asg PN QS l s) vo W) 64 ⟨0, [], _, rfl, rfl, rfl, rfl, rfl, rfl, rfl, HAI.out⟩ ?_
  clear HAI
  rintro g ⟨t, ds⟩ W ⟨s, Ds, vo, hg, hds, hsz, h4, h5, h6, h16, hai⟩
  simp only [] at hds hsz h4 h5 h6 h16
  subst hds
  obtain ⟨x0, x1, x2, x3, x4, x5, x6, x7, x8, x9, x10, x11, x12, x13, x14, x15, x16, x17, x18, x19, x20, x21, x22, x23, x24, x25, x26, x27, x28, x29, x30, x31, x32, x33, x34, x35, x36, x37, x38, x39, rfl⟩ := arr40 t hsz
  have e4 : Value.slice ca cn cc = x4 := by simpa using h4.symm
  have e5 : ptr z3 = x5 := by simpa using h5.symm
  have e6 : ptr (z3 + 1) = x6 := by simpa using h6.symm
  have e16 : Value.int .i64 s = x16 := by simpa using h16.symm
  subst e4 e5 e6 e16
  have HA := Lib.hid hai
  clear hai hsz h4 h5 h6 h16
  by_cases hs : s < 64
  · have hsz : (s : Int) < 64 := by omega
    have hs0 : (0 : Int) ≤ (s : Int) := by omega
    go_wp2_with fail
    have HI : Hid (Its (W.alloc (.cells #[.int .i64 s] 3)) (.slice (some ⟨W.heap.size, 0, none⟩) 1 1) ([s].map (fun q : Nat => (q : Int)))) := Lib.hid (its_new W [(s : Int)] (by simp) (by
      intro x hx
      simp only [List.mem_cons, List.not_mem_nil, or_false] at hx
      unfold I64
      omega))
    have HAI1 := Lib.hid (HA.out.keep ((Keep.refl _ W).alloc (.cells #[.int .i64 s] 3)))
    clear HA
    generalize W.alloc (.cells #[.int .i64 s] 3) = V1 at *
    generalize W.heap.size = zw at *
    with_reducible refine (text_any _ _ [s] V1 (by decide) (by simp) (by
      intro q hq
      simp only [List.mem_cons, List.not_mem_nil, or_false] at hq
      omega) HI.out).mono ?_
    rintro e w' ⟨rfl, rfl⟩
    have HPT : Hid (Calls Tryz.prog 70 #[.string (txt ⟨#[115, 108, 111, 116]⟩ [s])] V1 fun e w' => e = .returned (.int .i64 (QS s)) ∧ V1 = w') := Lib.hid (point_any (slotT s) (slotT_size (by omega)) V1 ((HT.out.kept (HK3.out.trans HKC.out)).keep HAI1.out.k (by
      have h1 := HT.out 0 (by decide)
      have h2 := World.block_lt_of_cell? _ _ h1
      have h3 := HBM.out
      have h4 := HK2.out.size
      have h5 := HK3.out.size
      simp only [] at h2
      rintro (e | e) <;> omega)))
    generalize txt ⟨#[115, 108, 111, 116]⟩ [s] = tx at *
    go_wp2_with fail
    with_reducible refine HPT.out.mono ?_
    rintro e w' ⟨rfl, rfl⟩
    clear HPT HI
    generalize hqs : QS s = p at *
    have HQS := Lib.hid hqs
    clear hqs
    go_wp2_with fail
    with_reducible refine (from_any ca cn cc p _).mono ?_
    rintro e V2 ⟨rfl, hV2⟩
    have k2 : Keep (fun _ => False) V1 V2 := by rw [← hV2]; exact ((Keep.refl _ V1).alloc _).alloc _
    have HAI2 := Lib.hid (HAI1.out.keep k2)
    have HB1 : Hid (V2.cell? ⟨V1.heap.size, 0, none⟩ = some (.slice ca cn cc)) := Lib.hid (by rw [← hV2]; exact ((Keep.refl (fun _ => False) _).alloc _).cell (cells_new V1 [.slice ca cn cc] 130 0 _ rfl) (fun h => h))
    have HB2 : Hid (V2.cell? ⟨V1.heap.size + 1, 0, none⟩ = some (.int .i64 p)) := Lib.hid (by
      have := cells_new (V1.alloc (.cells #[.slice ca cn cc] 130)) [.int .i64 p] 3 0 _ rfl
      rw [World.size_alloc] at this
      rw [← hV2]; exact this)
    clear hV2 k2 HAI1
    generalize V1.heap.size = bc at *
    have HMV : Hid (Mks V2 (.slice ca cn cc) (circ PN l)) := Lib.hid ((HMK3.out.kept HKC.out).keep HAI2.out.k (fun j e => by
      have h1 : j < z3 ∧ j ≠ bm := HG.out j e
      rintro (h | h) <;> omega))
    have HBB : Hid (Wc.heap.size ≤ V2.heap.size) := Lib.hid HAI2.out.k.size
    go_wp2_with fail
    refine (wpIn_wide (n := 0)).1 ?_
    have hbm : bm < Wc.heap.size := by have := HBM.out; have := HSZ.out; omega
    have hbO : z3 + 1 < Wc.heap.size := by have := HSZ.out; omega
    refine range_list (gf := 130) (lb := #[ptr bc, ptr (bc + 1)]) rfl (enters_of Tryz.func130 (by kernel_rfl) rfl) (from_iter bc (bc + 1) (.slice ca cn cc) (circ PN l) p HCS.out HNE.out) (fun _ _ => rfl)
      (RI Wc bm (z3 + 1) Ds l bc (bc + 1) (.slice ca cn cc) p (asg PN QS l s) vo) (RX Wc bm (z3 + 1) Ds l p (asg PN QS l s))
      (RI_own hbm hbO HBB.out (fun D hD => HAI2.out.lt hD)) (RX_own hbm hbO HBB.out (fun D hD => HAI2.out.lt hD))
      (fun i V h => h.2.1) ⟨HAI2.out, ⟨HB1.out, HB2.out, HMV.out⟩, fun k hk => absurd hk (Nat.not_lt_zero _)⟩ ?a1 ?assign ?body ?done ?stop
    case assign =>
      intro l i V K hi hK
      gi_wp2
      exact hK
    case body =>
      rintro lp i V hi ⟨hai, ⟨hb1, hb2, hmv⟩, hbe⟩ hsV
      have HAV := Lib.hid hai
      have HBE := Lib.hid hbe
      have HFR := Lib.hid (show FromReads bc (bc + 1) (.slice ca cn cc) (circ PN l) p V from ⟨hb1, hb2, hmv⟩)
      have hbR : V.cell? ⟨z3, 0, none⟩ = some (.map (some bm)) := hai.k.cell HCR.out (by have := HBM.out; rintro (e | e) <;> omega)
      obtain ⟨x, hx, hcw⟩ := cwN_at HCS.out p hi
      have hxb : I64 (cwN (circ PN l) p i) := by
        rw [hcw]
        obtain ⟨m, hm, hd⟩ := (mem_circ PN).1 (List.mem_of_getElem? hx)
        have h1 := ((mem_drawM PN).1 hd).1
        have h2 := HV.out.ok m hm
        unfold okMb at h2
        unfold I64
        omega
      have HLEN : Hid ((asg PN QS l s).2.length ≤ 1000) := Lib.hid (by
        have := (assign_at PN QS HV.out (show s ≤ 80 by omega)).len
        show (assignK (fun s => ords PN l (QS s)) (limitL l) s).2.length ≤ 1000
        omega)
      have hroom := (assign_at PN QS HV.out (show s ≤ 80 by omega)).room (cwN (circ PN l) p i)
      have hlim := limitL_nn l (cwN (circ PN l) p i)
      have hcn := cnt_nn (asg PN QS l s).2 (cwN (circ PN l) p i)
      obtain ⟨es, ck, v', Vb, hup, happ, co1, co2, fo2, hai', hkf, g', c', rfl⟩ := hai.take hbm hbO (by have := HBM.out; omega) hxb HLEN.out HBB.out
      have lk := hai.mf.look hxb
      have HSF : Hid (0 < (asg PN QS l s).1 (cwN (circ PN l) p i) → stepA (ords PN l p) (asg PN QS l s) = (upd (asg PN QS l s).1 (cwN (circ PN l) p i) ((asg PN QS l s).1 (cwN (circ PN l) p i) - 1), (asg PN QS l s).2 ++ [cwN (circ PN l) p i])) := Lib.hid (fun h => step_found hi h HBE.out)
      obtain ⟨nn, hnn⟩ : ∃ nn, cwN (circ PN l) p i = nn := ⟨_, rfl⟩
      have HNN := Lib.hid hnn
      obtain ⟨rr, hrr⟩ : ∃ rr, (asg PN QS l s).1 nn = rr := ⟨_, rfl⟩
      have hroom2 : rr = limitL l nn - cnt (asg PN QS l s).2 nn := by rw [← hrr, ← hnn]; exact hroom
      have HRR := Lib.hid hrr
      simp only [hnn] at lk hup happ hai' HSF hlim hcn ⊢
      rw [hrr] at lk hup hai' HSF
      clear hnn hrr hroom hx hcw hai hbe hb1 hb2 hmv
      have hrb : -100 ≤ rr + 1000000 ∧ rr ≤ 1280 := by
        have := HLEN.out
        have h3 : cnt (asg PN QS l s).2 nn ≤ (asg PN QS l s).2.length := by
          unfold cnt
          have := List.count_le_length (a := nn) (l := (asg PN QS l s).2)
          omega
        omega
      clear hroom2 hlim hcn
      by_cases hpos : 0 < rr
      · have HAI' : Hid (AI Wc bm (z3 + 1) Ds (stepA (ords PN l p) (asg PN QS l s)) (.slice (some ⟨g', 0, none⟩) ((asg PN QS l s).2.length + 1) c') (Vb.setCell ⟨z3 + 1, 0, none⟩ (.slice (some ⟨g', 0, none⟩) ((asg PN QS l s).2.length + 1) c'))) := Lib.hid (by rw [HSF.out hpos]; exact hai')
        have HKF := Lib.hid hkf
        clear hai' hkf HSF
        generalize (asg PN QS l s).2.length + 1 = ln at *
        have HAPP := Lib.hid happ
        clear happ
        generalize V.putObj bm (.map es ck) = Va at *
        gi_wp2_with (gi_at_builtin; refine wpListIn_app rfl (.tmp 34) (.tmp 36) 22 rfl rfl rfl HAPP.out ?_)
        exact ⟨HKF.out, rfl, _, HAI'.out⟩
      · clear hai' hkf HSF happ hup co1 co2 fo2
        gi_wp2_with fail
        refine ⟨KeepsFrom.refl _ _, HAV.out, HFR.out, fun k hk => ?_⟩
        by_cases e : k = i
        · subst e
          rw [HNN.out, HRR.out]
          omega
        · exact HBE.out k (by omega)
    case done =>
      rintro D V hD ⟨hai, hfr, hbe⟩ hK
      have HN : Hid (AI Wc bm (z3 + 1) (D :: Ds) (asg PN QS l (s + 1)) vo V) := Lib.hid (by
        have e : asg PN QS l (s + 1) = asg PN QS l s := by
          show stepA (ords PN l (QS s)) (asg PN QS l s) = _
          rw [HQS.out]
          exact step_none hbe
        rw [e]
        exact hai.mark (fun E hE => HAI2.out.lt hE) HBB.out hD hK)
      clear hai hfr hbe hK hD
      go_wp2_with fail
      exact ⟨g - 1, by omega, s + 1, D :: Ds, vo, by omega, rfl, rfl, rfl, rfl, rfl, by simp, HN.out⟩
    case stop =>
      rintro D c i V hD hi ⟨rfl, v', hai⟩ hK
      have HN : Hid (AI Wc bm (z3 + 1) (D :: Ds) (asg PN QS l (s + 1)) v' V) := Lib.hid (by
        have e : asg PN QS l (s + 1) = stepA (ords PN l p) (asg PN QS l s) := by
          rw [← HQS.out]
          rfl
        rw [e]
        exact hai.mark (fun E hE => HAI2.out.lt hE) HBB.out hD hK)
      clear hai hK hD
      gi_wp2_with fail
      go_wp2_with fail
      exact ⟨g - 1, by omega, s + 1, D :: Ds, v', by omega, rfl, rfl, rfl, rfl, rfl, by simp, HN.out⟩
  · obtain rfl : s = 64 := by omega
    have c6 := HA.out.co
    have hns : ¬ (((64 : Nat) : Int) < 64) := by omega
    go_wp2_with fail
    refine leaves_marks Ds W HA.out.nd (fun D hD => (HA.out.ds D hD).2) (fun W' k => ?_)
    have hsz := HSZ.out
    have hbm := HBM.out
    have hk2 := HK2.out.size
    have hk3 := HK3.out.size
    have hkc := HKC.out.size
    refine ⟨.tuple #[vo, .int .i64 0], by simp [results, Tryz.f52, go_sem], vo, rfl, ?_, ?_⟩
    · refine ownsRow_lo (ownsRow_keep HA.out.ow k (fun b hb hD => ?_)) (by omega)
      rcases HA.out.ow.2 with ⟨e, _⟩ | ⟨g', cap, cur, e, hb', hh, _⟩
      · rw [e] at hb; cases hb
      · rw [e] at hb
        cases hb
        rw [(HA.out.ds _ hD).2] at hh
        cases hh
    · exact ((HK3.out.trans HKC.out).trans' HA.out.k (fun i e => .inr (by omega))).trans' k (fun i e => .inr (by have := (HA.out.ds i e).1; omega))
end Go.Proofs.YtplkmbfeeegaiaaGreatDoor

/-
  Assign refused; Clone of members; New.
-/
namespace Go.Proofs.YtplkmbfeeegaiaaGreatDoor
open Go.RowKit Go.Shelf
attribute [local go_sem] Oper.semAt_some

set_option maxRecDepth 100000 in
set_option maxHeartbeats 2000000 in
theorem assign_bad (v : Value) (l : List Mb) (w : World) (h : Mbs w v l) (hv : ¬ VL l) : Calls Tryz.prog 52 #[v] w fun e w' => e = .returned (.tuple #[.slice none 0 0, .int .i64 120]) ∧ Keep (fun _ => False) w w' := by
  have HVA : Hid (Calls Tryz.prog 67 #[v] w fun e w' => e = .returned (.bool false) ∧ Keep (fun _ => False) w w') := Lib.hid (by
    have := valid_any v l w h
    rwa [show validL l = false from by
      cases e : validL l with
      | false => rfl
      | true => exact absurd ((validL_iff l).1 e) hv] at this)
  clear h hv
  refine (callsIn_wide (n := 0)).1 ?_
  refine callsIn_of_wp_marks Tryz.func52 rfl trivial ?_ rfl
  simp only [Tryz.ntmps52, List.size_toArray, List.length_cons, List.length_nil, Nat.reduceAdd, Nat.reduceSub, Array.replicate_succ, Array.replicate_zero, List.push_toArray, List.append_toArray, List.nil_append, List.cons_append]
  refine wpIn_wide.2 ?_
  go_wp2_with fail
  go_step3
  go_wp2_with fail
  with_reducible refine HVA.out.mono ?_
  rintro e W1 ⟨rfl, k1⟩
  have HK1 := Lib.hid k1
  clear k1 HVA
  go_wp2_with fail
  rw [Exit.noGoto_ret]
  exact ⟨.tuple #[.slice none 0 0, .int .i64 120], by simp [results, Tryz.f52, go_sem], rfl, HK1.out⟩

def encMb (m : Mb) : List Value := [.int .i64 m.node, .int .i64 m.region, .int .i64 m.weight]
def flatB (l : List Mb) : List Value := l.flatMap encMb
theorem flatB_append (a b : List Mb) : flatB (a ++ b) = flatB a ++ flatB b := by unfold flatB; rw [List.flatMap_append]
theorem flatB_one (x : Mb) : flatB [x] = encMb x := by simp [flatB]
theorem flatB_len (l : List Mb) : (flatB l).length = l.length * 3 := by
  induction l with
  | nil => rfl
  | cons x l ih => unfold flatB at ih ⊢; rw [List.flatMap_cons, List.length_append, ih]; simp [encMb]; omega
theorem flatB_get : ∀ (l : List Mb) (q : Nat) (x : Mb) (r : Nat), l[q]? = some x → r < 3 → (flatB l)[q * 3 + r]? = (encMb x)[r]?
  | [], q, x, r, h, _ => by simp at h
  | y :: l, 0, x, r, h, hr => by
    simp only [List.getElem?_cons_zero, Option.some.injEq] at h
    subst h
    unfold flatB
    rw [List.flatMap_cons, Nat.zero_mul, Nat.zero_add, List.getElem?_append_left (by simp [encMb]; omega)]
  | y :: l, q + 1, x, r, h, hr => by
    simp only [List.getElem?_cons_succ] at h
    have ih := flatB_get l q x r h hr
    unfold flatB at ih ⊢
    rw [List.flatMap_cons, List.getElem?_append_right (by simp [encMb]; omega)]
    have e : (q + 1) * 3 + r - (encMb y).length = q * 3 + r := by simp [encMb]; omega
    rw [e]; exact ih
theorem flatB_cells {W : World} {b off : Nat} {l : List Mb} (h : ∀ j m, l[j]? = some m → W.cell? ⟨b, off + j * 3, none⟩ = some (.int .i64 m.node) ∧ W.cell? ⟨b, off + j * 3 + 1, none⟩ = some (.int .i64 m.region) ∧ W.cell? ⟨b, off + j * 3 + 2, none⟩ = some (.int .i64 m.weight)) (j : Nat) (u : Value) (hj : (flatB l)[j]? = some u) : W.cell? ⟨b, off + j, none⟩ = some u := by
  have hlt := (List.getElem?_eq_some_iff.1 hj).1
  rw [flatB_len] at hlt
  have hq : j / 3 < l.length := by omega
  have hx : l[j / 3]? = some l[j / 3] := List.getElem?_eq_getElem hq
  have h1 := flatB_get l (j / 3) _ (j % 3) hx (by omega)
  rw [show j / 3 * 3 + j % 3 = j by omega, hj] at h1
  have h2 := h _ _ hx
  have hr : j % 3 = 0 ∨ j % 3 = 1 ∨ j % 3 = 2 := by omega
  rcases hr with e | e | e
  · rw [e] at h1
    simp only [encMb, List.getElem?_cons_zero, Option.some.injEq] at h1
    rw [h1, ← h2.1]; congr 2; omega
  · rw [e] at h1
    simp only [encMb, List.getElem?_cons_succ, List.getElem?_cons_zero, Option.some.injEq] at h1
    rw [h1, ← h2.2.1]; congr 2; omega
  · rw [e] at h1
    simp only [encMb, List.getElem?_cons_succ, List.getElem?_cons_zero, Option.some.injEq] at h1
    rw [h1, ← h2.2.2]; congr 2; omega
theorem mbs_owns {W : World} {lo : Nat} {v : Value} {l : List Mb} (h : W.ownsRow lo 35 3 v l.length (flatB l)) (hl : l.length ≤ 1000000) (hb : ∀ m ∈ l, I64 m.node ∧ I64 m.region ∧ I64 m.weight) : Mbs W v l := by
  rcases h.2 with ⟨rfl, hx⟩ | ⟨g, cap, cur, rfl, _, _, hc, r⟩
  · have : l = [] := List.eq_nil_of_length_eq_zero hx
    subst this
    exact ⟨by simp, by simp, none, 0, 0, 0, rfl, by simp, fun h => by simp at h, fun j x hj => by simp at hj⟩
  · refine ⟨by omega, hb, some ⟨g, 0, none⟩, cap, g, 0, rfl, hc, fun _ => rfl, fun j x hj => ?_⟩
    have key : ∀ r, r < 3 → ∀ u, (encMb x)[r]? = some u → W.cell? ⟨g, 0 + (j * 3 + r), none⟩ = some u := fun r hr u hu => by
      have h1 := flatB_get l j x r hj hr
      rw [hu] at h1
      have h3 := h.cells (g := g) rfl _ _ h1
      rwa [Addr.add_lit] at h3
    exact ⟨key 0 (by decide) _ rfl, by have := key 1 (by decide) _ rfl; rwa [← Nat.add_assoc] at this, by have := key 2 (by decide) _ rfl; rwa [← Nat.add_assoc] at this⟩
theorem its_owns {W : World} {lo : Nat} {v : Value} {xs : List Int} (h : W.ownsRow lo 3 1 v xs.length (xs.map (fun x => Value.int .i64 x))) (hl : xs.length ≤ 1000000) (hb : ∀ x ∈ xs, I64 x) : Its W v xs := by
  rcases h.2 with ⟨rfl, hx⟩ | ⟨g, cap, cur, rfl, _, _, hc, r⟩
  · have : xs = [] := List.eq_nil_of_length_eq_zero hx
    subst this
    exact Its.nil W
  · refine ⟨by omega, hb, some ⟨g, 0, none⟩, cap, g, 0, rfl, hc, fun _ => rfl, fun j x hj => ?_⟩
    have h3 := h.cells (g := g) rfl j (.int .i64 x) (by rw [List.getElem?_map, hj]; rfl)
    rwa [Addr.add_lit] at h3

/-- More members. -/
theorem app_mbs (W : World) (ty lo : Nat) (v src : Value) (l ys : List Mb) (hown : W.ownsRow lo 35 3 v l.length (flatB l)) (hs : Mbs W src ys) (hne : 0 < ys.length) (hn : l.length + ys.length ≤ 100000) (hlo : lo ≤ W.heap.size) :
    ∃ v' w', (Builtin.append_ #[25, 25] ty #[v, src]).run Tryz.prog W = .ok v' w' ∧ w'.ownsRow lo 35 3 v' (l ++ ys).length (flatB (l ++ ys)) ∧
      Keep (fun k => v.ownBlock = some k) W w' ∧ (v'.ownBlock = v.ownBlock ∨ v'.ownBlock = some W.heap.size) := by
  obtain ⟨hn2, hb, a, c, b, off, rfl, hc, ha, hcell⟩ := hs
  obtain rfl := ha hne
  obtain ⟨i0, hi, hz0, hz1, hz2⟩ := info_parts infoMb
  obtain ⟨v', w', r1, r2, r3, r4, r5⟩ := run_append_own_at (P := Tryz.prog) W lo 25 ty 35 i0 _ 3 24 Tryz.underlying25 hi hz0 hz1 hz2 rfl (by decide) v l.length (flatB l) hown ⟨b, off, none⟩ ys.length c (flatB ys) (flatB_len ys)
    (by
      intro j u hj
      rw [Addr.add_lit]
      exact flatB_cells hcell j u hj)
    (by
      intro u hu
      unfold flatB at hu
      obtain ⟨m, _, hu⟩ := List.mem_flatMap.1 hu
      simp only [encMb, List.mem_cons, List.not_mem_nil, or_false] at hu
      rcases hu with rfl | rfl | rfl <;> rfl) (by unfold maxLen; omega) (by omega) hlo
  refine ⟨v', w', r1, ?_, Keep.of_grown r3, r5⟩
  rw [flatB_append, List.length_append]
  exact r2

def ClonePost (l : List Mb) (w : World) (e : Ending) (w' : World) : Prop := ∃ v, e = .returned v ∧ w'.ownsRow w.heap.size 35 3 v l.length (flatB l) ∧ Keep (fun _ => False) w w'
set_option maxRecDepth 100000 in
set_option maxHeartbeats 1000000 in
theorem cloneMb_any (v : Value) (l : List Mb) (w : World) (h : Mbs w v l) (hne : 0 < l.length) (hl : l.length ≤ 1000) : Calls Tryz.prog 54 #[v] w (ClonePost l w) := by
  have k1 : Keep (fun _ => False) w (w.alloc (.cells #[] 35)) := (Keep.refl _ w).alloc _
  obtain ⟨v', W2, hr, hown, hkp, hob⟩ := app_mbs (w.alloc (.cells #[] 35)) 25 w.heap.size (.slice (some ⟨w.heap.size, 0, none⟩) 0 0) v [] l (World.ownsRow_lit w #[] 0 (Nat.le_refl _) (by decide) rfl) (h.kept k1) hne (by simp; omega) (by simp)
  rw [List.nil_append] at hown
  have HP : Hid (ClonePost l w (.returned v') W2) := Lib.hid ⟨v', rfl, hown, k1.trans' hkp (fun j e => by cases e; exact .inr (Nat.le_refl _))⟩
  obtain ⟨-, -, a, c, b, off, rfl, -, ha, -⟩ := h
  obtain rfl := ha hne
  have HR := Lib.hid hr
  clear hr hown hkp hob k1 ha
  have heq : (binOp BinOp.eql 25 (.slice (some ⟨b, off, none⟩) l.length c) (.slice none 0 0)).run Tryz.prog w = .ok (.bool false) w := by
    simp only [binOp]
    simp [Op.equal, Op.maxDepth, Lib.run_equalIn_slice_nil w 9999 25 35 (some ⟨b, off, none⟩) l.length c 0 0 Tryz.underlying25]
  go_enter Tryz.func54, Tryz.ntmps54
  go_wp2_with (at_builtin; refine wpList_app rfl (.tmp 5) (.tmp 6) 25 rfl rfl rfl HR.out ?_)
  go_ret
  exact HP.out

/-- A ring of its own. -/
def NewPost (ep : Int) (l : List Mb) (w : World) (e : Ending) (w' : World) : Prop := ∃ vm vo, e = .returned (.tuple #[ringV ep vm vo, .int .i64 0]) ∧ w'.ownsRow w.heap.size 35 3 vm l.length (flatB l) ∧ w'.ownsRow w.heap.size 3 1 vo (ownersL PN QS l).length ((ownersL PN QS l).map (fun x => Value.int .i64 x)) ∧ (∀ b, vo.ownBlock = some b → vm.ownBlock ≠ some b) ∧ Keep (fun _ => False) w w'
theorem VL.bd {l : List Mb} (h : VL l) : ∀ m ∈ l, I64 m.node ∧ I64 m.region ∧ I64 m.weight := fun m hm => by
  have := h.ok m hm
  unfold okMb at this
  unfold I64
  omega
theorem VL.obd {l : List Mb} (h : VL l) : ∀ x ∈ ownersL PN QS l, I64 x := fun x hx => by
  obtain ⟨m, hm, rfl⟩ := (owners_ok PN QS h).2.2 x hx
  exact (h.bd m hm).1

set_option maxRecDepth 100000 in
set_option maxHeartbeats 2000000 in
theorem new_ok (ep : Int) (v : Value) (l : List Mb) (w : World) (h : Mbs w v l) (hv : VL l) (hT : Tab w) (he : 1 ≤ ep ∧ ep ≤ 1000000) : Calls Tryz.prog 13 #[.int .i64 ep, v] w (NewPost ep l w) := by
  have HAS : Hid (∀ W, Keep (fun _ => False) w W → Calls Tryz.prog 52 #[v] W (AsgPost l W)) := Lib.hid (fun W k => assign_ok v l W (h.kept k) hv (hT.kept k))
  have HCL : Hid (∀ W, Keep (fun _ => False) w W → Calls Tryz.prog 54 #[v] W (ClonePost l W)) := Lib.hid (fun W k => cloneMb_any v l W (h.kept k) (List.length_pos_iff.2 hv.ne) (by have := hv.len; omega))
  have HEP := Lib.hid (decide_eq_true he)
  clear h hv hT he
  have HK0 : Hid (Keep (fun _ => False) w (w.alloc (.cells #[.int .i64 0, .slice none 0 0, .slice none 0 0] 27))) := Lib.hid ((Keep.refl _ w).alloc _)
  have HT3 := Lib.hid (three_cell w (.int .i64 0) (.slice none 0 0) (.slice none 0 0) 27)
  go_enter Tryz.func13, Tryz.ntmps13
  go_wp2_with fail
  generalize w.alloc (.cells #[.int .i64 0, .slice none 0 0, .slice none 0 0] 27) = W0 at *
  generalize hz : w.heap.size = z at HT3
  have HZ := Lib.hid hz
  clear hz
  with_reducible refine (HAS.out _ HK0.out).mono ?_
  rintro e W1 ⟨vo, rfl, how, k1⟩
  have HK1 := Lib.hid (HK0.out.trans k1)
  have HSZ1 := Lib.hid k1.size
  have HOW := Lib.hid how
  have HT1 := Lib.hid (And.intro (k1.cell HT3.out.1 (fun h => h)) (And.intro (k1.cell HT3.out.2.1 (fun h => h)) (And.intro (k1.cell HT3.out.2.2.1 (fun h => h)) (fun o => (k1.frozen (World.block_lt_of_cell? _ _ HT3.out.1) (fun h => h) o).trans (HT3.out.2.2.2 o)))))
  clear k1 how
  go_wp2_with fail
  with_reducible refine (within_b ep 1 1000000 true HEP.out _).mono ?_
  rintro e w' ⟨rfl, rfl⟩
  go_wp2_with fail
  with_reducible refine (HCL.out _ HK1.out).mono ?_
  rintro e W2 ⟨vm, rfl, hmb, k2⟩
  have hform : (∃ a n c, vo = .slice a n c) ∧ ∃ a n c, vm = .slice a n c := by
    constructor
    · rcases HOW.out.2 with ⟨rfl, _⟩ | ⟨g, cap, cur, rfl, _⟩ <;> exact ⟨_, _, _, rfl⟩
    · rcases hmb.2 with ⟨rfl, _⟩ | ⟨g, cap, cur, rfl, _⟩ <;> exact ⟨_, _, _, rfl⟩
  obtain ⟨⟨oa, on, oc, rfl⟩, ma, mn, mc, rfl⟩ := hform
  have f0 := k2.cell HT1.out.1 (fun h => h)
  have f1 := k2.cell HT1.out.2.1 (fun h => h)
  have f2 := k2.cell HT1.out.2.2.1 (fun h => h)
  have ff : ∀ o, W2.frozen? ⟨z, o, none⟩ = false := fun o => (k2.frozen (World.block_lt_of_cell? _ _ HT1.out.1) (fun h => h) o).trans (HT1.out.2.2.2 o)
  have HK2 := Lib.hid (HK1.out.trans k2)
  have HOW2 := Lib.hid (ownsRow_keep HOW.out k2 (fun _ _ h => h))
  have HMB := Lib.hid hmb
  have HLT := Lib.hid (fun b (e : (Value.slice oa on oc).ownBlock = some b) => (HOW.out.lt b e))
  clear k2 hmb HOW
  go_wp2_with fail
  have g0 : (((W2.setCell ⟨z, 0, none⟩ (.int .i64 ep)).setCell ⟨z, 1, none⟩ (.slice ma mn mc)).setCell ⟨z, 2, none⟩ (.slice oa on oc)).cell? ⟨z, 0, none⟩ = some (.int .i64 ep) := (cell_set_off (by decide)).trans ((cell_set_off (by decide)).trans (cell_set_same f0))
  have g1 : (((W2.setCell ⟨z, 0, none⟩ (.int .i64 ep)).setCell ⟨z, 1, none⟩ (.slice ma mn mc)).setCell ⟨z, 2, none⟩ (.slice oa on oc)).cell? ⟨z, 1, none⟩ = some (.slice ma mn mc) := (cell_set_off (by decide)).trans (cell_set_same ((cell_set_off (by decide)).trans f1))
  have g2 : (((W2.setCell ⟨z, 0, none⟩ (.int .i64 ep)).setCell ⟨z, 1, none⟩ (.slice ma mn mc)).setCell ⟨z, 2, none⟩ (.slice oa on oc)).cell? ⟨z, 2, none⟩ = some (.slice oa on oc) := cell_set_same ((cell_set_off (by decide)).trans ((cell_set_off (by decide)).trans f2))
  have HKS : Hid (Keep (fun j => j = z) W2 (((W2.setCell ⟨z, 0, none⟩ (.int .i64 ep)).setCell ⟨z, 1, none⟩ (.slice ma mn mc)).setCell ⟨z, 2, none⟩ (.slice oa on oc))) := Lib.hid ((((Keep.refl (fun j => j = z) W2).setCell (p := ⟨z, 0, none⟩) _ (.inl rfl)).setCell (p := ⟨z, 1, none⟩) _ (.inl rfl)).setCell (p := ⟨z, 2, none⟩) _ (.inl rfl))
  generalize ((W2.setCell ⟨z, 0, none⟩ (.int .i64 ep)).setCell ⟨z, 1, none⟩ (.slice ma mn mc)).setCell ⟨z, 2, none⟩ (.slice oa on oc) = W3 at *
  refine bodyPost_ret (v := .tuple #[ringV ep (.slice ma mn mc) (.slice oa on oc), .int .i64 0]) (by simp [results, Tryz.results13, go_sem, g0, g1, g2]) rfl ?_
  have hz0 : w.heap.size = z := HZ.out
  have hW0 := World.block_lt_of_cell? _ _ HT3.out.1
  simp only [] at hW0
  have hW1 := HK1.out.size
  refine ⟨_, _, rfl, ownsRow_lo (ownsRow_keep HMB.out HKS.out (fun b hb e => ?_)) hW1, ownsRow_lo (ownsRow_keep HOW2.out HKS.out (fun b hb e => ?_)) HK0.out.size, fun b hb hm => ?_, HK2.out.trans' HKS.out (fun i e => .inr (by omega))⟩
  · have := (HMB.out.lt b hb).1
    have h3 : W0.heap.size ≤ W1.heap.size := HSZ1.out
    omega
  · have := (HOW2.out.lt b hb).1; omega
  · have h1 := (HMB.out.lt b hm).1
    have h2 := (HLT.out b hb).2
    omega
end Go.Proofs.YtplkmbfeeegaiaaGreatDoor

/-
  Boxes of three cells; slices that are cut; append to an empty literal.
-/
namespace Go.Proofs.YtplkmbfeeegaiaaGreatDoor
open Go.RowKit Go.Shelf

/-- A box of three cells. -/
def Box3 (W : World) (z : Nat) (x y u : Value) : Prop := W.cell? ⟨z, 0, none⟩ = some x ∧ W.cell? ⟨z, 1, none⟩ = some y ∧ W.cell? ⟨z, 2, none⟩ = some u ∧ ∀ o, W.frozen? ⟨z, o, none⟩ = false
theorem Box3.lt {W : World} {z : Nat} {x y u : Value} (h : Box3 W z x y u) : z < W.heap.size := World.block_lt_of_cell? _ _ h.1
theorem Box3.keep {W W' : World} {z : Nat} {x y u : Value} {A : Nat → Prop} (h : Box3 W z x y u) (k : Keep A W W') (hz : ¬ A z) : Box3 W' z x y u :=
  ⟨k.cell h.1 hz, k.cell h.2.1 hz, k.cell h.2.2.1 hz, fun o => (k.frozen h.lt hz o).trans (h.2.2.2 o)⟩
theorem Box3.kept {W W' : World} {z : Nat} {x y u : Value} (h : Box3 W z x y u) (k : Keep (fun _ => False) W W') : Box3 W' z x y u := h.keep k (fun h => h)
theorem Box3.set0 {W : World} {z : Nat} {x y u : Value} (h : Box3 W z x y u) (v : Value) : Box3 (W.setCell ⟨z, 0, none⟩ v) z v y u :=
  ⟨cell_set_same h.1, (cell_set_off (by decide)).trans h.2.1, (cell_set_off (by decide)).trans h.2.2.1, fun o => (World.frozen?_setCell _ _ _ _).trans (h.2.2.2 o)⟩
theorem Box3.set1 {W : World} {z : Nat} {x y u : Value} (h : Box3 W z x y u) (v : Value) : Box3 (W.setCell ⟨z, 1, none⟩ v) z x v u :=
  ⟨(cell_set_off (by decide)).trans h.1, cell_set_same h.2.1, (cell_set_off (by decide)).trans h.2.2.1, fun o => (World.frozen?_setCell _ _ _ _).trans (h.2.2.2 o)⟩
theorem Box3.set2 {W : World} {z : Nat} {x y u : Value} (h : Box3 W z x y u) (v : Value) : Box3 (W.setCell ⟨z, 2, none⟩ v) z x y v :=
  ⟨(cell_set_off (by decide)).trans h.1, (cell_set_off (by decide)).trans h.2.1, cell_set_same h.2.2.1, fun o => (World.frozen?_setCell _ _ _ _).trans (h.2.2.2 o)⟩
theorem Box3.other {W : World} {z b o : Nat} {x y u : Value} (h : Box3 W z x y u) (hb : b ≠ z) (v : Value) : Box3 (W.setCell ⟨b, o, none⟩ v) z x y u :=
  ⟨(cell_set_blk hb).trans h.1, (cell_set_blk hb).trans h.2.1, (cell_set_blk hb).trans h.2.2.1, fun o => (World.frozen?_setCell _ _ _ _).trans (h.2.2.2 o)⟩
theorem Box3.new (W : World) (x y u : Value) (t : TypeId) : Box3 (W.alloc (.cells #[x, y, u] t)) W.heap.size x y u := three_cell W x y u t

theorem Mbs.cut {W : World} {a : Option Addr} {n c : Nat} {l : List Mb} (h : Mbs W (.slice a n c) l) {q : Nat} (hq : q ≤ n) : Mbs W (.slice a q c) (l.take q) ∧ (l.take q).length = q ∧ n ≤ c := by
  obtain ⟨h1, h2, a', c', b, off, e, hc, ha, hcell⟩ := h
  obtain ⟨rfl, rfl, rfl⟩ := Value.slice.inj e
  have hl : (l.take q).length = q := by rw [List.length_take]; omega
  refine ⟨⟨by omega, fun m hm => h2 m (List.mem_of_mem_take hm), a, c, b, off, by rw [hl], by omega, fun h => ha (by omega), fun j x hj => hcell j x ?_⟩, hl, hc⟩
  have := (List.getElem?_eq_some_iff.1 hj).1
  rwa [List.getElem?_take_of_lt (by omega)] at hj
theorem Its.cut {W : World} {a : Option Addr} {n c : Nat} {l : List Int} (h : Its W (.slice a n c) l) {q : Nat} (hq : q ≤ n) : Its W (.slice a q c) (l.take q) ∧ (l.take q).length = q ∧ n ≤ c := by
  obtain ⟨h1, h2, a', c', b, off, e, hc, ha, hcell⟩ := h
  obtain ⟨rfl, rfl, rfl⟩ := Value.slice.inj e
  have hl : (l.take q).length = q := by rw [List.length_take]; omega
  refine ⟨⟨by omega, fun m hm => h2 m (List.mem_of_mem_take hm), a, c, b, off, by rw [hl], by omega, fun h => ha (by omega), fun j x hj => hcell j x ?_⟩, hl, hc⟩
  have := (List.getElem?_eq_some_iff.1 hj).1
  rwa [List.getElem?_take_of_lt (by omega)] at hj

theorem own_form {W : World} {lo : Nat} {e : TypeId} {z n : Nat} {v : Value} {xs : List Value} (h : W.ownsRow lo e z v n xs) : ∃ a c, v = .slice a n c := by
  rcases h.2 with ⟨rfl, h2⟩ | ⟨g, c, cur, rfl, _⟩
  · exact ⟨none, 0, by rw [h2]⟩
  · exact ⟨_, _, rfl⟩
theorem run_append_owned_cap {P : Program} (w : World) (base : Nat) (t ty e : TypeId) (i : TypeInfo) (size : Nat) (ht : P.underlying t = some (.slice e)) (hi : P.info? e = some i)
    (v : Value) (n : Nat) (xs : List Value) (hown : w.ownsRow base e size v n xs) (c : Nat) :
    (Builtin.append_ #[t, t] ty #[v, .slice none 0 c]).run P w = .ok v w := by
  rcases hown.2 with ⟨rfl, rfl⟩ | ⟨g, cap, cur, rfl, _, _, hnc, _⟩
  · simp [Builtin.append_, run_underlying ht, sizeOf, typeInfo, hi, Builtin.lenOf, Builtin.firstCells]
  · simp [Builtin.append_, run_underlying ht, sizeOf, typeInfo, hi, Builtin.lenOf, Builtin.firstCells, hnc, storeCells]
/-- More members behind an own row, none too. -/
theorem app_mbs0 (W : World) (ty lo : Nat) (v src : Value) (l ys : List Mb) (hown : W.ownsRow lo 35 3 v l.length (flatB l)) (hs : Mbs W src ys) (hn : l.length + ys.length ≤ 100000) (hlo : lo ≤ W.heap.size) :
    ∃ v' w', (Builtin.append_ #[25, 25] ty #[v, src]).run Tryz.prog W = .ok v' w' ∧ w'.ownsRow lo 35 3 v' (l ++ ys).length (flatB (l ++ ys)) ∧
      Keep (fun k => v.ownBlock = some k) W w' := by
  by_cases hne : 0 < ys.length
  · obtain ⟨v', w', h1, h2, h3, _⟩ := app_mbs W ty lo v src l ys hown hs hne hn hlo
    exact ⟨v', w', h1, h2, h3⟩
  · obtain ⟨hn2, hb, a, c, b, off, rfl, hc, ha, hcell⟩ := hs
    have : ys = [] := List.eq_nil_of_length_eq_zero (by omega)
    subst this
    obtain ⟨i0, hi, hz0, hz1, hz2⟩ := info_parts infoMb
    cases a with
    | none => exact ⟨v, W, run_append_owned_cap W lo 25 ty 35 i0 3 Tryz.underlying25 hi v l.length _ hown c, by rw [List.append_nil]; exact hown, Keep.refl _ W⟩
    | some ad =>
      obtain ⟨v', w', r1, r2, r3, r4, r5⟩ := run_append_own_at (P := Tryz.prog) W lo 25 ty 35 i0 _ 3 24 Tryz.underlying25 hi hz0 hz1 hz2 rfl (by decide) v l.length (flatB l) hown ad 0 c [] (by simp)
        (by intro j u hj; simp at hj) (by simp) (by unfold maxLen; omega) (by omega) hlo
      refine ⟨v', w', r1, ?_, Keep.of_grown r3⟩
      rw [List.append_nil] at r2 ⊢
      exact r2
theorem app_its0 (W : World) (ty lo : Nat) (v src : Value) (l ys : List Int) (hown : W.ownsRow lo 3 1 v l.length (l.map (fun x => Value.int .i64 x))) (hs : Its W src ys) (hn : l.length + ys.length ≤ 100000) (hlo : lo ≤ W.heap.size) :
    ∃ v' w', (Builtin.append_ #[22, 22] ty #[v, src]).run Tryz.prog W = .ok v' w' ∧ w'.ownsRow lo 3 1 v' (l ++ ys).length ((l ++ ys).map (fun x => Value.int .i64 x)) ∧
      Keep (fun k => v.ownBlock = some k) W w' := by
  obtain ⟨hn2, hb, a, c, b, off, rfl, hc, ha, hcell⟩ := hs
  obtain ⟨i0, hi, hz0, hz1, hz2⟩ := info_parts infoInt
  cases a with
  | none =>
    have : ys = [] := by
      apply List.eq_nil_of_length_eq_zero
      rcases Nat.eq_zero_or_pos ys.length with h | h
      · exact h
      · exact absurd (ha h) (by simp)
    subst this
    exact ⟨v, W, run_append_owned_cap W lo 22 ty 3 i0 1 Tryz.underlying22 hi v l.length _ hown c, by rw [List.append_nil]; exact hown, Keep.refl _ W⟩
  | some ad =>
    obtain ⟨v', w', r1, r2, r3, r4, r5⟩ := run_append_own_at (P := Tryz.prog) W lo 22 ty 3 i0 _ 1 8 Tryz.underlying22 hi hz0 hz1 hz2 rfl (by decide) v l.length _ hown ad ys.length c (ys.map (fun x => Value.int .i64 x)) (by simp)
      (by
        intro j u hj
        rw [List.getElem?_map] at hj
        cases hx : ys[j]? with
        | none => rw [hx] at hj; cases hj
        | some x =>
          rw [hx] at hj
          cases hj
          have := (List.getElem?_eq_some_iff.1 hx).1
          have e := ha (by omega)
          cases e
          rw [Addr.add_lit]
          exact hcell j x hx)
      (by
        intro u hu
        obtain ⟨x, _, rfl⟩ := List.mem_map.1 hu
        rfl) (by unfold maxLen; omega) (by omega) hlo
    refine ⟨v', w', r1, ?_, Keep.of_grown r3⟩
    rw [List.map_append, List.length_append]
    exact r2
/-- A copy of its own: append to an empty literal. -/
theorem lit_mbs (W : World) (v : Value) (l : List Mb) (h : Mbs W v l) (hl : l.length ≤ 1000) :
    ∃ a c W', (Builtin.append_ #[25, 25] 25 #[.slice (some ⟨W.heap.size, 0, none⟩) 0 0, v]).run Tryz.prog (W.alloc (.cells #[] 35)) = .ok (.slice a l.length c) W' ∧ Keep (fun _ => False) W W' ∧ W'.ownsRow W.heap.size 35 3 (.slice a l.length c) l.length (flatB l) := by
  have k1 : Keep (fun _ => False) W (W.alloc (.cells #[] 35)) := (Keep.refl _ W).alloc _
  obtain ⟨v', W2, hr, hown, hkp⟩ := app_mbs0 (W.alloc (.cells #[] 35)) 25 W.heap.size (.slice (some ⟨W.heap.size, 0, none⟩) 0 0) v [] l (World.ownsRow_lit W #[] 0 (Nat.le_refl _) (by decide) rfl) (h.kept k1) (by simp; omega) (by simp)
  rw [List.nil_append] at hown
  obtain ⟨a, c, rfl⟩ := own_form hown
  exact ⟨a, c, W2, hr, k1.trans' hkp (fun j e => by cases e; exact .inr (Nat.le_refl _)), hown⟩
theorem lit_its (W : World) (v : Value) (l : List Int) (h : Its W v l) (hl : l.length ≤ 1000) :
    ∃ a c W', (Builtin.append_ #[22, 22] 22 #[.slice (some ⟨W.heap.size, 0, none⟩) 0 0, v]).run Tryz.prog (W.alloc (.cells #[] 3)) = .ok (.slice a l.length c) W' ∧ Keep (fun _ => False) W W' ∧ W'.ownsRow W.heap.size 3 1 (.slice a l.length c) l.length (l.map (fun x => Value.int .i64 x)) := by
  have k1 : Keep (fun _ => False) W (W.alloc (.cells #[] 3)) := (Keep.refl _ W).alloc _
  obtain ⟨v', W2, hr, hown, hkp⟩ := app_its0 (W.alloc (.cells #[] 3)) 22 W.heap.size (.slice (some ⟨W.heap.size, 0, none⟩) 0 0) v [] l (World.ownsRow_lit W #[] 0 (Nat.le_refl _) (by decide) rfl) (h.kept k1) (by simp; omega) (by simp)
  rw [List.nil_append] at hown
  obtain ⟨a, c, rfl⟩ := own_form hown
  exact ⟨a, c, W2, hr, k1.trans' hkp (fun j e => by cases e; exact .inr (Nat.le_refl _)), hown⟩
end Go.Proofs.YtplkmbfeeegaiaaGreatDoor

/-
  Clone of integers, of members, none too.
-/
namespace Go.Proofs.YtplkmbfeeegaiaaGreatDoor
open Go.RowKit Go.Shelf

def CloneI (xs : List Int) (w : World) (e : Ending) (w' : World) : Prop := ∃ a c, e = .returned (.slice a xs.length c) ∧ w'.ownsRow w.heap.size 3 1 (.slice a xs.length c) xs.length (xs.map (fun x => Value.int .i64 x)) ∧ Keep (fun _ => False) w w'
set_option maxRecDepth 100000 in
set_option maxHeartbeats 1000000 in
theorem cloneI_any (v : Value) (xs : List Int) (w : World) (h : Its w v xs) (hl : xs.length ≤ 1000) : Calls Tryz.prog 65 #[v] w (CloneI xs w) := by
  obtain ⟨a', c', W2, hr, k, hown⟩ := lit_its w v xs h hl
  obtain ⟨-, -, a, c, b, off, rfl, -, ha, -⟩ := h
  cases a with
  | none =>
    have hx : xs = [] := by
      apply List.eq_nil_of_length_eq_zero
      rcases Nat.eq_zero_or_pos xs.length with h | h
      · exact h
      · exact absurd (ha h) (by simp)
    subst hx
    have heq : (binOp BinOp.eql 22 (.slice none 0 c) (.slice none 0 0)).run Tryz.prog w = .ok (.bool true) w := by
      simp only [binOp]
      simp [Op.equal, Op.maxDepth, Lib.run_equalIn_slice_nil w 9999 22 3 none 0 c 0 0 Tryz.underlying22]
    clear hr k hown ha
    go_enter Tryz.func65, Tryz.ntmps65
    go_wp2_with fail
    go_ret
    exact ⟨none, 0, rfl, World.ownsRow_nil w w.heap.size 3 1, Keep.refl _ w⟩
  | some ad =>
    have heq : (binOp BinOp.eql 22 (.slice (some ad) xs.length c) (.slice none 0 0)).run Tryz.prog w = .ok (.bool false) w := by
      simp only [binOp]
      simp [Op.equal, Op.maxDepth, Lib.run_equalIn_slice_nil w 9999 22 3 (some ad) xs.length c 0 0 Tryz.underlying22]
    have HP : Hid (CloneI xs w (.returned (.slice a' xs.length c')) W2) := Lib.hid ⟨a', c', rfl, hown, k⟩
    have HR := Lib.hid hr
    clear hr k hown ha
    go_enter Tryz.func65, Tryz.ntmps65
    go_wp2_with (at_builtin; refine wpList_app rfl (.tmp 5) (.tmp 6) 22 rfl rfl rfl HR.out ?_)
    go_ret
    exact HP.out

def CloneM (l : List Mb) (w : World) (e : Ending) (w' : World) : Prop := ∃ a c, e = .returned (.slice a l.length c) ∧ w'.ownsRow w.heap.size 35 3 (.slice a l.length c) l.length (flatB l) ∧ Keep (fun _ => False) w w'
set_option maxRecDepth 100000 in
set_option maxHeartbeats 1000000 in
theorem cloneM_any (v : Value) (l : List Mb) (w : World) (h : Mbs w v l) (hl : l.length ≤ 1000) : Calls Tryz.prog 54 #[v] w (CloneM l w) := by
  obtain ⟨a', c', W2, hr, k, hown⟩ := lit_mbs w v l h hl
  obtain ⟨-, -, a, c, b, off, rfl, -, ha, -⟩ := h
  cases a with
  | none =>
    have hx : l = [] := by
      apply List.eq_nil_of_length_eq_zero
      rcases Nat.eq_zero_or_pos l.length with h | h
      · exact h
      · exact absurd (ha h) (by simp)
    subst hx
    have heq : (binOp BinOp.eql 25 (.slice none 0 c) (.slice none 0 0)).run Tryz.prog w = .ok (.bool true) w := by
      simp only [binOp]
      simp [Op.equal, Op.maxDepth, Lib.run_equalIn_slice_nil w 9999 25 35 none 0 c 0 0 Tryz.underlying25]
    clear hr k hown ha
    go_enter Tryz.func54, Tryz.ntmps54
    go_wp2_with fail
    go_ret
    exact ⟨none, 0, rfl, World.ownsRow_nil w w.heap.size 35 3, Keep.refl _ w⟩
  | some ad =>
    have heq : (binOp BinOp.eql 25 (.slice (some ad) l.length c) (.slice none 0 0)).run Tryz.prog w = .ok (.bool false) w := by
      simp only [binOp]
      simp [Op.equal, Op.maxDepth, Lib.run_equalIn_slice_nil w 9999 25 35 (some ad) l.length c 0 0 Tryz.underlying25]
    have HP : Hid (CloneM l w (.returned (.slice a' l.length c')) W2) := Lib.hid ⟨a', c', rfl, hown, k⟩
    have HR := Lib.hid hr
    clear hr k hown ha
    go_enter Tryz.func54, Tryz.ntmps54
    go_wp2_with (at_builtin; refine wpList_app rfl (.tmp 5) (.tmp 6) 25 rfl rfl rfl HR.out ?_)
    go_ret
    exact HP.out
end Go.Proofs.YtplkmbfeeegaiaaGreatDoor

/-
  A region that draws its order and holds several operations that lay blocks, in whatever order: what each answers is told by a property that lasts.
-/
namespace Go.Proofs.YtplkmbfeeegaiaaGreatDoor
open Go Go.RowKit

/-- A free operation: its number, the slot of what it answers, the slots of free operations that it reads. -/
structure FO where
  idx : Nat
  slot : Nat
  deps : List Nat

def putL (ds : List Nat) (vs : Nat → Value) (a : Act) : Act := ds.foldl (fun a d => a.put (some d) (vs d)) a
theorem putL_size (vs : Nat → Value) : ∀ (ds : List Nat) (a : Act), (putL ds vs a).tmps.size = a.tmps.size ∧ (putL ds vs a).defers = a.defers
  | [], _ => ⟨rfl, rfl⟩
  | d :: ds, a => by
    obtain ⟨h1, h2⟩ := putL_size vs ds (a.put (some d) (vs d))
    exact ⟨h1.trans (by simp [Act.put]), h2.trans rfl⟩
theorem putL_get (vs : Nat → Value) (t : Nat) : ∀ (ds : List Nat) (a : Act), t < a.tmps.size → (putL ds vs a).tmps[t]? = if t ∈ ds then some (vs t) else a.tmps[t]?
  | [], a, _ => by simp [putL]
  | d :: ds, a, ht => by
    have h := putL_get vs t ds (a.put (some d) (vs d)) (by simpa [Act.put] using ht)
    show (putL ds vs (a.put (some d) (vs d))).tmps[t]? = _
    rw [h]
    by_cases e : t ∈ ds
    · rw [if_pos e, if_pos (List.mem_cons_of_mem _ e)]
    · rw [if_neg e]
      by_cases e2 : t = d
      · subst e2
        rw [if_pos List.mem_cons_self]
        simp [Act.put, ht]
      · rw [if_neg (by simp [e, e2])]
        simp only [Act.put]
        exact Array.getElem?_setIfInBounds_ne (fun e => e2 e.symm)

section
variable {P : Program} {md : Region.Mode} {ops : Array Oper} {C : World → Prop} {S : Nat → Value → World → Prop} {R : World → World → Prop}

def tmpsOf (o : Oper) : List Nat := o.op.operands.toList.filterMap fun | .tmp t => some t | _ => none
def specOk (md : Region.Mode) (ops : Array Oper) (hs : List FO) : Bool := hs.all fun h =>
  (match ops[h.idx]? with
   | some o => o.guard.isNone && (o.dst == some h.slot) && (hs.all fun k => !(tmpsOf o).contains k.slot || h.deps.contains k.slot)
   | none => false) &&
  (h.deps.all fun d => hs.any fun k => (k.slot == d) && Region.waitsFor md ops h.idx k.idx) &&
  (hs.all fun k => (h.idx == k.idx) == (h.slot == k.slot))
def freeOk (md : Region.Mode) (ops : Array Oper) (hs : List FO) (ts : List (Bool × Nat)) : Nat → Array Bool → Bool
  | 0, listed => (hs.all fun h => listed.getD h.idx false) && walkB md ops ts listed
  | f + 1, listed => !(Region.ready md ops listed).isEmpty && (Region.ready md ops listed).all fun i => (hs.any fun h => h.idx == i) && freeOk md ops hs ts f (listed.setIfInBounds i true)

/-- What is to be shown of each free operation. -/
def freeW (P : Program) (ops : Array Oper) (C : World → Prop) (S : Nat → Value → World → Prop) (R : World → World → Prop) (a1 : Act) : List FO → Prop
  | [] => True
  | h :: rest => (∀ o, ops[h.idx]? = some o → ∀ vs w, C w → (∀ d ∈ h.deps, S d (vs d) w) → ∀ K : Value → World → Prop, (∀ v w', S h.slot v w' → R w w' → K v w') → o.wp P (putL h.deps vs a1) w (fun a' w' => a'.defers = a1.defers ∧ K (a'.tmps.getD h.slot undef) w') noQ) ∧ freeW P ops C S R a1 rest
theorem freeW_step {a1 : Act} {h : FO} {rest : List FO} {o : Oper} (ho : ops[h.idx]? = some o)
    (h1 : ∀ vs w, C w → (∀ d ∈ h.deps, S d (vs d) w) → ∀ K : Value → World → Prop, (∀ v w', S h.slot v w' → R w w' → K v w') → o.wp P (putL h.deps vs a1) w (fun a' w' => a'.defers = a1.defers ∧ K (a'.tmps.getD h.slot undef) w') noQ)
    (h2 : freeW P ops C S R a1 rest) : freeW P ops C S R a1 (h :: rest) :=
  ⟨fun o' ho' => by cases ho.symm.trans ho'; exact h1, h2⟩
theorem freeW_mem {a1 : Act} : ∀ {hs : List FO}, freeW P ops C S R a1 hs → ∀ h ∈ hs, ∀ o, ops[h.idx]? = some o → ∀ vs w, C w → (∀ d ∈ h.deps, S d (vs d) w) → ∀ K : Value → World → Prop, (∀ v w', S h.slot v w' → R w w' → K v w') → o.wp P (putL h.deps vs a1) w (fun a' w' => a'.defers = a1.defers ∧ K (a'.tmps.getD h.slot undef) w') noQ
  | [], _, h, hm => by cases hm
  | k :: rest, hw, h, hm => by
    rcases List.mem_cons.1 hm with rfl | hm
    · exact hw.1
    · exact freeW_mem hw.2 h hm

structure FreeInv (hs : List FO) (C : World → Prop) (S : Nat → Value → World → Prop) (a1 : Act) (listed : Array Bool) (a : Act) (w : World) : Prop where
  defers : a.defers = a1.defers
  size : a.tmps.size = a1.tmps.size
  other : ∀ t, (∀ h ∈ hs, h.slot = t → listed.getD h.idx false = false) → a.tmps[t]? = a1.tmps[t]?
  spec : ∀ h ∈ hs, listed.getD h.idx false = true → S h.slot (a.tmps.getD h.slot undef) w
  cls : C w

theorem getD_of_get? {α : Type} {a b : Array α} {t : Nat} {d : α} (h : a[t]? = b[t]?) : a.getD t d = b.getD t d := by
  rw [Array.getD_eq_getD_getElem?, Array.getD_eq_getD_getElem?, h]

theorem wpC_free {Q : Act → World → Prop} {hs : List FO} {ts : List (Bool × Nat)} {a1 : Act} (hsel : Region.noSelect ops = true) (hsp : specOk md ops hs = true) (hsz : ∀ h ∈ hs, h.slot < a1.tmps.size)
    (hS : ∀ t v w w', S t v w → R w w' → S t v w') (hR : ∀ w w', C w → R w w' → C w') (hst : freeW P ops C S R a1 hs)
    (hfin : ∀ vs w, C w → (∀ h ∈ hs, S h.slot (vs h.slot) w) → walkW P ops Q ts C (putL (hs.map FO.slot) vs a1) w) :
    ∀ (f : Nat) (listed : Array Bool) (a : Act) (w : World), freeOk md ops hs ts f listed = true → FreeInv hs C S a1 listed a w → wpC P md ops C Q (f + ts.length) listed a w
  | 0, listed, a, w, hB, inv => by
    rw [Nat.zero_add]
    simp only [freeOk, Bool.and_eq_true, List.all_eq_true] at hB
    have ha : a = putL (hs.map FO.slot) (fun t => a.tmps.getD t undef) a1 := by
      obtain ⟨p1, p2⟩ := putL_size (fun t => a.tmps.getD t undef) (hs.map FO.slot) a1
      have ht : a.tmps = (putL (hs.map FO.slot) (fun t => a.tmps.getD t undef) a1).tmps := by
        apply Array.ext_getElem?
        intro t
        by_cases htl : t < a1.tmps.size
        · rw [putL_get _ t _ _ htl]
          by_cases hm : t ∈ hs.map FO.slot
          · rw [if_pos hm, Array.getElem?_eq_getElem (by rw [inv.size]; exact htl)]
            congr 1
            simp [inv.size, htl]
          · rw [if_neg hm]
            exact inv.other t (fun h hh e => absurd (List.mem_map.2 ⟨h, hh, e⟩) hm)
        · rw [Array.getElem?_eq_none (by rw [inv.size]; omega), Array.getElem?_eq_none (by rw [p1]; omega)]
      have hd : a.defers = (putL (hs.map FO.slot) (fun t => a.tmps.getD t undef) a1).defers := inv.defers.trans p2.symm
      generalize putL (hs.map FO.slot) (fun t => a.tmps.getD t undef) a1 = b at ht hd
      cases a
      cases b
      simp only at ht hd
      rw [ht, hd]
    refine wpC_walk hsel ts C listed a w hB.2 ?_
    have h := hfin (fun t => a.tmps.getD t undef) w inv.cls (fun h hh => inv.spec h hh (hB.1 h hh))
    rwa [← ha] at h
  | f + 1, listed, a, w, hB, inv => by
    simp only [freeOk, Bool.and_eq_true, List.all_eq_true, List.any_eq_true, Bool.not_eq_true', beq_iff_eq] at hB
    obtain ⟨hne, hall⟩ := hB
    rw [show f + 1 + ts.length = (f + ts.length) + 1 by omega]
    refine ⟨inv.cls, fun h0 => (by rw [h0] at hne; simp at hne), fun i hi => ?_⟩
    obtain ⟨⟨h, hh, rfl⟩, hB2⟩ := hall i hi
    have hspec := hsp
    simp only [specOk, List.all_eq_true, Bool.and_eq_true] at hspec
    obtain ⟨⟨q1, q2⟩, q3⟩ := hspec h hh
    cases ho : ops[h.idx]? with
    | none => rw [ho] at q1; cases q1
    | some o =>
      rw [ho] at q1
      simp only [Bool.and_eq_true, List.all_eq_true, Bool.or_eq_true, Bool.not_eq_true', beq_iff_eq, Option.isNone_iff_eq_none] at q1
      obtain ⟨⟨g1, g2⟩, g3⟩ := q1
      obtain ⟨hun, oj, hoj, hwait⟩ := mem_ready.1 hi
      obtain rfl : oj = o := Option.some.inj (hoj.symm.trans ho)
      -- what it reads is listed
      have hdeps : ∀ d ∈ h.deps, ∃ k ∈ hs, k.slot = d ∧ listed.getD k.idx false = true := fun d hd => by
        obtain ⟨k, hk, e⟩ := List.any_eq_true.1 (q2 d hd)
        simp only [Bool.and_eq_true, beq_iff_eq] at e
        obtain ⟨oj', hoj', e', he', hb', hon'⟩ := Region.waitsFor_spec e.2
        obtain rfl : oj' = oj := Option.some.inj (hoj'.symm.trans ho)
        have := hwait e' he' hb'
        rw [hon'] at this
        exact ⟨k, hk, e.1, this⟩
      have hev : execOp a.eval oj = execOp (putL h.deps (fun t => a.tmps.getD t undef) a1).eval oj := by
        refine execOp_congr oj (fun cs b => Region.noSelect_spec hsel h.idx oj cs b ho) (fun x hx => ?_)
        cases x with
        | tmp t =>
          show a.tmps.getD t undef = (putL h.deps (fun t => a.tmps.getD t undef) a1).tmps.getD t undef
          by_cases htl : t < a1.tmps.size
          · have e2 : (putL h.deps (fun t => a.tmps.getD t undef) a1).tmps.getD t undef = if t ∈ h.deps then a.tmps.getD t undef else a1.tmps.getD t undef := by
              rw [Array.getD_eq_getD_getElem?, putL_get _ t _ _ htl]
              by_cases hnd : t ∈ h.deps
              · rw [if_pos hnd, if_pos hnd]; rfl
              · rw [if_neg hnd, if_neg hnd, Array.getD_eq_getD_getElem?]
            rw [e2]
            by_cases hnd : t ∈ h.deps
            · rw [if_pos hnd]
            · rw [if_neg hnd]
              refine getD_of_get? (inv.other t (fun k hk e => ?_))
              rcases g3 k hk with h3 | h3
              · exfalso
                have hmem : t ∈ tmpsOf oj := List.mem_filterMap.2 ⟨.tmp t, by simpa using hx, rfl⟩
                rw [e] at h3
                have : (tmpsOf oj).contains t = true := by simpa using hmem
                rw [this] at h3
                cases h3
              · rw [e] at h3
                exact absurd (by simpa using h3) hnd
          · rw [Array.getD_eq_getD_getElem?, Array.getD_eq_getD_getElem?, Array.getElem?_eq_none (by rw [inv.size]; exact Nat.le_of_not_lt htl), Array.getElem?_eq_none (by rw [(putL_size _ _ _).1]; exact Nat.le_of_not_lt htl)]
        | _ => rfl
      have hwp := freeW_mem hst h hh oj ho (fun t => a.tmps.getD t undef) w inv.cls (fun d hd => by
        obtain ⟨k, hk, e, hl⟩ := hdeps d hd
        have := inv.spec k hk hl
        rwa [e] at this) (fun v w' => S h.slot v w' ∧ R w w') (fun v w' h1 h2 => ⟨h1, h2⟩)
      -- the next state
      have hnext : ∀ u w', (S h.slot (((putL h.deps (fun t => a.tmps.getD t undef) a1).put oj.dst u).tmps.getD h.slot undef) w' ∧ R w w') → wpC P md ops C Q (f + ts.length) (listed.setIfInBounds h.idx true) (a.put oj.dst u) w' := fun u w' ⟨e2, e3⟩ => by
        rw [g2] at e2 ⊢
        have hsl := hsz h hh
        have huv : ((putL h.deps (fun t => a.tmps.getD t undef) a1).put (some h.slot) u).tmps.getD h.slot undef = u := by
          have hb : h.slot < (putL h.deps (fun t => a.tmps.getD t undef) a1).tmps.size := by rw [(putL_size _ _ _).1]; exact hsl
          generalize putL h.deps (fun t => a.tmps.getD t undef) a1 = b at hb
          simp [Act.put, hb]
        rw [huv] at e2
        have hlt : h.idx < listed.size := by
          rcases Nat.lt_or_ge h.idx listed.size with h' | h'
          · exact h'
          · simp [Array.getElem?_eq_none h'] at hun
        have hset : ∀ j, (listed.setIfInBounds h.idx true).getD j false = if j = h.idx then true else listed.getD j false := fun j => by
          by_cases e : j = h.idx
          · subst e; simp [hlt]
          · rw [if_neg e, getD_set_ne false (fun e' => e e'.symm)]
        refine wpC_free hsel hsp hsz hS hR hst hfin f _ _ _ hB2 ⟨inv.defers, by simp [Act.put, inv.size], fun t ht => ?_, fun k hk hl => ?_, hR _ _ inv.cls e3⟩
        · have hne : h.slot ≠ t := fun e => by
            have := ht h hh e
            rw [hset, if_pos rfl] at this
            cases this
          have h1 : (a.put (some h.slot) u).tmps[t]? = a.tmps[t]? := by
            simp only [Act.put]
            exact Array.getElem?_setIfInBounds_ne hne
          rw [h1]
          refine inv.other t (fun k hk e => ?_)
          have := ht k hk e
          rw [hset] at this
          split at this
          · cases this
          · exact this
        · by_cases e : k.idx = h.idx
          · have e' : k.slot = h.slot := by
              have h1 := q3 k hk
              rw [beq_iff_eq] at h1
              have h2 : (h.idx == k.idx) = true := by simp [e]
              rw [h2] at h1
              have := h1.symm
              simp only [beq_iff_eq] at this
              exact this.symm
            rw [e']
            have : (a.put (some h.slot) u).tmps.getD h.slot undef = u := by
              simp [Act.put, inv.size, hsl]
            rw [this]
            exact e2
          · have e' : k.slot ≠ h.slot := fun e' => by
              have h1 := q3 k hk
              rw [beq_iff_eq] at h1
              have h2 : (h.slot == k.slot) = true := by simp [e']
              rw [h2] at h1
              simp only [beq_iff_eq] at h1
              exact e h1.symm
            rw [hset, if_neg e] at hl
            have h1 : (a.put (some h.slot) u).tmps.getD k.slot undef = a.tmps.getD k.slot undef := getD_of_get? (by
              simp only [Act.put]
              exact Array.getElem?_setIfInBounds_ne (fun e => e' e.symm))
            rw [h1]
            exact hS _ _ _ _ (inv.spec k hk hl) e3
      unfold wpOp
      simp only [ho]
      have hw : Region.wanted oj (yielded ops a.tmps) = true := by unfold Region.wanted; rw [g1]
      simp only [hw, if_true]
      refine .inl ?_
      unfold Oper.wp at hwp ⊢
      rw [hev]
      generalize (execOp (putL h.deps (fun t => a.tmps.getD t undef) a1).eval oj).run P w = r at *
      cases r with
      | ok n w' =>
        cases n <;> simp only [Oper.upon] at hwp ⊢
        case value u => exact hnext u w' hwp.2
        case skip => exact hnext _ w' hwp.2
        case defer d =>
          obtain ⟨e1, -⟩ := hwp
          exfalso
          have e2 := (putL_size (fun t => a.tmps.getD t undef) h.deps a1).2
          generalize putL h.deps (fun t => a.tmps.getD t undef) a1 = b at e1 e2
          have := congrArg List.length e1
          rw [g2] at this
          simp [Act.put, e2] at this
        case enter f' args =>
          refine Calls.mono hwp fun e w'' he => ?_
          cases e with
          | returned u => exact hnext u w'' he.2
          | panicked c => exact he
          | outgrown => exact he
        case row row args => exact Rows.mono hwp fun u w'' he => hnext u w'' he.2
      | halt x w' => cases x <;> simp only [Oper.upon] at hwp <;> exact hwp.elim

/-- The reads, the free operations, the rest. -/
def regionFreeOk (ops : Array Oper) (hs : List FO) (ts : List (Bool × Nat)) : List Nat → Array Bool → Bool
  | [], listed => (hs.all fun h => !listed.getD h.idx false) && freeOk .any ops hs ts hs.length listed
  | k :: rest, listed => (Region.ready .any ops listed).contains k && Region.free .any ops listed k && regionFreeOk ops hs ts rest (listed.setIfInBounds k true)
theorem wpC_reads {Q : Act → World → Prop} {hs : List FO} {ts : List (Bool × Nat)} (hsel : Region.noSelect ops = true) (hsp : specOk .any ops hs = true)
    (hS : ∀ t v w w', S t v w → R w w' → S t v w') (hR : ∀ w w', C w → R w w' → C w') (w : World) (hC : C w) : ∀ (rs : List Nat) (listed : Array Bool) (a : Act), regionFreeOk ops hs ts rs listed = true →
    headW P ops C (fun a1 => (∀ h ∈ hs, h.slot < a1.tmps.size) ∧ freeW P ops C S R a1 hs ∧ ∀ vs w, C w → (∀ h ∈ hs, S h.slot (vs h.slot) w) → walkW P ops Q ts C (putL (hs.map FO.slot) vs a1) w) rs a → wpC P .any ops C Q (rs.length + (hs.length + ts.length)) listed a w
  | [], listed, a, hB, h => by
    simp only [regionFreeOk, Bool.and_eq_true, List.all_eq_true, Bool.not_eq_true'] at hB
    obtain ⟨h1, h2, h3⟩ := h
    rw [List.length_nil, Nat.zero_add]
    exact wpC_free hsel hsp h1 hS hR h2 h3 _ _ _ _ hB.2 ⟨rfl, rfl, fun _ _ => rfl, fun k hk hl => (by rw [hB.1 k hk] at hl; cases hl), hC⟩
  | k :: rest, listed, a, hB, h => by
    simp only [regionFreeOk, Bool.and_eq_true] at hB
    obtain ⟨⟨hr, hf⟩, hB'⟩ := hB
    obtain ⟨o, v, ho, hy, h⟩ := h
    rw [List.length_cons, show rest.length + 1 + (hs.length + ts.length) = (rest.length + (hs.length + ts.length)) + 1 by omega]
    exact wpC_first ho (Region.noSelect_spec hsel) _ listed a w (Region.free_spec ho hf) (by simpa using hr) hy (wpC_reads hsel hsp hS hR w hC rest _ _ hB' h)
def regFreeOk (ops : Array Oper) (rs : List Nat) (hs : List FO) (ts : List (Bool × Nat)) : Bool := Region.noSelect ops && decide (rs.length + (hs.length + ts.length) = ops.size) && specOk .any ops hs && regionFreeOk ops hs ts rs (Array.replicate ops.size false)
theorem wp_region_free {id : Nat} {Q : Exit → Act → World → Prop} {a : Act} {w : World} {l : List Oper} (rs : List Nat) (hs : List FO) (ts : List (Bool × Nat)) (C : World → Prop) (S : Nat → Value → World → Prop) (R : World → World → Prop) (hm : P.follows .mixedOrders = true) (hB : regFreeOk l.toArray rs hs ts = true) (hC : C w.drew)
    (hS : ∀ t v w w', S t v w → R w w' → S t v w') (hR : ∀ w w', C w → R w w' → C w')
    (h : headW P l.toArray C (fun a1 => (∀ h ∈ hs, h.slot < a1.tmps.size) ∧ freeW P l.toArray C S R a1 hs ∧ ∀ vs w, C w → (∀ h ∈ hs, S h.slot (vs h.slot) w) → walkW P l.toArray (fun a w => Q .normal a w) ts C (putL (hs.map FO.slot) vs a1) w) rs a) : (Code.region id l.toArray true).wp P Q a w := by
  simp only [regFreeOk, Bool.and_eq_true, decide_eq_true_eq] at hB
  obtain ⟨⟨⟨hsel, hlen⟩, hsp⟩, hB⟩ := hB
  refine wp_region_any hm (wpAny_of_wpC (C := C) (Q := fun a w => Q .normal a w) (fun _ _ h => h) _ _ _ _ ?_)
  rw [← hlen]
  exact wpC_reads hsel hsp hS hR w.drew hC rs _ a (by rw [hlen]; exact hB) h
end
end Go.Proofs.YtplkmbfeeegaiaaGreatDoor

/-
  The reference's order of nodes, clockwise from a point.
-/
namespace Go.Proofs.YtplkmbfeeegaiaaGreatDoor
open Go.RowKit Go.Shelf

/-- Numbers in a slice of their own. -/
def OwnI (w : World) (l : List Int) (v : Value) (W : World) : Prop := Keep (fun _ => False) w W ∧ W.ownsRow w.heap.size 3 1 v l.length (l.map (fun x => Value.int .i64 x))
theorem OwnI.nil {w W : World} (k : Keep (fun _ => False) w W) : OwnI w [] (.slice none 0 0) W := ⟨k, by simpa using World.ownsRow_nil W w.heap.size 3 1⟩
theorem OwnI.keep {w W W' : World} {l : List Int} {v : Value} (h : OwnI w l v W) (k : Keep (fun _ => False) W W') : OwnI w l v W' := ⟨h.1.trans k, ownsRow_keep h.2 k (fun _ _ h => h)⟩
theorem OwnI.snoc {w W : World} {l : List Int} {v : Value} (h : OwnI w l v W) (x : Int) (hl : l.length ≤ 100000) :
    ∃ v' w', (Builtin.append_ #[22, 22] 22 #[v, .slice (some ⟨W.heap.size, 0, none⟩) 1 1]).run Tryz.prog (W.alloc (.cells #[.int .i64 x] 3)) = .ok v' w' ∧ OwnI w (l ++ [x]) v' w' ∧ Keep (fun j => v.ownBlock = some j) W w' ∧ (v'.ownBlock = v.ownBlock ∨ v'.ownBlock = some (W.heap.size + 1)) := by
  obtain ⟨v', w', r1, r2, r3, r4, g, c, r5⟩ := app_one 22 3 1 8 _ Tryz.underlying22 infoInt rfl (by decide) (by decide) W 22 w.heap.size v l.length (l.map (fun x => Value.int .i64 x)) [.int .i64 x] h.2 rfl (by simp [Value.oneCell']) (by omega) h.1.size
  refine ⟨v', w', r1, ⟨h.1.trans' r3 (fun j e => .inr (h.2.lt j e).1), ?_⟩, r3, r4⟩
  rw [List.map_append, List.length_append]
  exact r2
/-- More numbers, out of another slice of its own. -/
theorem OwnI.more {w W : World} {l l' : List Int} {v v2 : Value} (h : OwnI w l v W) (h2 : OwnI w l' v2 W) (hl : l.length + l'.length ≤ 100000) :
    ∃ v' w', (Builtin.append_ #[22, 22] 22 #[v, v2]).run Tryz.prog W = .ok v' w' ∧ OwnI w (l ++ l') v' w' ∧ Keep (fun j => v.ownBlock = some j) W w' := by
  obtain ⟨i0, hi, hz0, hz1, hz2⟩ := info_parts infoInt
  have h2' := h2
  rcases h2.2.2 with ⟨rfl, e0⟩ | ⟨g, c, cur, rfl, _⟩
  · have : l' = [] := List.eq_nil_of_length_eq_zero e0
    subst this
    exact ⟨v, W, run_append_owned_none W w.heap.size 22 22 3 i0 1 Tryz.underlying22 hi v l.length _ h.2, by rw [List.append_nil]; exact h, Keep.refl _ W⟩
  · obtain ⟨v', w', r1, r2, r3, r4, r5⟩ := run_append_own_at (P := Tryz.prog) W w.heap.size 22 22 3 i0 _ 1 8 Tryz.underlying22 hi hz0 hz1 hz2 rfl (by decide) v l.length _ h.2 ⟨g, 0, none⟩ l'.length c (l'.map (fun x => Value.int .i64 x)) (by simp)
      (fun j u hj => h2'.2.cells rfl j u hj)
      (by
        intro u hu
        obtain ⟨x, _, rfl⟩ := List.mem_map.1 hu
        rfl) (by unfold maxLen; omega) (by omega) h.1.size
    refine ⟨v', w', r1, ⟨h.1.trans' (Keep.of_grown r3) (fun j e => .inr (h.2.lt j e).1), ?_⟩, Keep.of_grown r3⟩
    rw [List.map_append, List.length_append]
    exact r2
theorem OwnI.slice {w W : World} {l : List Int} {v : Value} (h : OwnI w l v W) : ∃ a n c, v = .slice a n c ∧ n = l.length := by
  rcases h.2.2 with ⟨h1, h2⟩ | ⟨g, c, cur, h1, _⟩
  · exact ⟨_, _, _, h1, h2.symm⟩
  · exact ⟨_, _, _, h1, rfl⟩

/-- The first i points: those from p on, and those below. -/
def hiN (c : List Mk) (p : Int) (i : Nat) : List Int := ((c.take i).filter (fun x => decide (p ≤ x.point))).map Mk.node
def loN (c : List Mk) (p : Int) (i : Nat) : List Int := ((c.take i).filter (fun x => decide (x.point < p))).map Mk.node
theorem hiN_zero (c : List Mk) (p : Int) : hiN c p 0 = [] := by simp [hiN]
theorem loN_zero (c : List Mk) (p : Int) : loN c p 0 = [] := by simp [loN]
theorem hiN_succ {c : List Mk} {p : Int} {i : Nat} {x : Mk} (h : c[i]? = some x) : hiN c p (i + 1) = hiN c p i ++ (if p ≤ x.point then [x.node] else []) := by
  unfold hiN
  rw [List.take_add_one, h, List.filter_append, List.map_append]
  by_cases e : p ≤ x.point <;> simp [e]
theorem loN_succ {c : List Mk} {p : Int} {i : Nat} {x : Mk} (h : c[i]? = some x) : loN c p (i + 1) = loN c p i ++ (if x.point < p then [x.node] else []) := by
  unfold loN
  rw [List.take_add_one, h, List.filter_append, List.map_append]
  by_cases e : x.point < p <;> simp [e]
theorem hiN_len (c : List Mk) (p : Int) (i : Nat) : (hiN c p i).length ≤ c.length := by
  unfold hiN
  rw [List.length_map]
  exact Nat.le_trans (List.length_filter_le _ _) (by rw [List.length_take]; omega)
theorem loN_len (c : List Mk) (p : Int) (i : Nat) : (loN c p i).length ≤ c.length := by
  unfold loN
  rw [List.length_map]
  exact Nat.le_trans (List.length_filter_le _ _) (by rw [List.length_take]; omega)
theorem ords_hilo (l : List Mb) (p : Int) {i : Nat} (hi : (circ PN l).length ≤ i) : ords PN l p = hiN (circ PN l) p i ++ loN (circ PN l) p i := by
  unfold ords rot hiN loN
  rw [List.take_of_length_le hi, List.map_append]
theorem circ_len {l : List Mb} (hv : VL l) : (circ PN l).length ≤ 1536 := by
  have h1 := draws_len PN l hv.ok
  have h2 := hv.wsum
  have h3 := (sortMk_perm (draws PN l)).length_eq
  unfold circ
  omega

set_option maxRecDepth 100000 in
set_option maxHeartbeats 4000000 in
theorem clockwise_any (v : Value) (l : List Mb) (p : Int) (w : World) (h : Mbs w v l) (hv : VL l) : Calls Tryz.prog 77 #[v, .int .i64 p] w fun e w' => ∃ vo, e = .returned vo ∧ OwnI w (ords PN l p) vo w' := by
  have HSP := Lib.hid (spots_any v l w h hv)
  have HCL := Lib.hid (circ_len hv)
  obtain ⟨va, vn, vc, rfl⟩ : ∃ a n c, v = .slice a n c := by
    obtain ⟨a, c, b, off, h1, _⟩ := h.at_
    exact ⟨_, _, _, h1⟩
  clear h hv
  go_enter Tryz.func77, Tryz.ntmps77
  go_wp2_with fail
  with_reducible refine HSP.out.mono ?_
  rintro e W1 ⟨vs, rfl, hos⟩
  have HO := Lib.hid hos
  clear hos HSP
  obtain ⟨c, hc⟩ : ∃ c, circ PN l = c := ⟨_, rfl⟩
  have HC := Lib.hid hc
  rw [hc] at HO HCL
  clear hc
  obtain ⟨sa, sc, sb, hse, hsa⟩ : ∃ (a : Option Addr) (cc b : Nat), vs = .slice a c.length cc ∧ (0 < c.length → a = some ⟨b, 0, none⟩) := by
    rcases HO.out.form with ⟨h1, h2⟩ | ⟨b, cc, h1⟩
    · exact ⟨none, 0, 0, by rw [h1, h2]; rfl, fun h => by rw [h2] at h; simp at h⟩
    · exact ⟨_, cc, b, h1, fun _ => rfl⟩
  subst hse
  have HSA := Lib.hid hsa
  clear hsa
  obtain ⟨n, hn⟩ : ∃ n, c.length = n := ⟨_, rfl⟩
  have HN := Lib.hid hn
  rw [hn] at HSA HCL ⊢
  have hn2 : n ≤ 1536 := HCL.out
  clear hn
  go_wp2_with fail
  go_loopg [6, 7, 8] n (fun gh v6 v7 v8 wr => ∃ (i : Nat), gh + i = n ∧ v8 = .int .i64 i ∧ OwnI W1 (hiN c p i) v6 wr ∧ OwnI W1 (loN c p i) v7 wr ∧ (∀ b, v6.ownBlock = some b → v7.ownBlock ≠ some b))
  case atStart => exact ⟨0, by omega, rfl, by rw [hiN_zero]; exact OwnI.nil (Keep.refl _ _), by rw [loN_zero]; exact OwnI.nil (Keep.refl _ _), fun b hb => by cases hb⟩
  case round =>
    obtain ⟨i, hi, rfl, h1, h2, hne⟩ := hrel
    have H1 := Lib.hid h1
    have H2 := Lib.hid h2
    have HNE := Lib.hid hne
    clear h1 h2 hne
    by_cases hlt : i < n
    · obtain ⟨x, hx⟩ : ∃ x, c[i]? = some x := ⟨_, List.getElem?_eq_getElem (by rw [HN.out]; exact hlt)⟩
      obtain rfl := HSA.out (by omega)
      have hcx0 : W1.cell? ⟨sb, i * 2, none⟩ = some (.int .i64 x.point) := by
        have h3 := HO.out.2
        rw [HN.out] at h3
        rw [h3.cellAt (i * 2) (by omega)]
        exact flat_get encSp_len c i x 0 hx (by decide)
      have hcx1 : W1.cell? ⟨sb, i * 2 + 1, none⟩ = some (.int .i64 x.node) := by
        have h3 := HO.out.2
        rw [HN.out] at h3
        rw [h3.cellAt (i * 2 + 1) (by omega)]
        exact flat_get encSp_len c i x 1 hx (by decide)
      have c0 := H1.out.1.cell hcx0 (fun h => h)
      have c1 := H1.out.1.cell hcx1 (fun h => h)
      have HHS := Lib.hid (hiN_succ (p := p) hx)
      have HLS := Lib.hid (loN_succ (p := p) hx)
      have HL1 := Lib.hid (hiN_len c p i)
      have HL2 := Lib.hid (loN_len c p i)
      have hkz : (i : Int) < (n : Int) := by omega
      have hk0 : (0 : Int) ≤ (i : Int) := by omega
      clear hx hcx0 hcx1
      obtain ⟨xp, xn, xi⟩ := x
      simp only [] at c0 c1 HHS HLS
      by_cases hp : p ≤ xp
      · have HHS' : Hid (hiN c p (i + 1) = hiN c p i ++ [xn]) := Lib.hid (by rw [HHS.out, if_pos hp])
        have HLS' : Hid (loN c p (i + 1) = loN c p i) := Lib.hid (by rw [HLS.out, if_neg (by omega), List.append_nil])
        obtain ⟨v', W2, hr, how2, hk2, hob⟩ := H1.out.snoc xn (by have := HL1.out; have := HN.out; omega)
        have HR := Lib.hid hr
        have HN1 : Hid (OwnI W1 (hiN c p (i + 1)) v' W2) := Lib.hid (by rw [HHS'.out]; exact how2)
        have HN2 : Hid (OwnI W1 (loN c p (i + 1)) u7 W2) := Lib.hid (by
          rw [HLS'.out]
          exact ⟨how2.1, ownsRow_keep H2.out.2 hk2 (fun b hb e => HNE.out b e hb)⟩)
        have HNE2 : Hid (∀ b, v'.ownBlock = some b → u7.ownBlock ≠ some b) := Lib.hid (fun b hb e => by
          rcases hob with hob | hob
          · exact HNE.out b (hob ▸ hb) e
          · rw [hob] at hb
            cases hb
            have := (H2.out.2.lt _ e).2
            omega)
        clear hr how2 hk2 hob
        go_wp2_with (at_builtin; refine wpList_app rfl (.tmp 24) (.tmp 30) 22 rfl rfl rfl HR.out ?_)
        clear c0 c1
        go_roundg (gk - 1)
        case rel => exact ⟨i + 1, by omega, by go_num, HN1.out, HN2.out, HNE2.out⟩
        case measure => omega
      · have HHS' : Hid (hiN c p (i + 1) = hiN c p i) := Lib.hid (by rw [HHS.out, if_neg hp, List.append_nil])
        have HLS' : Hid (loN c p (i + 1) = loN c p i ++ [xn]) := Lib.hid (by rw [HLS.out, if_pos (by omega)])
        obtain ⟨v', W2, hr, how2, hk2, hob⟩ := H2.out.snoc xn (by have := HL2.out; have := HN.out; omega)
        have HR := Lib.hid hr
        have HN2 : Hid (OwnI W1 (loN c p (i + 1)) v' W2) := Lib.hid (by rw [HLS'.out]; exact how2)
        have HN1 : Hid (OwnI W1 (hiN c p (i + 1)) u6 W2) := Lib.hid (by
          rw [HHS'.out]
          exact ⟨how2.1, ownsRow_keep H1.out.2 hk2 (fun b hb e => HNE.out b hb e)⟩)
        have HNE2 : Hid (∀ b, u6.ownBlock = some b → v'.ownBlock ≠ some b) := Lib.hid (fun b hb e => by
          rcases hob with hob | hob
          · exact HNE.out b hb (hob ▸ e)
          · rw [hob] at e
            cases e
            have := (H1.out.2.lt _ hb).2
            omega)
        clear hr how2 hk2 hob
        go_wp2_with (at_builtin; refine wpList_app rfl (.tmp 32) (.tmp 38) 22 rfl rfl rfl HR.out ?_)
        clear c0 c1
        go_roundg (gk - 1)
        case rel => exact ⟨i + 1, by omega, by go_num, HN1.out, HN2.out, HNE2.out⟩
        case measure => omega
    · obtain rfl : i = n := by omega
      obtain ⟨v', W2, hr, how2, hk2⟩ := H1.out.more H2.out (by have := hiN_len c p i; have := loN_len c p i; have := HN.out; omega)
      have HR := Lib.hid hr
      have HE : Hid (OwnI w (ords PN l p) v' W2) := Lib.hid (by
        rw [ords_hilo l p (i := i) (by rw [HC.out, HN.out]; exact Nat.le_refl _), HC.out]
        exact ⟨HO.out.1.trans how2.1, ownsRow_lo how2.2 HO.out.1.size⟩)
      clear hr how2 hk2
      go_wp2_with (at_builtin; refine wpList_app rfl (.tmp 40) (.tmp 41) 22 rfl rfl rfl HR.out ?_)
      go_ret
      exact ⟨_, rfl, HE.out⟩
end Go.Proofs.YtplkmbfeeegaiaaGreatDoor

/-
  The reference's within, Valid, Limit, Slot, Load, Owner.
-/
namespace Go.Proofs.YtplkmbfeeegaiaaGreatDoor
open Go.RowKit Go.Shelf

set_option maxRecDepth 100000 in
theorem rwithin_b (n lo hi : Int) (b : Bool) (h : decide (lo ≤ n ∧ n ≤ hi) = b) (w : World) : Calls Tryz.prog 104 #[.int .i64 n, .int .i64 lo, .int .i64 hi] w fun e w' => e = .returned (.bool b) ∧ w = w' := by
  by_cases h1 : lo ≤ n
  · by_cases h2 : n ≤ hi
    · obtain rfl : true = b := by rw [← h, decide_eq_true ⟨h1, h2⟩]
      clear h
      go_enter Tryz.func104, Tryz.ntmps104
      go_wp2
      go_ret
      exact ⟨by simp, rfl⟩
    · obtain rfl : false = b := by rw [← h, decide_eq_false (fun e => h2 e.2)]
      clear h
      go_enter Tryz.func104, Tryz.ntmps104
      go_wp2
      go_ret
      exact ⟨by simp, rfl⟩
  · obtain rfl : false = b := by rw [← h, decide_eq_false (fun e => h1 e.1)]
    clear h
    go_enter Tryz.func104, Tryz.ntmps104
    go_wp2
    go_ret
    exact ⟨rfl, rfl⟩

/-- The first k members are in order. -/
def goodK (l : List Mb) (k : Nat) : Prop := ∀ i m, i < k → l[i]? = some m → okMb m ∧ ∀ p, 1 ≤ i → l[i - 1]? = some p → p.node < m.node
theorem goodK_all {l : List Mb} (h1 : 1 ≤ l.length) (h : goodK l l.length) : VL l := by
  refine ⟨fun m hm => ?_, ?_, fun e => by rw [e] at h1; simp at h1⟩
  · obtain ⟨i, hi⟩ := List.mem_iff_getElem?.1 hm
    exact (h i m (List.getElem?_eq_some_iff.1 hi).1 hi).1
  · rw [List.pairwise_iff_getElem]
    intro i j hi hj hij
    obtain ⟨d, rfl⟩ : ∃ d, j = i + 1 + d := ⟨j - i - 1, by omega⟩
    induction d with
    | zero =>
      have := (h (i + 1) _ hj (List.getElem?_eq_getElem hj)).2 l[i] (by omega) (by rw [Nat.add_sub_cancel]; exact List.getElem?_eq_getElem hi)
      simpa using this
    | succ d ih =>
      have h1 := ih (by omega) (by omega)
      have h2 := (h (i + 1 + (d + 1)) _ hj (List.getElem?_eq_getElem hj)).2 (l[i + 1 + d]'(by omega)) (by omega) (by rw [show i + 1 + (d + 1) - 1 = i + 1 + d by omega]; exact List.getElem?_eq_getElem (by omega))
      omega
theorem VL.good {l : List Mb} (h : VL l) (k : Nat) : goodK l k := by
  intro i m _ hm
  refine ⟨h.ok m (List.mem_of_getElem? hm), fun p h1 hp => ?_⟩
  obtain ⟨hi, rfl⟩ := List.getElem?_eq_some_iff.1 hm
  obtain ⟨hj, rfl⟩ := List.getElem?_eq_some_iff.1 hp
  exact List.pairwise_iff_getElem.1 h.asc _ _ hj hi (by omega)
theorem validL_false {l : List Mb} (h : ¬ VL l) : validL l = false := by
  cases e : validL l with
  | false => rfl
  | true => exact absurd ((validL_iff l).1 e) h

set_option maxRecDepth 100000 in
set_option maxHeartbeats 4000000 in
theorem refValid_any (v : Value) (l : List Mb) (w : World) (h : Mbs w v l) : Calls Tryz.prog 75 #[v] w fun e w' => e = .returned (.bool (validL l)) ∧ Keep (fun _ => False) w w' := by
  obtain ⟨hn, -, a, c, b, off, rfl, hc, ha, hcell⟩ := h
  have HC := Lib.hid hcell
  have HA := Lib.hid ha
  clear hcell ha
  obtain ⟨n, hn'⟩ : ∃ n, l.length = n := ⟨_, rfl⟩
  have HL := Lib.hid hn'
  rw [hn'] at hn hc ⊢
  clear hn'
  by_cases hlen : 1 ≤ (n : Int) ∧ (n : Int) ≤ 24
  · have HW : Hid (∀ W, Calls Tryz.prog 104 #[.int .i64 (n : Int), .int .i64 1, .int .i64 24] W fun e w' => e = .returned (.bool true) ∧ W = w') := Lib.hid (fun W => rwithin_b n 1 24 true (decide_eq_true hlen) W)
    go_enter Tryz.func75, Tryz.ntmps75
    go_wp2_with fail
    with_reducible refine (HW.out _).mono ?_
    rintro e w' ⟨rfl, rfl⟩
    clear HW
    go_wp2_with fail
    go_loopg [3] n (fun gh v wr => ∃ (k : Nat), gh + k = n ∧ v = .int .i64 k ∧ goodK l k ∧ Keep (fun _ => False) w wr)
    case atStart => exact ⟨0, by omega, rfl, fun i m h => absurd h (by omega), Keep.refl _ _⟩
    case round =>
      obtain ⟨k, hk, rfl, hgood, hkeep⟩ := hrel
      have HG := Lib.hid hgood
      have HK := Lib.hid hkeep
      clear hgood hkeep
      by_cases hlt : k < n
      · obtain ⟨m, hm⟩ : ∃ m, l[k]? = some m := ⟨_, List.getElem?_eq_getElem (by have := HL.out; omega)⟩
        obtain rfl := HA.out (by have := HL.out; omega)
        have c0 := HK.out.cell (HC.out k m hm).1 (fun h => h)
        have c1 := HK.out.cell (HC.out k m hm).2.1 (fun h => h)
        have c2 := HK.out.cell (HC.out k m hm).2.2 (fun h => h)
        have HM := Lib.hid hm
        have hkz : (k : Int) < (n : Int) := by omega
        have hk0 : (0 : Int) ≤ (k : Int) := by omega
        clear hm
        obtain ⟨mn, mr, mw⟩ := m
        simp only [] at c0 c1 c2
        have HK2 : Hid (Keep (fun _ => False) wr (wr.alloc (.cells #[.int .i64 mn, .int .i64 mr, .int .i64 mw] 35))) := Lib.hid ((Keep.refl _ wr).alloc _)
        have HT3 := Lib.hid (three_cell wr (.int .i64 mn) (.int .i64 mr) (.int .i64 mw) 35)
        go_wp2_with fail
        clear c0 c1 c2
        generalize wr.alloc (.cells #[.int .i64 mn, .int .i64 mr, .int .i64 mw] 35) = W2 at *
        generalize wr.heap.size = z at *
        have d0 : W2.cell? ⟨z, 0, none⟩ = some (.int .i64 mn) := HT3.out.1
        have d1 : W2.cell? ⟨z, 1, none⟩ = some (.int .i64 mr) := HT3.out.2.1
        have d2 : W2.cell? ⟨z, 2, none⟩ = some (.int .i64 mw) := HT3.out.2.2.1
        have HKK := Lib.hid (HK.out.trans HK2.out)
        by_cases h1 : 0 ≤ mn ∧ mn ≤ 23
        · have H1 : Hid (∀ W, Calls Tryz.prog 104 #[.int .i64 mn, .int .i64 0, .int .i64 23] W fun e w' => e = .returned (.bool true) ∧ W = w') := Lib.hid (fun W => rwithin_b mn 0 23 true (decide_eq_true h1) W)
          by_cases h2 : 0 ≤ mr ∧ mr ≤ 3
          · have H2 : Hid (∀ W, Calls Tryz.prog 104 #[.int .i64 mr, .int .i64 0, .int .i64 3] W fun e w' => e = .returned (.bool true) ∧ W = w') := Lib.hid (fun W => rwithin_b mr 0 3 true (decide_eq_true h2) W)
            by_cases h3 : 1 ≤ mw ∧ mw ≤ 16
            · have H3 : Hid (∀ W, Calls Tryz.prog 104 #[.int .i64 mw, .int .i64 1, .int .i64 16] W fun e w' => e = .returned (.bool true) ∧ W = w') := Lib.hid (fun W => rwithin_b mw 1 16 true (decide_eq_true h3) W)
              have HOK : Hid (okMb ⟨mn, mr, mw⟩) := Lib.hid (by unfold okMb; simp only []; omega)
              clear h1 h2 h3
              by_cases hk1 : k = 0
              · subst hk1
                have HN : Hid (goodK l (0 + 1)) := Lib.hid (fun i m hi hm => by
                  obtain rfl : i = 0 := by omega
                  rw [HM.out] at hm
                  cases hm
                  exact ⟨HOK.out, fun p h => absurd h (by omega)⟩)
                go_quiet (first | (go_at_call 104; with_reducible exact quiet_same (H1.out _)) | (go_at_call 104; with_reducible exact quiet_same (H2.out _)) | (go_at_call 104; with_reducible exact quiet_same (H3.out _)))
                go_wp2_with fail
                go_roundg (gk - 1)
                case rel => exact ⟨0 + 1, by omega, by go_num, HN.out, HKK.out.drewN _⟩
                case measure => omega
              · obtain ⟨q, rfl⟩ : ∃ q, k = q + 1 := ⟨k - 1, by omega⟩
                clear hk1
                obtain ⟨p, hp⟩ : ∃ p, l[q]? = some p := ⟨_, List.getElem?_eq_getElem (by have := HL.out; omega)⟩
                have p0 := HKK.out.cell (HC.out q p hp).1 (fun h => h)
                have hqz : (q : Int) < (n : Int) := by omega
                have hq0 : (0 : Int) ≤ (q : Int) := by omega
                have HP := Lib.hid hp
                clear hp
                obtain ⟨pn, pr, pw⟩ := p
                simp only [] at p0
                have ek : ((q + 1 : Nat) : Int) - 1 = (q : Int) := by omega
                have hgt : (0 : Int) < ((q + 1 : Nat) : Int) := by omega
                have hw1 : IntKind.i64.wrap (q : Int) = (q : Int) := wrapI (by unfold I64; omega)
                by_cases hlt2 : pn < mn
                · have HN : Hid (goodK l (q + 1 + 1)) := Lib.hid (fun i m hi hm => by
                    by_cases e : i < q + 1
                    · exact HG.out i m e hm
                    · obtain rfl : i = q + 1 := by omega
                      rw [HM.out] at hm
                      cases hm
                      refine ⟨HOK.out, fun p _ hp => ?_⟩
                      rw [Nat.add_sub_cancel, HP.out] at hp
                      cases hp
                      exact hlt2)
                  go_quiet (first | (go_at_call 104; with_reducible exact quiet_same (H1.out _)) | (go_at_call 104; with_reducible exact quiet_same (H2.out _)) | (go_at_call 104; with_reducible exact quiet_same (H3.out _)))
                  go_wp2_with fail
                  go_roundg (gk - 1)
                  case rel => exact ⟨q + 1 + 1, by omega, by go_num, HN.out, HKK.out.drewN _⟩
                  case measure => omega
                · have HF : Hid (validL l = false) := Lib.hid (validL_false (fun hv => by
                    have := (hv.good (q + 2) (q + 1) _ (by omega) HM.out).2 _ (by omega) (by rw [Nat.add_sub_cancel]; exact HP.out)
                    exact hlt2 this))
                  go_quiet (first | (go_at_call 104; with_reducible exact quiet_same (H1.out _)) | (go_at_call 104; with_reducible exact quiet_same (H2.out _)) | (go_at_call 104; with_reducible exact quiet_same (H3.out _)))
                  go_wp2_with fail
                  go_ret
                  exact ⟨by rw [HF.out] <;> rfl, HKK.out.drewN _⟩
            · have H3 : Hid (∀ W, Calls Tryz.prog 104 #[.int .i64 mw, .int .i64 1, .int .i64 16] W fun e w' => e = .returned (.bool false) ∧ W = w') := Lib.hid (fun W => rwithin_b mw 1 16 false (decide_eq_false h3) W)
              have HF : Hid (validL l = false) := Lib.hid (validL_false (fun hv => by
                have := (hv.good (k + 1) k _ (by omega) HM.out).1
                unfold okMb at this
                simp only [] at this
                omega))
              clear h1 h2 h3
              go_quiet (first | (go_at_call 104; with_reducible exact quiet_same (H1.out _)) | (go_at_call 104; with_reducible exact quiet_same (H2.out _)) | (go_at_call 104; with_reducible exact quiet_same (H3.out _)))
              go_wp2_with fail
              go_ret
              exact ⟨by rw [HF.out] <;> rfl, HKK.out.drewN _⟩
          · have H2 : Hid (∀ W, Calls Tryz.prog 104 #[.int .i64 mr, .int .i64 0, .int .i64 3] W fun e w' => e = .returned (.bool false) ∧ W = w') := Lib.hid (fun W => rwithin_b mr 0 3 false (decide_eq_false h2) W)
            have HF : Hid (validL l = false) := Lib.hid (validL_false (fun hv => by
              have := (hv.good (k + 1) k _ (by omega) HM.out).1
              unfold okMb at this
              simp only [] at this
              omega))
            clear h1 h2
            go_quiet (first | (go_at_call 104; with_reducible exact quiet_same (H1.out _)) | (go_at_call 104; with_reducible exact quiet_same (H2.out _)))
            go_wp2_with fail
            go_ret
            exact ⟨by rw [HF.out] <;> rfl, HKK.out.drewN _⟩
        · have H1 : Hid (∀ W, Calls Tryz.prog 104 #[.int .i64 mn, .int .i64 0, .int .i64 23] W fun e w' => e = .returned (.bool false) ∧ W = w') := Lib.hid (fun W => rwithin_b mn 0 23 false (decide_eq_false h1) W)
          have HF : Hid (validL l = false) := Lib.hid (validL_false (fun hv => by
            have := (hv.good (k + 1) k _ (by omega) HM.out).1
            unfold okMb at this
            simp only [] at this
            omega))
          clear h1
          go_quiet ((go_at_call 104; with_reducible exact quiet_same (H1.out _)))
          go_wp2_with fail
          go_ret
          exact ⟨by rw [HF.out] <;> rfl, HKK.out.drewN _⟩
      · obtain rfl : k = n := by omega
        have HV : Hid (validL l = true) := Lib.hid ((validL_iff l).2 (goodK_all (by have := HL.out; omega) (by rw [HL.out]; exact HG.out)))
        go_wp2_with fail
        go_ret
        exact ⟨by rw [HV.out] <;> rfl, HK.out⟩
  · have HW : Hid (∀ W, Calls Tryz.prog 104 #[.int .i64 (n : Int), .int .i64 1, .int .i64 24] W fun e w' => e = .returned (.bool false) ∧ W = w') := Lib.hid (fun W => rwithin_b n 1 24 false (decide_eq_false hlen) W)
    have HF : Hid (validL l = false) := Lib.hid (validL_false (fun hv => by
      have h1 := hv.len
      have h2 : 0 < l.length := List.length_pos_iff.2 hv.ne
      have h3 := HL.out
      omega))
    go_enter Tryz.func75, Tryz.ntmps75
    go_wp2_with fail
    with_reducible refine (HW.out _).mono ?_
    rintro e w' ⟨rfl, rfl⟩
    go_wp2_with fail
    go_ret
    exact ⟨by rw [HF.out] <;> rfl, Keep.refl _ w⟩

/-- The weight of the last one of a node. -/
def ownW (l : List Mb) (n : Int) (k : Nat) : Int := match findN ((l.take k).reverse) n with | some m => m.weight | none => 0
theorem ownW_zero (l : List Mb) (n : Int) : ownW l n 0 = 0 := by unfold ownW findN; simp
theorem ownW_succ {l : List Mb} {k : Nat} {m : Mb} (h : l[k]? = some m) (n : Int) : ownW l n (k + 1) = if m.node = n then m.weight else ownW l n k := by
  unfold ownW findN
  rw [List.take_add_one, h]
  simp only [Option.toList_some, List.reverse_append, List.reverse_cons, List.reverse_nil, List.nil_append, List.singleton_append, List.find?_cons]
  by_cases e : m.node = n <;> simp [e]
theorem ownW_nn {l : List Mb} (hv : VL l) (n : Int) (k : Nat) : 0 ≤ ownW l n k ∧ ownW l n k ≤ 16 := by
  unfold ownW
  cases h : findN (l.take k).reverse n with
  | none => simp
  | some m =>
    have hm := (findN_some h).1
    have := hv.ok m (List.mem_of_mem_take (List.mem_reverse.1 hm))
    unfold okMb at this
    simp only []
    omega
theorem limit_ownW {l : List Mb} (hv : VL l) (n : Int) {k : Nat} (hk : l.length ≤ k) : limitL l n = (80 * ownW l n k + wsum l - 1).tdiv (wsum l) := by
  have hs := hv.wsum
  have hb := ownW_nn hv n k
  rw [Int.tdiv_eq_ediv_of_nonneg (by omega)]
  unfold ownW
  rw [List.take_of_length_le hk]
  cases h : findN l.reverse n with
  | none =>
    have hnone : ∀ m ∈ l, m.node ≠ n := fun m hm e => by
      unfold findN at h
      rw [List.find?_eq_none] at h
      exact h m (List.mem_reverse.2 hm) (by simpa using e)
    rw [limitL_none hnone]
    simp only []
    rw [Int.ediv_eq_zero_of_lt (by omega) (by omega)]
  | some m =>
    obtain ⟨hm, rfl⟩ := findN_some h
    rw [limitL_mem hv (List.mem_reverse.1 hm)]

set_option maxRecDepth 100000 in
set_option maxHeartbeats 2000000 in
theorem refLimit_any (v : Value) (l : List Mb) (w : World) (h : Mbs w v l) (q : Int) : Calls Tryz.prog 76 #[v, .int .i64 q] w fun e w' => e = .returned (.int .i64 (limitL l q)) ∧ Keep (fun _ => False) w w' := by
  have HVA := Lib.hid (refValid_any v l w h)
  obtain ⟨hn, -, a, c, b, off, rfl, hc, ha, hcell⟩ := h
  have HC := Lib.hid hcell
  have HA := Lib.hid ha
  clear hcell ha
  obtain ⟨n, hn'⟩ : ∃ n, l.length = n := ⟨_, rfl⟩
  have HL := Lib.hid hn'
  rw [hn'] at hn hc HVA ⊢
  clear hn'
  by_cases hv : VL l
  · have HV := Lib.hid hv
    have hws := hv.wsum
    rw [(validL_iff l).2 hv] at HVA
    clear hv
    go_enter Tryz.func76, Tryz.ntmps76
    go_wp2_with fail
    with_reducible refine HVA.out.mono ?_
    rintro e W1 ⟨rfl, k1⟩
    have HK1 := Lib.hid k1
    clear k1 HVA
    go_wp2_with fail
    go_loopg [5, 6, 7] n (fun gh v5 v6 v wr => ∃ (k : Nat), gh + k = n ∧ v = .int .i64 k ∧ v5 = .int .i64 (wsum (l.take k)) ∧ v6 = .int .i64 (ownW l q k) ∧ Keep (fun _ => False) w wr)
    case atStart => exact ⟨0, by omega, rfl, by simp [wsum], by rw [ownW_zero], HK1.out⟩
    case round =>
      obtain ⟨k, hk, rfl, rfl, rfl, hkeep⟩ := hrel
      have HK := Lib.hid hkeep
      clear hkeep
      have hwt := wsum_take HV.out.ok k
      have hob := ownW_nn HV.out q k
      by_cases hlt : k < n
      · obtain ⟨m, hm⟩ : ∃ m, l[k]? = some m := ⟨_, List.getElem?_eq_getElem (by have := HL.out; omega)⟩
        obtain rfl := HA.out (by have := HL.out; omega)
        have c0 := HK.out.cell (HC.out k m hm).1 (fun h => h)
        have c2 := HK.out.cell (HC.out k m hm).2.2 (fun h => h)
        have HWS := Lib.hid (wsum_succ hm)
        have HOW := Lib.hid (ownW_succ hm q)
        have hok := HV.out.ok m (List.mem_of_getElem? hm)
        unfold okMb at hok
        have hkz : (k : Int) < (n : Int) := by omega
        have hk0 : (0 : Int) ≤ (k : Int) := by omega
        clear hm
        obtain ⟨mn, mr, mw⟩ := m
        simp only [] at c0 c2 hok HWS HOW
        generalize wsum (l.take k) = s0 at *
        generalize ownW l q k = o0 at *
        generalize wsum l = sall at *
        have hws1 : IntKind.i64.wrap (s0 + mw) = s0 + mw := wrapI (by unfold I64; omega)
        by_cases hq : mn = q
        · have HOW2 : Hid (ownW l q (k + 1) = mw) := Lib.hid (by rw [HOW.out, if_pos hq])
          subst hq
          go_wp2_with fail
          clear c0 c2
          go_roundg (gk - 1)
          case rel => exact ⟨k + 1, by omega, by go_num, by rw [HWS.out], by rw [HOW2.out], HK.out⟩
          case measure => omega
        · have HOW2 : Hid (ownW l q (k + 1) = o0) := Lib.hid (by rw [HOW.out, if_neg hq])
          go_wp2_with fail
          clear c0 c2
          go_roundg (gk - 1)
          case rel => exact ⟨k + 1, by omega, by go_num, by rw [HWS.out], by rw [HOW2.out], HK.out⟩
          case measure => omega
      · obtain rfl : k = n := by omega
        have HALL : Hid (wsum (l.take k) = wsum l) := Lib.hid (by rw [List.take_of_length_le (by have := HL.out; omega)])
        have HLM := Lib.hid (limit_ownW HV.out q (k := k) (by have := HL.out; omega))
        rw [HALL.out]
        clear HALL hwt
        generalize wsum l = s0 at *
        generalize ownW l q k = o0 at *
        have hx1 : IntKind.i64.wrap (80 * o0) = 80 * o0 := wrapI (by unfold I64; omega)
        have hx2 : IntKind.i64.wrap (80 * o0 + s0) = 80 * o0 + s0 := wrapI (by unfold I64; omega)
        have hx3 : IntKind.i64.wrap (80 * o0 + s0 - 1) = 80 * o0 + s0 - 1 := wrapI (by unfold I64; omega)
        have hnz : s0 ≠ 0 := by omega
        have hd : I64 ((80 * o0 + s0 - 1).tdiv s0) := by
          rw [← HLM.out]
          have := limitL_nn l q
          unfold I64; omega
        have hx4 : IntKind.i64.wrap ((80 * o0 + s0 - 1).tdiv s0) = (80 * o0 + s0 - 1).tdiv s0 := wrapI hd
        clear hd
        go_wp2_with fail
        go_ret
        exact ⟨by rw [HLM.out] <;> rfl, HK.out⟩
  · have HB : Hid (limitL l q = 0) := Lib.hid (limitL_bad hv)
    rw [validL_false hv] at HVA
    go_enter Tryz.func76, Tryz.ntmps76
    go_wp2_with fail
    with_reducible refine HVA.out.mono ?_
    rintro e W1 ⟨rfl, k1⟩
    have HK1 := Lib.hid k1
    clear k1 HVA
    go_wp2_with fail
    go_ret
    exact ⟨by rw [HB.out] <;> rfl, HK1.out⟩
end Go.Proofs.YtplkmbfeeegaiaaGreatDoor

/-
  The reference's Load, Slot, Owner, ValidRing, Same.
-/
namespace Go.Proofs.YtplkmbfeeegaiaaGreatDoor
open Go.RowKit Go.Shelf

set_option maxRecDepth 100000 in
set_option maxHeartbeats 1000000 in
theorem refLoad_any (v : Value) (ep : Int) (l : List Mb) (ow : List Int) (w : World) (h : Rng w v ep l ow) (q : Int) : Calls Tryz.prog 105 #[v, .int .i64 q] w fun e w' => e = .returned (.int .i64 (cnt ow q)) ∧ Keep (fun _ => False) w w' := by
  obtain ⟨-, vm, vo, rfl, -, hi⟩ := h
  obtain ⟨hn, -, a, c, b, off, rfl, hc, ha, hcell⟩ := hi
  have HC := Lib.hid hcell
  have HA := Lib.hid ha
  clear hcell ha
  obtain ⟨n, hn'⟩ : ∃ n, ow.length = n := ⟨_, rfl⟩
  have HL := Lib.hid hn'
  rw [hn'] at hn hc ⊢
  clear hn'
  have HK0 : Hid (Keep (fun _ => False) w (w.alloc (.cells #[.int .i64 ep, vm, .slice a n c] 27))) := Lib.hid ((Keep.refl _ w).alloc _)
  have HT3 := Lib.hid (three_cell w (.int .i64 ep) vm (.slice a n c) 27)
  go_enter Tryz.func105, Tryz.ntmps105
  go_wp2_with fail
  generalize w.alloc (.cells #[.int .i64 ep, vm, .slice a n c] 27) = W0 at *
  generalize w.heap.size = z at *
  have d2 : W0.cell? ⟨z, 2, none⟩ = some (.slice a n c) := HT3.out.2.2.1
  go_loopg [5, 6] n (fun gh v5 v wr => ∃ k : Nat, gh + k = n ∧ v = .int .i64 k ∧ v5 = .int .i64 (cnt (ow.take k) q) ∧ wr = W0)
  case atStart => exact ⟨0, by omega, rfl, by simp [cnt], rfl⟩
  case round =>
    obtain ⟨k, hk, rfl, rfl, rfl⟩ := hrel
    by_cases hlt : k < n
    · obtain ⟨x, hx⟩ : ∃ x, ow[k]? = some x := ⟨_, List.getElem?_eq_getElem (by have := HL.out; omega)⟩
      obtain rfl := HA.out (by have := HL.out; omega)
      have c1 := HK0.out.cell (HC.out k x hx) (fun h => h)
      have HS := Lib.hid (cnt_take_succ hx q)
      have hb0 := cnt_nn (ow.take k) q
      have hb1 : cnt (ow.take k) q ≤ k := by
        unfold cnt
        have := List.count_le_length (a := q) (l := ow.take k)
        rw [List.length_take] at this
        omega
      have hkz : (k : Int) < (n : Int) := by omega
      have hk0 : (0 : Int) ≤ (k : Int) := by omega
      clear hx
      generalize cnt (ow.take k) q = s0 at *
      by_cases hxq : x = q
      · subst hxq
        have hbe : (x == x) = true := by simp
        go_wp2_with fail
        go_roundg (gk - 1)
        case rel => exact ⟨k + 1, by omega, by go_num, by rw [HS.out]; simp, rfl⟩
        case measure => omega
      · have hbe : (x == q) = false := by simpa using hxq
        have HN := Lib.hid hxq
        clear hxq
        go_wp2_with fail
        go_roundg (gk - 1)
        case rel => exact ⟨k + 1, by omega, by go_num, by rw [HS.out, if_neg (fun e => HN.out e.symm), Int.add_zero], rfl⟩
        case measure => omega
    · have HE : Hid (cnt (ow.take k) q = cnt ow q) := Lib.hid (by rw [List.take_of_length_le (by have := HL.out; omega)])
      rw [HE.out]
      go_wp2_with fail
      go_ret
      exact ⟨rfl, HK0.out⟩

set_option maxRecDepth 100000 in
theorem refSlot_any (s : ByteArray) (hs : s.size ≤ 1000000) (w : World) : Calls Tryz.prog 140 #[.string s] w fun e w' => e = .returned (.int .i64 (slotOf s : Nat)) ∧ w = w' := by
  have HS := Lib.hid (refPoint_any s hs w)
  have hl := pt_lt s
  have HZ : Hid ((slotOf s : Int) = (pt s : Int) % 64) := Lib.hid (by unfold slotOf; omega)
  generalize slotOf s = z at *
  generalize pt s = p at *
  go_enter Tryz.func140, Tryz.ntmps140
  go_wp2_with fail
  with_reducible refine HS.out.mono ?_
  rintro e w' ⟨rfl, rfl⟩
  go_wp2_with fail
  go_ret
  exact ⟨by rw [HZ.out] <;> rfl, rfl⟩
set_option maxRecDepth 100000 in
set_option maxHeartbeats 1000000 in
theorem refOwner_any (v : Value) (ep : Int) (l : List Mb) (ow : List Int) (w : World) (h : Rng w v ep l ow) (key : ByteArray) (hk : key.size ≤ 1000000) : Calls Tryz.prog 120 #[v, .string key] w fun e w' => e = .returned (.int .i64 (ownerOf ow key)) ∧ Keep (fun _ => False) w w' := by
  obtain ⟨-, vm, vo, rfl, -, hi⟩ := h
  obtain ⟨hn, -, a, c, b, off, rfl, hc, ha, hcell⟩ := hi
  have HC := Lib.hid hcell
  have HA := Lib.hid ha
  have HK0 : Hid (Keep (fun _ => False) w (w.alloc (.cells #[.int .i64 ep, vm, .slice a ow.length c] 27))) := Lib.hid ((Keep.refl _ w).alloc _)
  have HT3 := Lib.hid (three_cell w (.int .i64 ep) vm (.slice a ow.length c) 27)
  have HS : Hid (∀ W, Calls Tryz.prog 140 #[.string key] W fun e w' => e = .returned (.int .i64 (slotOf key : Nat)) ∧ W = w') := Lib.hid (fun W => refSlot_any key hk W)
  have hsl := slotOf_lt key
  clear hcell ha
  by_cases h64 : ow.length = 64
  · have HO : Hid (ownerOf ow key = ow.getD (slotOf key) 0) := Lib.hid (by unfold ownerOf; rw [if_pos h64])
    obtain ⟨x, hx⟩ : ∃ x, ow[slotOf key]? = some x := ⟨_, List.getElem?_eq_getElem (by omega)⟩
    have HX : Hid (ownerOf ow key = x) := Lib.hid (by rw [HO.out, List.getD_eq_getElem?_getD, hx]; rfl)
    obtain rfl := HA.out (by omega)
    have HCX := Lib.hid (HC.out _ x hx)
    rw [h64] at hn hc HK0 HT3 ⊢
    clear hx h64
    generalize slotOf key = sl at *
    go_enter Tryz.func120, Tryz.ntmps120
    go_wp2_with fail
    generalize w.alloc (.cells #[.int .i64 ep, vm, .slice (some ⟨b, off, none⟩) 64 c] 27) = W0 at *
    generalize w.heap.size = z at *
    have d2 : W0.cell? ⟨z, 2, none⟩ = some (.slice (some ⟨b, off, none⟩) 64 c) := HT3.out.2.2.1
    have dx : W0.cell? ⟨b, off + sl, none⟩ = some (.int .i64 x) := HK0.out.cell HCX.out (fun h => h)
    have hs0 : (0 : Int) ≤ (sl : Int) := by omega
    have hs1 : (sl : Int) < 64 := by omega
    go_quiet ((go_at_call 140; exact quiet_same (HS.out _)))
    go_wp2_with fail
    go_ret
    exact ⟨by rw [HX.out] <;> rfl, HK0.out.drewN _⟩
  · have HO : Hid (ownerOf ow key = -1) := Lib.hid (by unfold ownerOf; rw [if_neg h64])
    obtain ⟨n, hn'⟩ : ∃ n, ow.length = n := ⟨_, rfl⟩
    rw [hn'] at hn hc h64 HK0 ⊢
    have hne : ((n : Int) != 64) = true := by simp; omega
    clear hn' h64 HT3
    go_enter Tryz.func120, Tryz.ntmps120
    go_wp2_with fail
    go_ret
    exact ⟨by rw [HO.out] <;> rfl, HK0.out⟩

set_option maxRecDepth 100000 in
set_option maxHeartbeats 4000000 in
theorem refSame_any (va vb : Value) (ep ep' : Int) (l l' : List Mb) (ow ow' : List Int) (w : World) (ha : Rng w va ep l ow) (hb : Rng w vb ep' l' ow') : Calls Tryz.prog 24 #[va, vb] w fun e w' => e = .returned (.bool (decide (ep = ep') && (decide (l = l') && decide (ow = ow')))) ∧ Keep (fun _ => False) w w' := by
  obtain ⟨-, vm, vo, rfl, hm, ho⟩ := ha
  obtain ⟨-, vm', vo', rfl, hm', ho'⟩ := hb
  obtain ⟨oa, on, oc, rfl⟩ : ∃ a n c, vo = .slice a n c := by
    obtain ⟨a', c', b', off', h2, _⟩ := ho.at_
    exact ⟨_, _, _, h2⟩
  obtain ⟨oa', on', oc', rfl⟩ : ∃ a n c, vo' = .slice a n c := by
    obtain ⟨a', c', b', off', h2, _⟩ := ho'.at_
    exact ⟨_, _, _, h2⟩
  have HEI : Hid (∀ W, Keep (fun _ => False) w W → Calls Tryz.prog 26 #[.slice oa on oc, .slice oa' on' oc'] W fun e w' => e = .returned (.bool (decide (ow = ow'))) ∧ Keep (fun _ => False) W w') := Lib.hid (fun W k => sameInts_any _ _ ow ow' W (ho.kept k) (ho'.kept k))
  clear ho ho'
  obtain ⟨hn1, -, ma, mc, b, off, rfl, hc, ha, hcell⟩ := hm
  obtain ⟨hn2, -, ma', mc', b', off', rfl, hc', ha', hcell'⟩ := hm'
  have HCA := Lib.hid hcell
  have HCB := Lib.hid hcell'
  have HAA := Lib.hid ha
  have HAB := Lib.hid ha'
  clear hcell hcell' ha ha'
  obtain ⟨mn, hmn⟩ : ∃ n, l.length = n := ⟨_, rfl⟩
  obtain ⟨mn', hmn'⟩ : ∃ n, l'.length = n := ⟨_, rfl⟩
  have HLA := Lib.hid hmn
  have HLB := Lib.hid hmn'
  rw [hmn] at hn1 hc ⊢
  rw [hmn'] at hn2 hc' ⊢
  clear hmn hmn'
  have t1 := three_cell w (.int .i64 ep) (.slice ma mn mc) (.slice oa on oc) 27
  have t2 := three_cell (w.alloc (.cells #[.int .i64 ep, .slice ma mn mc, .slice oa on oc] 27)) (.int .i64 ep') (.slice ma' mn' mc') (.slice oa' on' oc') 27
  have k1 : Keep (fun _ => False) w (w.alloc (.cells #[.int .i64 ep, .slice ma mn mc, .slice oa on oc] 27)) := (Keep.refl _ w).alloc _
  have k2 : Keep (fun _ => False) (w.alloc (.cells #[.int .i64 ep, .slice ma mn mc, .slice oa on oc] 27)) ((w.alloc (.cells #[.int .i64 ep, .slice ma mn mc, .slice oa on oc] 27)).alloc (.cells #[.int .i64 ep', .slice ma' mn' mc', .slice oa' on' oc'] 27)) := (Keep.refl _ _).alloc _
  have HX := Lib.hid (And.intro (k2.cell t1.1 (fun h => h)) (And.intro (k2.cell t1.2.1 (fun h => h)) (k2.cell t1.2.2.1 (fun h => h))))
  rw [World.size_alloc] at t2
  have HY := Lib.hid t2
  have HK := Lib.hid (k1.trans k2)
  clear t1 t2 k1 k2
  go_enter Tryz.func24, Tryz.ntmps24
  by_cases he : ep = ep'
  · have hbe : (ep != ep') = false := by simpa using he
    have HE := Lib.hid (decide_eq_true he)
    clear he
    by_cases hl : mn = mn'
    · subst hl
      have hble : ((mn : Int) != (mn : Int)) = false := by simp
      go_wp2_with fail
      generalize (w.alloc (.cells #[.int .i64 ep, .slice ma mn mc, .slice oa on oc] 27)).alloc (.cells #[.int .i64 ep', .slice ma' mn mc', .slice oa' on' oc'] 27) = W1 at *
      generalize w.heap.size = z at *
      with_reducible refine (HEI.out _ HK.out).mono ?_
      rintro e W2 ⟨rfl, k2⟩
      have HK2 := Lib.hid (HK.out.trans k2)
      have x1 := k2.cell HX.out.2.1 (fun h => h)
      have y1 := k2.cell HY.out.2.1 (fun h => h)
      clear k2
      cases ho : decide (ow = ow') with
      | true =>
        have HO := Lib.hid ho
        clear ho
        go_wp2_with fail
        go_loopg [5] (mn) (fun gh i wr => ∃ (k m : Nat), gh + k = mn ∧ i = .int .i64 k ∧ wr = W2.drewN m ∧ Hid (l.take k = l'.take k))
        case atStart => exact ⟨0, 0, Nat.add_zero _, rfl, rfl, rfl⟩
        case round =>
          obtain ⟨k, m, hk, rfl, rfl, HE2⟩ := hrel
          by_cases hlt : k < mn
          · have hkx : k < l.length := by rw [HLA.out]; exact hlt
            have hky : k < l'.length := by rw [HLB.out]; exact hlt
            obtain rfl := HAA.out (by omega)
            obtain rfl := HAB.out (by omega)
            have t1 : l.take (k + 1) = l.take k ++ [l[k]] := by rw [List.take_add_one, List.getElem?_eq_getElem hkx]; rfl
            have t2 : l'.take (k + 1) = l'.take k ++ [l'[k]] := by rw [List.take_add_one, List.getElem?_eq_getElem hky]; rfl
            have hb0 : (0 : Int) ≤ (k : Int) := by omega
            have hb1 : (k : Int) < (mn : Int) := by omega
            obtain ⟨qa0, qa1, qa2⟩ := HCA.out k _ (List.getElem?_eq_getElem hkx)
            obtain ⟨qb0, qb1, qb2⟩ := HCB.out k _ (List.getElem?_eq_getElem hky)
            have ca0 := HK2.out.cell qa0 (fun h => h)
            have ca1 := HK2.out.cell qa1 (fun h => h)
            have ca2 := HK2.out.cell qa2 (fun h => h)
            have cb0 := HK2.out.cell qb0 (fun h => h)
            have cb1 := HK2.out.cell qb1 (fun h => h)
            have cb2 := HK2.out.cell qb2 (fun h => h)
            clear qa0 qa1 qa2 qb0 qb1 qb2
            have hgd : Tryz.prog.eqGuardType Tryz.prog.depth 35 = false := by kernel_rfl
            -- the elements
            by_cases hst : l[k] = l'[k]
            · have HT : Hid (l.take (k + 1) = l'.take (k + 1)) := by
                show _ = _
                rw [t1, t2, HE2.out, hst]
              rw [← hst] at cb0 cb1 cb2
              clear t1 t2 hst
              generalize l[k] = x at *
              clear hkx hky
              obtain ⟨m0, m1, m2⟩ := x
              simp only [] at ca0 ca1 ca2 cb0 cb1 cb2
              go_wp2_with fail
              go_quiet (fail)
              go_wp2_with fail
              go_roundg (gk - 1)
              case rel => exact ⟨k + 1, _, by omega, by go_num, by first | rfl | exact World.drewN_drewN _ _ _, HT⟩
              case measure => omega
            · have HT : Hid (decide (l = l') = false) := Lib.hid (by
                rw [decide_eq_false_iff_not]
                intro e
                subst e
                exact hst rfl)
              generalize l[k] = x at *
              generalize l'[k] = y at *
              obtain ⟨m0, m1, m2⟩ := x
              obtain ⟨n0, n1, n2⟩ := y
              simp only [] at ca0 ca1 ca2 cb0 cb1 cb2
              have hst' : ¬ (m0 = n0 ∧ m1 = n1 ∧ m2 = n2) := fun ⟨a, b, c⟩ => hst (by rw [a, b, c])
              clear hkx hky t1 t2 hst
              by_cases q1 : m0 = n0
              · by_cases q2 : m1 = n1
                · have q3 : ¬ m2 = n2 := fun h => hst' ⟨q1, q2, h⟩
                  clear hst'
                  go_wp2_with fail
                  go_quiet (fail)
                  go_wp2_with fail
                  go_ret
                  exact ⟨by rw [HE.out, HT.out] <;> rfl, (HK2.out.drewN _).drewN _⟩
                · clear hst'
                  go_wp2_with fail
                  go_quiet (fail)
                  go_wp2_with fail
                  go_ret
                  exact ⟨by rw [HE.out, HT.out] <;> rfl, (HK2.out.drewN _).drewN _⟩
              · clear hst'
                go_wp2_with fail
                go_quiet (fail)
                go_wp2_with fail
                go_ret
                exact ⟨by rw [HE.out, HT.out] <;> rfl, (HK2.out.drewN _).drewN _⟩
          · have HT : Hid (decide (l = l') = true) := by
              show _ = _
              rw [decide_eq_true_eq]
              have h1 := HE2.out
              rw [List.take_of_length_le (by have := HLA.out; omega), List.take_of_length_le (by have := HLB.out; omega)] at h1
              exact h1
            go_wp2_with fail
            go_ret
            exact ⟨by rw [HE.out, HT.out, HO.out] <;> rfl, HK2.out.drewN _⟩
      | false =>
        have HO := Lib.hid ho
        clear ho
        go_wp2_with fail
        go_ret
        exact ⟨by rw [HO.out, Bool.and_false, Bool.and_false] <;> rfl, HK2.out⟩
    · have hble : ((mn : Int) != (mn' : Int)) = true := by simp; omega
      have HT : Hid (decide (l = l') = false) := Lib.hid (by
        rw [decide_eq_false_iff_not]
        intro e
        subst e
        have := HLA.out
        have := HLB.out
        omega)
      clear hl
      go_wp2_with fail
      go_ret
      exact ⟨by rw [HT.out, Bool.false_and, Bool.and_false] <;> rfl, HK.out⟩
  · have hbe : (ep != ep') = true := by simpa using he
    have HE := Lib.hid (decide_eq_false he)
    clear he
    go_wp2_with fail
    go_ret
    exact ⟨by rw [HE.out] <;> rfl, HK.out⟩

set_option maxRecDepth 100000 in
set_option maxHeartbeats 4000000 in
theorem refValidRing_any (v : Value) (ep : Int) (l : List Mb) (ow : List Int) (w : World) (h : Rng w v ep l ow) : Calls Tryz.prog 66 #[v] w fun e w' => e = .returned (.bool (validRB ep l ow)) ∧ Keep (fun _ => False) w w' := by
  have HR := Lib.hid h
  obtain ⟨-, vm, vo, rfl, hmb, hi⟩ := h
  have HLI : Hid (∀ W q, Keep (fun _ => False) w W → Calls Tryz.prog 76 #[vm, .int .i64 q] W fun e w' => e = .returned (.int .i64 (limitL l q)) ∧ Keep (fun _ => False) W w') := Lib.hid (fun W q k => refLimit_any vm l W (hmb.kept k) q)
  have HVA : Hid (∀ W, Keep (fun _ => False) w W → Calls Tryz.prog 75 #[vm] W fun e w' => e = .returned (.bool (validL l)) ∧ Keep (fun _ => False) W w') := Lib.hid (fun W k => refValid_any vm l W (hmb.kept k))
  have hform : ∃ ma mn mc, vm = .slice ma mn mc := by
    obtain ⟨a, c, b, off, h1, _⟩ := hmb.at_
    exact ⟨_, _, _, h1⟩
  obtain ⟨ma, mn, mc, rfl⟩ := hform
  obtain ⟨hn, hbd, a, c, b, off, rfl, hc, ha, hcell⟩ := hi
  have HC := Lib.hid hcell
  have HA := Lib.hid ha
  clear hcell ha hmb hbd
  obtain ⟨n, hn'⟩ : ∃ n, ow.length = n := ⟨_, rfl⟩
  have HL := Lib.hid hn'
  rw [hn'] at hn hc HR ⊢
  clear hn'
  have HLD : Hid (∀ W q, Keep (fun _ => False) w W → Calls Tryz.prog 105 #[.agg #[.int .i64 ep, .slice ma mn mc, .slice a n c], .int .i64 q] W fun e w' => e = .returned (.int .i64 (cnt ow q)) ∧ Keep (fun _ => False) W w') := Lib.hid (fun W q k => refLoad_any _ ep l ow W (HR.out.kept k) q)
  clear HR
  have HK0 : Hid (Keep (fun _ => False) w (w.alloc (.cells #[.int .i64 ep, .slice ma mn mc, .slice a n c] 27))) := Lib.hid ((Keep.refl _ w).alloc _)
  have HT3 := Lib.hid (three_cell w (.int .i64 ep) (.slice ma mn mc) (.slice a n c) 27)
  go_enter Tryz.func66, Tryz.ntmps66
  by_cases hep : 1 ≤ ep ∧ ep ≤ 1000000
  · have HE := Lib.hid (decide_eq_true hep)
    go_wp2_with fail
    generalize w.alloc (.cells #[.int .i64 ep, .slice ma mn mc, .slice a n c] 27) = W0 at *
    generalize w.heap.size = z at *
    with_reducible refine (rwithin_b ep 1 1000000 true HE.out _).mono ?_
    rintro e w' ⟨rfl, rfl⟩
    have d1 : W0.cell? ⟨z, 1, none⟩ = some (.slice ma mn mc) := HT3.out.2.1
    have d2 : W0.cell? ⟨z, 2, none⟩ = some (.slice a n c) := HT3.out.2.2.1
    go_wp2_with fail
    clear d1 d2
    with_reducible refine (HVA.out _ HK0.out).mono ?_
    rintro e W1 ⟨rfl, k1⟩
    have HK1 := Lib.hid (HK0.out.trans k1)
    have HZ0 := Lib.hid (k1.cell HT3.out.1 (fun h => h))
    have HZ1 := Lib.hid (k1.cell HT3.out.2.1 (fun h => h))
    have HZ2 := Lib.hid (k1.cell HT3.out.2.2.1 (fun h => h))
    clear k1
    by_cases hv : VL l
    · have HV := Lib.hid ((validL_iff l).2 hv)
      rw [HV.out]
      have d2 := HZ2.out
      by_cases h64 : n = 64
      · subst h64
        go_wp2_with fail
        clear d2
        go_loopg [3] 64 (fun gh v wr => ∃ k : Nat, gh + k = 64 ∧ v = .int .i64 k ∧ (∀ x ∈ ow.take k, cnt ow x ≤ limitL l x) ∧ Keep (fun _ => False) W1 wr)
        case atStart => exact ⟨0, by omega, rfl, by simp, Keep.refl _ _⟩
        case round =>
          obtain ⟨k, hk, rfl, hall, hkeep⟩ := hrel
          have HALL := Lib.hid hall
          have HK := Lib.hid hkeep
          clear hall hkeep
          have d2 := HK.out.cell HZ2.out (fun h => h)
          by_cases hlt : k < 64
          · obtain ⟨x, hx⟩ : ∃ x, ow[k]? = some x := ⟨_, List.getElem?_eq_getElem (by have := HL.out; omega)⟩
            obtain rfl := HA.out (by have := HL.out; omega)
            have HCX := Lib.hid (HC.out k x hx)
            have HX := Lib.hid hx
            clear hx
            have hkz : (k : Int) < 64 := by omega
            have hk0 : (0 : Int) ≤ (k : Int) := by omega
            have HLDx : Hid (∀ W, Keep (fun _ => False) w W → Calls Tryz.prog 105 #[.agg #[.int .i64 ep, .slice ma mn mc, .slice (some ⟨b, off, none⟩) 64 c], .int .i64 x] W fun e w' => e = .returned (.int .i64 (cnt ow x)) ∧ Keep (fun _ => False) W w') := Lib.hid (fun W k => HLD.out W x k)
            have HLIx : Hid (∀ W, Keep (fun _ => False) w W → Calls Tryz.prog 76 #[.slice ma mn mc, .int .i64 x] W fun e w' => e = .returned (.int .i64 (limitL l x)) ∧ Keep (fun _ => False) W w') := Lib.hid (fun W k => HLI.out W x k)
            have z0 : ∀ p : KW wr, p.val.cell? ⟨z, 0, none⟩ = some (.int .i64 ep) := fun p => p.k.cell (HK.out.cell HZ0.out (fun h => h)) (fun h => h)
            have z1 : ∀ p : KW wr, p.val.cell? ⟨z, 1, none⟩ = some (.slice ma mn mc) := fun p => p.k.cell (HK.out.cell HZ1.out (fun h => h)) (fun h => h)
            have z2 : ∀ p : KW wr, p.val.cell? ⟨z, 2, none⟩ = some (.slice (some ⟨b, off, none⟩) 64 c) := fun p => p.k.cell (HK.out.cell HZ2.out (fun h => h)) (fun h => h)
            have zx : ∀ p : KW wr, p.val.cell? ⟨b, off + k, none⟩ = some (.int .i64 x) := fun p => p.k.cell ((HK1.out.trans HK.out).cell HCX.out (fun h => h)) (fun h => h)
            by_cases hle : cnt ow x ≤ limitL l x
            · have HN : Hid (∀ y ∈ ow.take (k + 1), cnt ow y ≤ limitL l y) := Lib.hid (fun y hy => by
                rw [List.take_add_one, HX.out] at hy
                rcases List.mem_append.1 hy with hy | hy
                · exact HALL.out y hy
                · simp at hy; subst hy; exact hle)
              generalize cnt ow x = cx at *
              generalize limitL l x = lx at *
              have hng : ¬ (lx < cx) := by omega
              go_wp2_with fail
              clear d2
              refine wp_region_quiet_kept (by kernel_rfl) (by kernel_rfl) ?_
              repeat (quiet_step (first | (go_at_call 105; refine Calls.kept_of (HLDx.out _ ((HK1.out.trans HK.out).trans (KW.k _)))) | (go_at_call 76; refine Calls.kept_of (HLIx.out _ ((HK1.out.trans HK.out).trans (KW.k _))))))
              refine wpQuiet_nil ?_
              rintro _ ⟨p, rfl⟩
              have HP := Lib.hid (HK.out.trans p.k)
              clear z0 z1 z2 zx
              generalize p.val = W2 at *
              go_wp2_with fail
              go_roundg (gk - 1)
              case rel => exact ⟨k + 1, by omega, by go_num, HN.out, HP.out⟩
              case measure => omega
            · have HB : Hid (validRB ep l ow = false) := Lib.hid (by
                cases e : validRB ep l ow with
                | false => rfl
                | true =>
                  have := ((validRB_iff ep l ow).1 e).2.2.2.2 x
                  exact absurd this hle)
              generalize cnt ow x = cx at *
              generalize limitL l x = lx at *
              have hng : lx < cx := by omega
              go_wp2_with fail
              clear d2
              refine wp_region_quiet_kept (by kernel_rfl) (by kernel_rfl) ?_
              repeat (quiet_step (first | (go_at_call 105; refine Calls.kept_of (HLDx.out _ ((HK1.out.trans HK.out).trans (KW.k _)))) | (go_at_call 76; refine Calls.kept_of (HLIx.out _ ((HK1.out.trans HK.out).trans (KW.k _))))))
              refine wpQuiet_nil ?_
              rintro _ ⟨p, rfl⟩
              have HP := Lib.hid (HK1.out.trans (HK.out.trans p.k))
              clear z0 z1 z2 zx
              generalize p.val = W2 at *
              go_wp2_with fail
              go_ret
              exact ⟨by rw [HB.out] <;> rfl, HP.out⟩
          · obtain rfl : k = 64 := by omega
            have HB : Hid (validRB ep l ow = true) := Lib.hid (by
              have h1 := HALL.out
              rw [List.take_of_length_le (by have := HL.out; omega)] at h1
              unfold validRB
              rw [HE.out, HV.out, HL.out]
              simp only [decide_true, Bool.and_true, List.all_eq_true]
              exact fun y hy => decide_eq_true (h1 y hy))
            go_wp2_with fail
            go_ret
            exact ⟨by rw [HB.out] <;> rfl, HK1.out.trans HK.out⟩
      · have hne : ((n : Int) != 64) = true := by simp; omega
        have HB : Hid (validRB ep l ow = false) := Lib.hid (by unfold validRB; rw [HL.out, decide_eq_false h64]; simp)
        clear h64
        go_wp2_with fail
        go_ret
        exact ⟨by rw [HB.out] <;> rfl, HK1.out⟩
    · have HV := Lib.hid (validL_false hv)
      have HB : Hid (validRB ep l ow = false) := Lib.hid (by unfold validRB; rw [HV.out]; simp)
      rw [HV.out]
      go_wp2_with fail
      go_ret
      exact ⟨by rw [HB.out] <;> rfl, HK1.out⟩
  · have HE := Lib.hid (decide_eq_false hep)
    have HB : Hid (validRB ep l ow = false) := Lib.hid (by unfold validRB; rw [HE.out]; simp)
    go_wp2_with fail
    generalize w.alloc (.cells #[.int .i64 ep, .slice ma mn mc, .slice a n c] 27) = W0 at *
    with_reducible refine (rwithin_b ep 1 1000000 false HE.out _).mono ?_
    rintro e w' ⟨rfl, rfl⟩
    go_wp2_with fail
    go_ret
    exact ⟨by rw [HB.out] <;> rfl, HK0.out⟩
end Go.Proofs.YtplkmbfeeegaiaaGreatDoor

/-
  The reference's Assign.
-/
namespace Go.Proofs.YtplkmbfeeegaiaaGreatDoor
open Go.RowKit Go.Shelf

theorem slotT_ref' (s : Nat) : (⟨#[115, 108, 111, 116, 32]⟩ : ByteArray) ++ dig s = slotT s := by
  apply Go.WideShapes.bytes_inj
  simp [slotT, txt, addT]
/-- How many slots each node has, in an array. -/
def loadsL (ow : List Int) : List Int := (List.range 24).map (fun n : Nat => cnt ow n)
theorem loadsL_len (ow : List Int) : (loadsL ow).length = 24 := by simp [loadsL]
theorem loadsL_get {ow : List Int} {n : Nat} (hn : n < 24) : (loadsL ow)[n]? = some (cnt ow n) := by
  unfold loadsL
  rw [List.getElem?_map, List.getElem?_range hn]
  rfl
theorem loadsL_nil : loadsL [] = List.replicate 24 0 := by decide
theorem loadsL_snoc {ow : List Int} {n : Nat} (hn : n < 24) : loadsL (ow ++ [(n : Int)]) = (loadsL ow).set n (cnt ow n + 1) := by
  apply List.ext_getElem?
  intro i
  by_cases hi : i < 24
  · rw [loadsL_get hi, cnt_snoc]
    by_cases e : n = i
    · subst e
      rw [List.getElem?_set_self (by rw [loadsL_len]; exact hn), if_pos rfl]
    · rw [List.getElem?_set_ne e, loadsL_get hi, if_neg (by omega), Int.add_zero]
  · rw [List.getElem?_eq_none (by rw [loadsL_len]; omega), List.getElem?_eq_none (by rw [List.length_set, loadsL_len]; omega)]
theorem asg_succ (l : List Mb) (s : Nat) : asg PN QS l (s + 1) = stepA (ords PN l (QS s)) (asg PN QS l s) := rfl

set_option maxRecDepth 100000 in
set_option maxHeartbeats 8000000 in
theorem refAssign_ok (v : Value) (l : List Mb) (w : World) (h : Mbs w v l) (hv : VL l) : Calls Tryz.prog 114 #[v] w (AsgPost l w) := by
  have HVA := Lib.hid (refValid_any v l w h)
  rw [(validL_iff l).2 hv] at HVA
  have HM := Lib.hid h
  have HV := Lib.hid hv
  have HCL := Lib.hid (circ_len hv)
  have HCS : Hid ((circ PN l).Pairwise ltMk) := Lib.hid (circ_sorted PN hv.asc)
  obtain ⟨va, vn, vc, rfl⟩ : ∃ a n c, v = .slice a n c := by
    obtain ⟨a, c, b, off, h1, _⟩ := h.at_
    exact ⟨_, _, _, h1⟩
  clear h hv
  go_enter Tryz.func114, Tryz.ntmps114
  go_wp2_with fail
  with_reducible refine HVA.out.mono ?_
  rintro e W1 ⟨rfl, k1⟩
  have HK1 := Lib.hid k1
  clear k1 HVA
  go_wp2_with fail
  with_reducible refine (spots_any _ l _ (HM.out.kept HK1.out) HV.out).mono ?_
  rintro e W2 ⟨vs, rfl, hos⟩
  have HO := Lib.hid hos
  have HK2 := Lib.hid (HK1.out.trans hos.1)
  clear hos HK1
  obtain ⟨c, hc⟩ : ∃ c, circ PN l = c := ⟨_, rfl⟩
  have HC := Lib.hid hc
  rw [hc] at HO HCL HCS
  clear hc
  obtain ⟨n, hn⟩ : ∃ n, c.length = n := ⟨_, rfl⟩
  have HN := Lib.hid hn
  have hn2 : n ≤ 1536 := by have := HCL.out; omega
  have hn1 : 0 < n := by
    rw [← hn, ← HC.out]
    obtain ⟨m, hm⟩ := List.exists_mem_of_ne_nil l HV.out.ne
    have hok := HV.out.ok m hm
    unfold okMb at hok
    have hx0 : (⟨PN m.node 0, m.node, ((0 : Nat) : Int)⟩ : Mk) ∈ circ PN l := (mem_circ PN).2 ⟨m, hm, (mem_drawM PN).2 ⟨rfl, 0, by omega, rfl, rfl⟩⟩
    exact List.length_pos_of_mem hx0
  clear hn
  obtain ⟨sb, sc, hse⟩ : ∃ b cc, vs = .slice (some ⟨b, 0, none⟩) n cc := by
    rcases HO.out.form with ⟨_, h2⟩ | ⟨b, cc, h1⟩
    · have := HN.out; rw [h2] at this; simp at this; omega
    · exact ⟨b, cc, by rw [h1, HN.out]⟩
  subst hse
  have HSC : Hid (∀ (j : Nat) (x : Mk), c[j]? = some x → W2.cell? ⟨sb, j * 2, none⟩ = some (.int .i64 x.point) ∧ W2.cell? ⟨sb, j * 2 + 1, none⟩ = some (.int .i64 x.node)) := Lib.hid (fun j x hj => by
    have h3 := HO.out.2
    rw [HN.out] at h3
    have hj1 : j < n := by have := (List.getElem?_eq_some_iff.1 hj).1; have := HN.out; omega
    constructor
    · rw [h3.cellAt (j * 2) (by omega)]; exact flat_get encSp_len c j x 0 hj (by decide)
    · rw [h3.cellAt (j * 2 + 1) (by omega)]; exact flat_get encSp_len c j x 1 hj (by decide))
  clear HO
  obtain ⟨i0, hi, hz0, hz1, hz2⟩ := info_parts infoInt
  obtain ⟨W3, hmk, hown3, hgr3⟩ := run_makeSlice_full (P := Tryz.prog) W2 W2.heap.size 22 3 i0 _ 1 Tryz.underlying22 hi hz0 hz1 .i64 .i64 24 (by decide) (by rw [hz2]; decide) (by decide) (Nat.le_refl _)
  have hmk' : (Instr.makeSlice 22 (.int .i64 24) (.int .i64 24)).run Tryz.prog W2 = .ok (.slice (some ⟨W2.heap.size, 0, none⟩) 24 24) W3 := hmk
  have HOWN3 : Hid (W3.ownsRow W2.heap.size 3 1 (.slice (some ⟨W2.heap.size, 0, none⟩) 24 24) 24 ((loadsL []).map (fun x => Value.int .i64 x))) := Lib.hid (by
    have h := hown3
    rw [show (madeCells (Value.int .i64 0).cells (24 * 1)).toList = (loadsL []).map (fun x => Value.int .i64 x) by
      rw [loadsL_nil, List.map_replicate]
      exact toList_madeCells_one _ _] at h
    exact h)
  have HK23 : Hid (Keep (fun _ => False) W2 W3) := Lib.hid ((Keep.of_grown hgr3).mono (fun j e => by cases e))
  clear hmk hown3 hgr3 hi hz0 hz1 hz2
  generalize hg : W2.heap.size = g at hmk' HOWN3
  have HG := Lib.hid hg
  clear hg
  have HSZ3 : Hid (g < W3.heap.size) := Lib.hid (HOWN3.out.lt g rfl).2
  go_wp2_with fail
  clear hmk'
  have HSG : Hid (sb ≠ g) := Lib.hid (by
    obtain ⟨y, hy⟩ : ∃ y, c[0]? = some y := ⟨_, List.getElem?_eq_getElem (by rw [HN.out]; exact hn1)⟩
    have h := World.block_lt_of_cell? _ _ (HSC.out 0 y hy).1
    simp only [] at h
    have := HG.out
    omega)
  have HMG : Hid (∀ b, (Value.slice va vn vc).ownBlock = some b → b ≠ g) := Lib.hid (fun b hb => by
    obtain ⟨-, -, a, c', b', off, he, hc', ha, hcell⟩ := HM.out
    have hl0 : 0 < l.length := List.length_pos_iff.2 HV.out.ne
    have ha' := ha hl0
    obtain ⟨h1, _, _⟩ := Value.slice.inj he
    rw [h1, ha'] at hb
    cases hb
    have h := World.block_lt_of_cell? _ _ (hcell 0 _ (List.getElem?_eq_getElem hl0)).1
    simp only [] at h
    have := HG.out
    have := HK2.out.size
    show b' ≠ g
    omega)
  go_loopg [6, 7] 64 (fun gh v6 v7 wr => ∃ (s : Nat), gh + s = 64 ∧ v7 = .int .i64 s ∧ Keep (fun j => j = g) W3 wr ∧ wr.ownsRow W3.heap.size 3 1 v6 (asg PN QS l s).2.length ((asg PN QS l s).2.map (fun x => Value.int .i64 x)) ∧ wr.ownsRow g 3 1 (.slice (some ⟨g, 0, none⟩) 24 24) 24 ((loadsL (asg PN QS l s).2).map (fun x => Value.int .i64 x)))
  case atStart => exact ⟨0, by omega, rfl, Keep.refl _ _, World.ownsRow_nil _ _ _ _, by rw [← HG.out] at HOWN3 ⊢; exact HOWN3.out⟩
  case round =>
    clear HOWN3
    obtain ⟨s, hs, rfl, hkg, how, hld⟩ := hrel
    have HKG := Lib.hid hkg
    have HOW := Lib.hid how
    have HLD := Lib.hid hld
    clear hkg how hld
    by_cases hlt : s < 64
    · have HASG := Lib.hid (assign_at PN QS HV.out (show s ≤ 80 by omega))
      have HNX := Lib.hid (asg_succ l s)
      obtain ⟨st, hst⟩ : ∃ st, asg PN QS l s = st := ⟨_, rfl⟩
      rw [show assignK (fun s => ords PN l (QS s)) (limitL l) s = st from hst] at HASG
      rw [hst] at HOW HLD HNX
      have hsz : (s : Int) < 64 := by omega
      have hs0 : (0 : Int) ≤ (s : Int) := by omega
      have HSS := Lib.hid (And.intro hs hlt)
      have hd1 : (dig s).size ≤ 2 := dig_size (by omega)
      have HPT : Hid (∀ W, Calls Tryz.prog 78 #[.string ((⟨#[115, 108, 111, 116, 32]⟩ : ByteArray) ++ dig s)] W fun e w' => e = .returned (.int .i64 (QS s)) ∧ W = w') := Lib.hid (fun W => by
        rw [slotT_ref']
        exact refPoint_any _ (slotT_size (by omega)) W)
      have HDG : Hid (∀ W, Calls Tryz.prog 79 #[.int .i64 (s : Int)] W fun e w' => e = .returned (.string (dig s)) ∧ Keep (fun _ => False) W w') := Lib.hid (fun W => digits_any s (by omega) W)
      generalize dig s = ds at *
      have hz1 : ¬ (9223372036854775807 < 5 + ds.size) := by omega
      clear hs hlt hst
      go_wp2_with fail
      with_reducible refine (HDG.out _).mono ?_
      rintro e Y ⟨rfl, kk⟩
      have HYS := Lib.hid kk
      clear kk
      go_wp2_with fail
      with_reducible refine (HPT.out _).mono ?_
      rintro e w' ⟨rfl, rfl⟩
      have HLD2 := Lib.hid (ownsRow_keep HLD.out HYS.out (fun _ _ h => h))
      have HOW2 := Lib.hid (ownsRow_keep HOW.out HYS.out (fun _ _ h => h))
      have HMY : Hid (Mbs Y (.slice va vn vc) l) := Lib.hid (((HM.out.kept (HK2.out.trans HK23.out)).keep HKG.out (fun b hb e => HMG.out b hb e)).kept HYS.out)
      clear hz1 hd1 HDG HPT
      go_wp2_with fail
      go_loopg [9] n (fun gh2 v9 wr2 => ∃ (j : Nat), gh2 + j = n ∧ v9 = .int .i64 j ∧ Y = wr2 ∧ Hid (∀ q y, q < j → c[q]? = some y → y.point < QS s))
      case atStart => exact ⟨0, by omega, rfl, rfl, Lib.hid (fun q y h => absurd h (by omega))⟩
      case round =>
        obtain ⟨j, hj, rfl, rfl, HBEL⟩ := hrel
        by_cases hjn : j < n
        · obtain ⟨x, hx⟩ : ∃ x, c[j]? = some x := ⟨_, List.getElem?_eq_getElem (by rw [HN.out]; exact hjn)⟩
          have xc := HYS.out.cell (HKG.out.cell (HK23.out.cell (HSC.out j x hx).1 (fun h => h)) (fun e => HSG.out e)) (fun h => h)
          have HX := Lib.hid hx
          have hjz : (j : Int) < (n : Int) := by omega
          have hjz0 : (0 : Int) ≤ (j : Int) := by omega
          clear hx
          by_cases hpt : x.point < QS s
          · have HB2 : Hid (∀ q y, q < j + 1 → c[q]? = some y → y.point < QS s) := Lib.hid (fun q y hq hy => by
              by_cases e : q < j
              · exact HBEL.out q y e hy
              · obtain rfl : q = j := by omega
                rw [HX.out] at hy
                cases hy
                exact hpt)
            go_wp2_with fail
            clear xc
            go_roundg (gk - 1)
            case rel => exact ⟨j + 1, by omega, by go_num, rfl, HB2⟩
            case measure => omega
          · have hgo : ¬ ∃ y, c[j]? = some y ∧ y.point < QS s := fun ⟨y, hy, h⟩ => by
              rw [HX.out] at hy
              cases hy
              exact hpt h
            go_wp2_with fail
            clear xc
            have HJ : Hid (lows c (QS s) = j) := Lib.hid (by
              rcases Nat.lt_trichotomy (lows c (QS s)) j with h | h | h
              · obtain ⟨y, hy⟩ : ∃ y, c[lows c (QS s)]? = some y := ⟨_, List.getElem?_eq_getElem (by rw [HN.out]; omega)⟩
                have h1 := HBEL.out _ y h hy
                have h2 := (lows_below HCS.out (QS s) hy).1 h1
                omega
              · exact h
              · obtain ⟨y, hy⟩ : ∃ y, c[j]? = some y := ⟨_, List.getElem?_eq_getElem (by have := lows_le c (QS s); omega)⟩
                exact absurd ⟨y, hy, (lows_below HCS.out (QS s) hy).2 h⟩ hgo)
            have hj0 : (0 : Int) ≤ (j : Int) := by omega
            clear hgo HBEL
            go_wp2_with fail
            go_loopg [6, 10] n (fun gh2 v6 v10 wr2 => ∃ (i : Nat), gh2 + i = n ∧ u6 = v6 ∧ v10 = .int .i64 i ∧ (∀ q, q < i → st.1 (cwN c (QS s) q) ≤ 0) ∧ Keep (fun _ => False) Y wr2)
            case atStart => exact ⟨0, by omega, rfl, rfl, fun q h => absurd h (by omega), Keep.refl _ _⟩
            case round =>
              obtain ⟨i, hi, rfl, rfl, hle, hkeep⟩ := hrel
              have HLE := Lib.hid hle
              have HKY := Lib.hid hkeep
              clear hle hkeep
              by_cases hin : i < n
              · obtain ⟨x, hx, hcw⟩ := cwN_at HCS.out (QS s) (i := i) (by rw [HN.out]; exact hin)
                rw [HJ.out, HN.out] at hx
                have HCW := Lib.hid hcw
                have xc := HKY.out.cell (HYS.out.cell (HKG.out.cell (HK23.out.cell (HSC.out _ x hx).2 (fun h => h)) (fun e => HSG.out e)) (fun h => h)) (fun h => h)
                obtain ⟨ix, hix⟩ : ∃ ix, (j + i) % n = ix := ⟨_, rfl⟩
                rw [hix] at xc hx
                have hixn : ix < n := by rw [← hix]; exact Nat.mod_lt _ (by omega)
                have e1 : ((j : Int) + (i : Int)) % (n : Int) = (ix : Int) := by rw [← hix]; first | rw [Int.natCast_emod, Int.natCast_add] | rw [Int.natCast_mod, Int.natCast_add] | simp
                have hinz : (i : Int) < (n : Int) := by omega
                have hi0 : (0 : Int) ≤ (i : Int) := by omega
                have hixz : (ix : Int) < (n : Int) := by omega
                have hix0 : (0 : Int) ≤ (ix : Int) := by omega
                have hnz : (n : Int) ≠ 0 := by omega
                have hwji : IntKind.i64.wrap ((j : Int) + (i : Int)) = (j : Int) + (i : Int) := wrapI (by unfold I64; omega)
                obtain ⟨m, hm, hmx⟩ : ∃ m ∈ l, m.node = x.node := by
                  have h1 : x ∈ circ PN l := by rw [HC.out]; exact List.mem_of_getElem? hx
                  obtain ⟨m, hm, hxm⟩ := (mem_circ PN).1 h1
                  exact ⟨m, hm, ((mem_drawM PN).1 hxm).1.symm⟩
                have hok := HV.out.ok m hm
                unfold okMb at hok
                rw [hmx] at hok
                obtain ⟨nq, hnq⟩ : ∃ q : Nat, x.node = q := ⟨x.node.toNat, by omega⟩
                rw [hnq] at xc hok
                have HNQ : Hid (cwN c (QS s) i = (nq : Int)) := Lib.hid (by rw [HCW.out, hnq])
                have hnq23 : nq ≤ 23 := by omega
                clear hx hcw hm hmx hok hix HCW hnq
                have HLDR := Lib.hid (ownsRow_keep HLD2.out HKY.out (fun _ _ h => h))
                have hl0 := HLDR.out.cellAt nq (by omega)
                rw [List.getElem?_map, loadsL_get (by omega)] at hl0
                have HL0 : Hid (wr.cell? ⟨g, nq, none⟩ = some (.int .i64 (cnt st.2 nq))) := Lib.hid hl0
                have HLIM : Hid (∀ W, Keep (fun _ => False) Y W → Calls Tryz.prog 76 #[.slice va vn vc, .int .i64 (nq : Int)] W fun e w' => e = .returned (.int .i64 (limitL l nq)) ∧ Keep (fun _ => False) W w') := Lib.hid (fun W kk => refLimit_any _ l W (HMY.out.kept kk) nq)
                have hroom := HASG.out.room nq
                have hcn := cnt_nn st.2 nq
                have hlb := limitL_nn l nq
                clear hl0
                have z0 : ∀ p : KW wr, p.val.cell? ⟨g, nq, none⟩ = some (.int .i64 (cnt st.2 nq)) := fun p => p.k.cell HL0.out (fun h => h)
                have hq0 : (0 : Int) ≤ (nq : Int) := by omega
                have hq24 : (nq : Int) < 24 := by omega
                generalize hcq : cnt st.2 nq = cq at *
                generalize limitL l nq = lq at *
                by_cases hlt2 : cq < lq
                · have HSF : Hid ((asg PN QS l (s + 1)).2 = st.2 ++ [(nq : Int)]) := Lib.hid (by
                    rw [HNX.out, step_found (i := i) (by rw [HC.out, HN.out]; exact hin) (by rw [HC.out, HNQ.out]; omega) (fun q hq => by rw [HC.out]; exact HLE.out q hq), HC.out, HNQ.out])
                  have hwc : IntKind.i64.wrap (cq + 1) = cq + 1 := wrapI (by unfold I64; omega)
                  go_wp2_with fail
                  clear xc
                  refine wp_region_quiet_kept (by kernel_rfl) (by kernel_rfl) ?_
                  repeat (quiet_step ((go_at_call 76; refine Calls.kept_of (HLIM.out _ (HKY.out.trans (KW.k _))))))
                  refine wpQuiet_nil ?_
                  rintro _ ⟨p, rfl⟩
                  have HP := Lib.hid (HKY.out.trans p.k)
                  have HLD3 := Lib.hid (ownsRow_keep HLDR.out p.k (fun _ _ h => h))
                  have g0 := p.k.cell HL0.out (fun h => h)
                  clear z0
                  generalize p.val = Y1 at *
                  have gf : ∀ o, Y1.frozen? ⟨g, o, none⟩ = false := fun o => HLD3.out.frozenAt o
                  have HKZ : Hid (Keep (fun jj => jj = g) Y (Y1.setCell ⟨g, nq, none⟩ (.int .i64 (cq + 1)))) := Lib.hid ((HP.out.mono (fun _ h => h.elim)).setCell (p := ⟨g, nq, none⟩) _ (.inl rfl))
                  have HLD4 : Hid ((Y1.setCell ⟨g, nq, none⟩ (.int .i64 (cq + 1))).ownsRow g 3 1 (.slice (some ⟨g, 0, none⟩) 24 24) 24 ((loadsL (st.2 ++ [(nq : Int)])).map (fun x => Value.int .i64 x))) := Lib.hid (by
                    have h := (HLD3.out.stored nq (.int .i64 (cq + 1))).1
                    have e := loadsL_snoc (ow := st.2) (n := nq) (by omega)
                    rw [hcq] at e
                    rw [← List.map_set (f := fun x => Value.int .i64 x), ← e] at h
                    exact h)
                  have HUG : Hid (∀ b, u6.ownBlock = some b → b ≠ g) := Lib.hid (fun b hb e => by
                    have h1 := (HOW2.out.lt b hb).1
                    have h2 := HSZ3.out
                    omega)
                  have HOWZ := Lib.hid (ownsRow_keep HOW2.out HKZ.out (fun b hb e => HUG.out b hb e))
                  clear hcq hroom hcn hlb hlt2
                  go_upto_region 19 with (fail)
                  clear g0 gf hwc
                  generalize Y1.setCell ⟨g, nq, none⟩ (.int .i64 (cq + 1)) = Z1 at *
                  obtain ⟨v', W', hr, hown', kapp, -, gg, cc, hv'⟩ := app_one 22 3 1 8 _ Tryz.underlying22 infoInt rfl (by decide) (by decide) Z1 22 W3.heap.size u6 st.2.length (st.2.map (fun x => Value.int .i64 x)) [.int .i64 (nq : Int)] HOWZ.out rfl (by simp [Value.oneCell']) (by have := HASG.out.len; omega) (by have h1 := HKG.out.size; have h2 := HYS.out.size; have h3 := HKZ.out.size; omega)
                  have HR := Lib.hid hr
                  have HNEW : Hid (W'.ownsRow W3.heap.size 3 1 v' (asg PN QS l (s + 1)).2.length ((asg PN QS l (s + 1)).2.map (fun x => Value.int .i64 x))) := Lib.hid (by
                    rw [HSF.out, List.length_append, List.map_append]
                    exact hown')
                  have HLD5 : Hid (W'.ownsRow g 3 1 (.slice (some ⟨g, 0, none⟩) 24 24) 24 ((loadsL (asg PN QS l (s + 1)).2).map (fun x => Value.int .i64 x))) := Lib.hid (by
                    rw [HSF.out]
                    exact ownsRow_keep HLD4.out kapp (fun b hb e => by cases hb; exact HUG.out g e rfl))
                  have HKW' : Hid (Keep (fun jj => jj = g) W3 W') := Lib.hid (((HKG.out.trans (HYS.out.mono (fun _ h => h.elim))).trans HKZ.out).trans' kapp (fun b e => .inr (HOW2.out.lt b e).1))
                  clear hr hown' kapp hv' HLD4 HOWZ
                  go_wp2_with (at_builtin; refine wpList_app rfl (.tmp 71) (.tmp 73) 22 rfl rfl rfl HR.out ?_)
                  go_roundg (64 - (s + 1))
                  case rel => exact ⟨s + 1, by have := HSS.out; omega, by go_num, HKW'.out, HNEW.out, HLD5.out⟩
                  case measure => have := HSS.out; omega
                · have HLE2 : Hid (∀ q, q < i + 1 → st.1 (cwN c (QS s) q) ≤ 0) := Lib.hid (fun q hq => by
                    by_cases e : q < i
                    · exact HLE.out q e
                    · obtain rfl : q = i := by omega
                      rw [HNQ.out]; omega)
                  go_wp2_with fail
                  clear xc
                  refine wp_region_quiet_kept (by kernel_rfl) (by kernel_rfl) ?_
                  repeat (quiet_step ((go_at_call 76; refine Calls.kept_of (HLIM.out _ (HKY.out.trans (KW.k _))))))
                  refine wpQuiet_nil ?_
                  rintro _ ⟨p, rfl⟩
                  have HP := Lib.hid (HKY.out.trans p.k)
                  clear z0
                  generalize p.val = Y1 at *
                  go_wp2_with fail
                  go_roundg (gk - 1)
                  case rel => exact ⟨i + 1, by omega, rfl, by go_num, HLE2.out, HP.out⟩
                  case measure => omega
              · have hin' : ¬ ((i : Int) < (n : Int)) := by omega
                have HSF : Hid (asg PN QS l (s + 1) = st) := Lib.hid (by
                  rw [HNX.out]
                  exact step_none (fun q hq => by
                    rw [HC.out, HN.out] at hq
                    rw [HC.out]
                    exact HLE.out q (by omega)))
                have HKW' : Hid (Keep (fun jj => jj = g) W3 wr) := Lib.hid (HKG.out.trans ((HYS.out.trans HKY.out).mono (fun _ h => h.elim)))
                have HNEW := Lib.hid (ownsRow_keep HOW2.out HKY.out (fun _ _ h => h))
                have HLD5 := Lib.hid (ownsRow_keep HLD2.out HKY.out (fun _ _ h => h))
                go_wp2_with fail
                go_roundg (64 - (s + 1))
                case rel => exact ⟨s + 1, by have := HSS.out; omega, by go_num, HKW'.out, by rw [HSF.out]; exact HNEW.out, by rw [HSF.out]; exact HLD5.out⟩
                case measure => have := HSS.out; omega
        · have hjz : ¬ ((j : Int) < (n : Int)) := by omega
          have hgo : ¬ ∃ y, c[j]? = some y ∧ y.point < QS s := fun ⟨y, hy, h⟩ => by
            have := (List.getElem?_eq_some_iff.1 hy).1
            have := HN.out
            omega
          go_wp2_with fail
          have HJ : Hid (lows c (QS s) = j) := Lib.hid (by
            rcases Nat.lt_trichotomy (lows c (QS s)) j with h | h | h
            · obtain ⟨y, hy⟩ : ∃ y, c[lows c (QS s)]? = some y := ⟨_, List.getElem?_eq_getElem (by rw [HN.out]; omega)⟩
              have h1 := HBEL.out _ y h hy
              have h2 := (lows_below HCS.out (QS s) hy).1 h1
              omega
            · exact h
            · obtain ⟨y, hy⟩ : ∃ y, c[j]? = some y := ⟨_, List.getElem?_eq_getElem (by have := lows_le c (QS s); omega)⟩
              exact absurd ⟨y, hy, (lows_below HCS.out (QS s) hy).2 h⟩ hgo)
          have hj0 : (0 : Int) ≤ (j : Int) := by omega
          clear hgo HBEL
          go_wp2_with fail
          go_loopg [6, 10] n (fun gh2 v6 v10 wr2 => ∃ (i : Nat), gh2 + i = n ∧ u6 = v6 ∧ v10 = .int .i64 i ∧ (∀ q, q < i → st.1 (cwN c (QS s) q) ≤ 0) ∧ Keep (fun _ => False) Y wr2)
          case atStart => exact ⟨0, by omega, rfl, rfl, fun q h => absurd h (by omega), Keep.refl _ _⟩
          case round =>
            obtain ⟨i, hi, rfl, rfl, hle, hkeep⟩ := hrel
            have HLE := Lib.hid hle
            have HKY := Lib.hid hkeep
            clear hle hkeep
            by_cases hin : i < n
            · obtain ⟨x, hx, hcw⟩ := cwN_at HCS.out (QS s) (i := i) (by rw [HN.out]; exact hin)
              rw [HJ.out, HN.out] at hx
              have HCW := Lib.hid hcw
              have xc := HKY.out.cell (HYS.out.cell (HKG.out.cell (HK23.out.cell (HSC.out _ x hx).2 (fun h => h)) (fun e => HSG.out e)) (fun h => h)) (fun h => h)
              obtain ⟨ix, hix⟩ : ∃ ix, (j + i) % n = ix := ⟨_, rfl⟩
              rw [hix] at xc hx
              have hixn : ix < n := by rw [← hix]; exact Nat.mod_lt _ (by omega)
              have e1 : ((j : Int) + (i : Int)) % (n : Int) = (ix : Int) := by rw [← hix]; first | rw [Int.natCast_emod, Int.natCast_add] | rw [Int.natCast_mod, Int.natCast_add] | simp
              have hinz : (i : Int) < (n : Int) := by omega
              have hi0 : (0 : Int) ≤ (i : Int) := by omega
              have hixz : (ix : Int) < (n : Int) := by omega
              have hix0 : (0 : Int) ≤ (ix : Int) := by omega
              have hnz : (n : Int) ≠ 0 := by omega
              have hwji : IntKind.i64.wrap ((j : Int) + (i : Int)) = (j : Int) + (i : Int) := wrapI (by unfold I64; omega)
              obtain ⟨m, hm, hmx⟩ : ∃ m ∈ l, m.node = x.node := by
                have h1 : x ∈ circ PN l := by rw [HC.out]; exact List.mem_of_getElem? hx
                obtain ⟨m, hm, hxm⟩ := (mem_circ PN).1 h1
                exact ⟨m, hm, ((mem_drawM PN).1 hxm).1.symm⟩
              have hok := HV.out.ok m hm
              unfold okMb at hok
              rw [hmx] at hok
              obtain ⟨nq, hnq⟩ : ∃ q : Nat, x.node = q := ⟨x.node.toNat, by omega⟩
              rw [hnq] at xc hok
              have HNQ : Hid (cwN c (QS s) i = (nq : Int)) := Lib.hid (by rw [HCW.out, hnq])
              have hnq23 : nq ≤ 23 := by omega
              clear hx hcw hm hmx hok hix HCW hnq
              have HLDR := Lib.hid (ownsRow_keep HLD2.out HKY.out (fun _ _ h => h))
              have hl0 := HLDR.out.cellAt nq (by omega)
              rw [List.getElem?_map, loadsL_get (by omega)] at hl0
              have HL0 : Hid (wr.cell? ⟨g, nq, none⟩ = some (.int .i64 (cnt st.2 nq))) := Lib.hid hl0
              have HLIM : Hid (∀ W, Keep (fun _ => False) Y W → Calls Tryz.prog 76 #[.slice va vn vc, .int .i64 (nq : Int)] W fun e w' => e = .returned (.int .i64 (limitL l nq)) ∧ Keep (fun _ => False) W w') := Lib.hid (fun W kk => refLimit_any _ l W (HMY.out.kept kk) nq)
              have hroom := HASG.out.room nq
              have hcn := cnt_nn st.2 nq
              have hlb := limitL_nn l nq
              clear hl0
              have z0 : ∀ p : KW wr, p.val.cell? ⟨g, nq, none⟩ = some (.int .i64 (cnt st.2 nq)) := fun p => p.k.cell HL0.out (fun h => h)
              have hq0 : (0 : Int) ≤ (nq : Int) := by omega
              have hq24 : (nq : Int) < 24 := by omega
              generalize hcq : cnt st.2 nq = cq at *
              generalize limitL l nq = lq at *
              by_cases hlt2 : cq < lq
              · have HSF : Hid ((asg PN QS l (s + 1)).2 = st.2 ++ [(nq : Int)]) := Lib.hid (by
                  rw [HNX.out, step_found (i := i) (by rw [HC.out, HN.out]; exact hin) (by rw [HC.out, HNQ.out]; omega) (fun q hq => by rw [HC.out]; exact HLE.out q hq), HC.out, HNQ.out])
                have hwc : IntKind.i64.wrap (cq + 1) = cq + 1 := wrapI (by unfold I64; omega)
                go_wp2_with fail
                clear xc
                refine wp_region_quiet_kept (by kernel_rfl) (by kernel_rfl) ?_
                repeat (quiet_step ((go_at_call 76; refine Calls.kept_of (HLIM.out _ (HKY.out.trans (KW.k _))))))
                refine wpQuiet_nil ?_
                rintro _ ⟨p, rfl⟩
                have HP := Lib.hid (HKY.out.trans p.k)
                have HLD3 := Lib.hid (ownsRow_keep HLDR.out p.k (fun _ _ h => h))
                have g0 := p.k.cell HL0.out (fun h => h)
                clear z0
                generalize p.val = Y1 at *
                have gf : ∀ o, Y1.frozen? ⟨g, o, none⟩ = false := fun o => HLD3.out.frozenAt o
                have HKZ : Hid (Keep (fun jj => jj = g) Y (Y1.setCell ⟨g, nq, none⟩ (.int .i64 (cq + 1)))) := Lib.hid ((HP.out.mono (fun _ h => h.elim)).setCell (p := ⟨g, nq, none⟩) _ (.inl rfl))
                have HLD4 : Hid ((Y1.setCell ⟨g, nq, none⟩ (.int .i64 (cq + 1))).ownsRow g 3 1 (.slice (some ⟨g, 0, none⟩) 24 24) 24 ((loadsL (st.2 ++ [(nq : Int)])).map (fun x => Value.int .i64 x))) := Lib.hid (by
                  have h := (HLD3.out.stored nq (.int .i64 (cq + 1))).1
                  have e := loadsL_snoc (ow := st.2) (n := nq) (by omega)
                  rw [hcq] at e
                  rw [← List.map_set (f := fun x => Value.int .i64 x), ← e] at h
                  exact h)
                have HUG : Hid (∀ b, u6.ownBlock = some b → b ≠ g) := Lib.hid (fun b hb e => by
                  have h1 := (HOW2.out.lt b hb).1
                  have h2 := HSZ3.out
                  omega)
                have HOWZ := Lib.hid (ownsRow_keep HOW2.out HKZ.out (fun b hb e => HUG.out b hb e))
                clear hcq hroom hcn hlb hlt2
                go_upto_region 19 with (fail)
                clear g0 gf hwc
                generalize Y1.setCell ⟨g, nq, none⟩ (.int .i64 (cq + 1)) = Z1 at *
                obtain ⟨v', W', hr, hown', kapp, -, gg, cc, hv'⟩ := app_one 22 3 1 8 _ Tryz.underlying22 infoInt rfl (by decide) (by decide) Z1 22 W3.heap.size u6 st.2.length (st.2.map (fun x => Value.int .i64 x)) [.int .i64 (nq : Int)] HOWZ.out rfl (by simp [Value.oneCell']) (by have := HASG.out.len; omega) (by have h1 := HKG.out.size; have h2 := HYS.out.size; have h3 := HKZ.out.size; omega)
                have HR := Lib.hid hr
                have HNEW : Hid (W'.ownsRow W3.heap.size 3 1 v' (asg PN QS l (s + 1)).2.length ((asg PN QS l (s + 1)).2.map (fun x => Value.int .i64 x))) := Lib.hid (by
                  rw [HSF.out, List.length_append, List.map_append]
                  exact hown')
                have HLD5 : Hid (W'.ownsRow g 3 1 (.slice (some ⟨g, 0, none⟩) 24 24) 24 ((loadsL (asg PN QS l (s + 1)).2).map (fun x => Value.int .i64 x))) := Lib.hid (by
                  rw [HSF.out]
                  exact ownsRow_keep HLD4.out kapp (fun b hb e => by cases hb; exact HUG.out g e rfl))
                have HKW' : Hid (Keep (fun jj => jj = g) W3 W') := Lib.hid (((HKG.out.trans (HYS.out.mono (fun _ h => h.elim))).trans HKZ.out).trans' kapp (fun b e => .inr (HOW2.out.lt b e).1))
                clear hr hown' kapp hv' HLD4 HOWZ
                go_wp2_with (at_builtin; refine wpList_app rfl (.tmp 71) (.tmp 73) 22 rfl rfl rfl HR.out ?_)
                go_roundg (64 - (s + 1))
                case rel => exact ⟨s + 1, by have := HSS.out; omega, by go_num, HKW'.out, HNEW.out, HLD5.out⟩
                case measure => have := HSS.out; omega
              · have HLE2 : Hid (∀ q, q < i + 1 → st.1 (cwN c (QS s) q) ≤ 0) := Lib.hid (fun q hq => by
                  by_cases e : q < i
                  · exact HLE.out q e
                  · obtain rfl : q = i := by omega
                    rw [HNQ.out]; omega)
                go_wp2_with fail
                clear xc
                refine wp_region_quiet_kept (by kernel_rfl) (by kernel_rfl) ?_
                repeat (quiet_step ((go_at_call 76; refine Calls.kept_of (HLIM.out _ (HKY.out.trans (KW.k _))))))
                refine wpQuiet_nil ?_
                rintro _ ⟨p, rfl⟩
                have HP := Lib.hid (HKY.out.trans p.k)
                clear z0
                generalize p.val = Y1 at *
                go_wp2_with fail
                go_roundg (gk - 1)
                case rel => exact ⟨i + 1, by omega, rfl, by go_num, HLE2.out, HP.out⟩
                case measure => omega
            · have hin' : ¬ ((i : Int) < (n : Int)) := by omega
              have HSF : Hid (asg PN QS l (s + 1) = st) := Lib.hid (by
                rw [HNX.out]
                exact step_none (fun q hq => by
                  rw [HC.out, HN.out] at hq
                  rw [HC.out]
                  exact HLE.out q (by omega)))
              have HKW' : Hid (Keep (fun jj => jj = g) W3 wr) := Lib.hid (HKG.out.trans ((HYS.out.trans HKY.out).mono (fun _ h => h.elim)))
              have HNEW := Lib.hid (ownsRow_keep HOW2.out HKY.out (fun _ _ h => h))
              have HLD5 := Lib.hid (ownsRow_keep HLD2.out HKY.out (fun _ _ h => h))
              go_wp2_with fail
              go_roundg (64 - (s + 1))
              case rel => exact ⟨s + 1, by have := HSS.out; omega, by go_num, HKW'.out, by rw [HSF.out]; exact HNEW.out, by rw [HSF.out]; exact HLD5.out⟩
              case measure => have := HSS.out; omega
    · obtain rfl : s = 64 := by omega
      have HE : Hid (AsgPost l w (.returned (.tuple #[u6, .int .i64 0])) wr) := Lib.hid ⟨u6, rfl, ownsRow_lo HOW.out (by have h1 := HK2.out.size; have h2 := HK23.out.size; omega), (HK2.out.trans HK23.out).trans' HKG.out (fun b e => .inr (by have h1 := HK2.out.size; have h2 := HG.out; have : b = g := e; omega))⟩
      go_wp2_with fail
      refine bodyPost_ret (v := .tuple #[u6, .int .i64 0]) (by simp [results, Tryz.results114, go_sem]) rfl ?_
      exact HE.out
end Go.Proofs.YtplkmbfeeegaiaaGreatDoor
