/-
  Print of package query.
-/
import Derived.Test.YtmndjicaofciiaaGreatDoorW5
import Derived.Laws.EntriesVeiled
namespace Go.Proofs.YtmndjicaofciiaaGreatDoor
open Go.RowKit Go.Shelf

/-- A box of three cells. -/
def Box3 (W : World) (z : Nat) (x y u : Value) : Prop := W.cell? ⟨z, 0, none⟩ = some x ∧ W.cell? ⟨z, 1, none⟩ = some y ∧ W.cell? ⟨z, 2, none⟩ = some u ∧ ∀ o, W.frozen? ⟨z, o, none⟩ = false
theorem Box3.lt {W : World} {z : Nat} {x y u : Value} (h : Box3 W z x y u) : z < W.heap.size := World.block_lt_of_cell? _ _ h.1
theorem Box3.keep {W W' : World} {z : Nat} {x y u : Value} {A : Nat → Prop} (h : Box3 W z x y u) (k : Keep A W W') (hz : ¬ A z) : Box3 W' z x y u :=
  ⟨k.cell h.1 hz, k.cell h.2.1 hz, k.cell h.2.2.1 hz, fun o => by
    rw [World.frozen?_of_block (w := W) (a := ⟨z, o, none⟩) (k.block z h.lt hz)]
    exact h.2.2.2 o⟩
theorem Box3.kept {W W' : World} {z : Nat} {x y u : Value} (h : Box3 W z x y u) (k : Keep (fun _ => False) W W') : Box3 W' z x y u := h.keep k (fun h => h)
theorem Box3.new (W : World) (x y u : Value) (t : TypeId) : Box3 (W.alloc (.cells #[x, y, u] t)) W.heap.size x y u := by
  refine ⟨?_, ?_, ?_, ?_⟩
  · simp
  · simp
  · simp
  · intro o; simp [go_sem]
theorem Box3.put {W : World} {z : Nat} {x y u : Value} (h : Box3 W z x y u) (x' y' u' : Value) : Box3 (((W.setCell ⟨z, 0, none⟩ x').setCell ⟨z, 1, none⟩ y').setCell ⟨z, 2, none⟩ u') z x' y' u' := by
  have a0 := cell_set_same (v := x') h.1
  have a1 : (W.setCell ⟨z, 0, none⟩ x').cell? ⟨z, 1, none⟩ = some y := (cell_set_off (by decide)).trans h.2.1
  have a2 : (W.setCell ⟨z, 0, none⟩ x').cell? ⟨z, 2, none⟩ = some u := (cell_set_off (by decide)).trans h.2.2.1
  have b1 := cell_set_same (v := y') a1
  have b2 : ((W.setCell ⟨z, 0, none⟩ x').setCell ⟨z, 1, none⟩ y').cell? ⟨z, 2, none⟩ = some u := (cell_set_off (by decide)).trans a2
  refine ⟨?_, ?_, cell_set_same b2, fun o => ?_⟩
  · exact ((cell_set_off (by decide)).trans ((cell_set_off (by decide)).trans a0))
  · exact (cell_set_off (by decide)).trans b1
  · rw [World.frozen?_setCell, World.frozen?_setCell, World.frozen?_setCell]; exact h.2.2.2 o
theorem Bld.kept {B b : Nat} {l : List UInt8} {W W' : World} (h : Bld B b l W) (k : Keep (fun _ => False) W W') : Bld B b l W' := by
  have hg : W.grownBy W' none := ⟨k.os, k.tape, k.output, k.size, fun j hj _ => k.block j hj (fun h => h)⟩
  rcases h with ⟨h1, v, h2, h3, h4⟩ | ⟨h1, v, h2, h3, h4⟩
  · exact .inl ⟨h1, v, k.heap h2 (fun h => h), h3.kept hg (by
      cases e : v.ownBlock with
      | none => exact .inl rfl
      | some g => exact .inr (by simp)), h4⟩
  · exact .inr ⟨h1, v, k.heap h2 (fun h => h), h3.kept hg (by
      cases e : v.ownBlock with
      | none => exact .inl rfl
      | some g => exact .inr (by simp)), h4⟩
theorem Wrote.of_keep {b : Nat} {W W' : World} (k : Keep (fun _ => False) W W') (hb : b ≤ W.heap.size) : Wrote b b W W' :=
  ⟨(k.mono (fun _ h => h.elim)).below hb, fun _ _ h _ _ => k.heap h (fun h => h)⟩
theorem GlueAt.keepB {W W' : World} {b : Nat} {gv : Value} {k : Int} (h : GlueAt W gv k) (q : Keep (fun j => b ≤ j) W W') (hb : W.heap.size = b) : GlueAt W' gv k := by
  rcases h with h | ⟨m, h1, h2⟩
  · exact .inl h
  · exact .inr ⟨m, h1, h2.of_heap (q.block m h2.lt (by have := h2.lt; omega))⟩
/-- What the free operations of Print's region answer. -/
def prS (kd : Int) (B : Nat) (t : Nat) (v : Value) (W : World) : Prop :=
  (t = 14 → ∃ mb ofb jb, v = .map (some mb) ∧ MapRel Tryz.prog 3 W mb (FormR ofb jb) ∧ ∀ k : Int, 1 ≤ k → k ≤ 7 → GlueAt W (glueV ofb jb k) k) ∧
  (t = 17 → ∃ o, v = .agg #[.string (bs (wordK kd)), .func (.func (fnK kd)) #[] #[], .map o] ∧ GlueAt W (.map o) kd) ∧
  (t = 4 → ∃ z, v = ptr z ∧ B ≤ z ∧ Box3 W z (.string ⟨#[]⟩) .nilFunc (.map none))
theorem prS_keep {kd : Int} {B : Nat} (t : Nat) (v : Value) (w w' : World) (h : prS kd B t v w) (k : Keep (fun _ => False) w w') : prS kd B t v w' := by
  obtain ⟨h1, h2, h3⟩ := h
  refine ⟨fun e => ?_, fun e => ?_, fun e => ?_⟩
  · obtain ⟨mb, ofb, jb, q1, q2, q3⟩ := h1 e
    exact ⟨mb, ofb, jb, q1, q2.kept k, fun i a b => (q3 i a b).kept k⟩
  · obtain ⟨o, q1, q2⟩ := h2 e
    exact ⟨o, q1, q2.kept k⟩
  · obtain ⟨z, q1, q2, q3⟩ := h3 e
    exact ⟨z, q1, q2, q3.kept k⟩
theorem Pow.keepB {W W' : World} {b : Nat} (h : Pow W) (q : Keep (fun j => b ≤ j) W W') (hb : W.heap.size = b) : Pow W' := by
  unfold Pow Lib.TabIs World.var? at h ⊢
  rw [gPow] at h ⊢
  simp only [Option.bind_some] at h ⊢
  have hlt : 1 < W.heap.size := by
    rcases Nat.lt_or_ge 1 W.heap.size with h' | h'
    · exact h'
    · rw [Array.getElem?_eq_none h'] at h; cases h
  rw [q.block _ hlt (by omega)]
  exact h
def PrintPost (q : Qy) (w : World) (e : Ending) (w' : World) : Prop := e = .returned (.tuple #[.string (bs (if q.ok then lineL q else [])), .int .i64 (if q.ok then 0 else 50)]) ∧ Keep (fun _ => False) w w'
set_option maxRecDepth 100000 in
set_option maxHeartbeats 8000000 in
theorem print_any (q : Qy) (w : World) (hP : Pow w) : Calls Tryz.prog 12 #[qV q] w (PrintPost q w) := by
  unfold PrintPost
  have HVA : Hid (∀ W, Calls Tryz.prog 7 #[qV q] W fun e w' => e = .returned (.bool (decide q.ok)) ∧ Keep (fun _ => False) W w') := Lib.hid (valid_any q)
  have K0 : Hid (Keep (fun _ => False) w (w.alloc (.cells #[.int .i64 q.kd, .int .i64 q.tb, .int .i64 q.cl, .int .i64 q.lo, .int .i64 q.hi, .int .i64 q.bb, .int .i64 q.ot] 24))) := Lib.hid ((Keep.refl _ w).alloc _)
  have HQ0 := Lib.hid (QBox.new w q 24)
  have HP := Lib.hid hP
  have HZ0 : Hid (w.heap.size ≤ w.heap.size) := Lib.hid (Nat.le_refl _)
  clear hP
  by_cases hok : q.ok
  · rw [if_pos hok, if_pos hok]
    rw [decide_eq_true hok] at HVA
    have HI := Lib.hid hok.i64
    have HKD := Lib.hid hok.kind
    clear hok
    go_enter Tryz.func12, Tryz.ntmps12
    go_wp2_with fail
    with_reducible refine (HVA.out _).mono ?_
    rintro e W1 ⟨rfl, k1⟩
    have HK1 := Lib.hid (K0.out.trans k1)
    have HQ1 := Lib.hid (HQ0.out.kept k1)
    generalize w.heap.size = z at *
    clear k1 K0 HQ0
    go_upto_region 3 with (fail)
    have r0 : ∀ p : KA (fun _ => False) W1, p.val.cell? ⟨z, 0, none⟩ = some (.int .i64 q.kd) := fun p => (HQ1.out.kept p.k).1 0 (by decide)
    refine wp_region_free [1, 2] [⟨0, 14, []⟩, ⟨3, 17, [14]⟩, ⟨4, 4, []⟩] [(false, 5)] (inKA (fun _ => False) W1) (prS q.kd W1.heap.size) (Keep (fun _ => False)) (by kernel_rfl) (by kernel_rfl) (inKA.of (Keep.refl _ W1).drew) prS_keep (fun w w' hw hk => by obtain ⟨p, rfl⟩ := hw; exact inKA.of (p.k.trans hk)) ?_
    iterate 2 (refine headW_step rfl (fun K hK => ?_); go_simp; refine hK _ ?_; clear hK K)
    clear r0
    refine ⟨?_, ?_, ?_⟩
    · intro h hh
      simp only [List.mem_cons, List.not_mem_nil, or_false] at hh
      rcases hh with rfl | rfl | rfl <;> simp
    · refine freeW_step rfl (fun vs W hC hS K hK => ?_) (freeW_step rfl (fun vs W hC hS K hK => ?_) (freeW_step rfl (fun vs W hC hS K hK => ?_) trivial))
      · simp only [putL, List.foldl]
        go_simp
        refine (forms_any W).mono ?_
        rintro e W2 ⟨mb, ofb, jb, rfl, h1, h2, kk⟩
        exact hK _ _ ⟨fun _ => ⟨mb, ofb, jb, rfl, h1, h2⟩, fun e => absurd e (by decide), fun e => absurd e (by decide)⟩ kk
      · obtain ⟨mb, ofb, jb, e1, h1, h2⟩ := (hS 14 (by simp)).1 rfl
        simp only [putL, List.foldl]
        generalize vs 14 = v14 at *
        subst e1
        have hl := form_look h1 q.kd HKD.out
        obtain ⟨o, ho⟩ := glueV_map ofb jb q.kd
        have h3 := Lib.hid (h2 q.kd HKD.out.1 HKD.out.2)
        unfold formV at hl
        rw [ho] at hl h3
        clear ho h1 h2 hS
        generalize hs : bs (wordK q.kd) = s0 at hl
        have HS := Lib.hid hs
        clear hs
        go_simp
        rw [← HS.out]
        exact hK _ _ ⟨fun e => absurd e (by decide), fun _ => ⟨o, rfl, h3.out⟩, fun e => absurd e (by decide)⟩ (Keep.refl _ W)
      · obtain ⟨p, rfl⟩ := hC
        simp only [putL, List.foldl]
        have hsz := p.k.size
        go_simp
        exact hK _ _ ⟨fun e => absurd e (by decide), fun e => absurd e (by decide), fun _ => ⟨p.val.heap.size, rfl, hsz, Box3.new _ _ _ _ _⟩⟩ ((Keep.refl _ p.val).alloc _)
    · intro vs W hC hS
      obtain ⟨p, rfl⟩ := hC
      obtain ⟨mb, ofb, jb, e1, -, -⟩ := (hS ⟨0, 14, []⟩ (by simp)).1 rfl
      obtain ⟨o, e2, hgl⟩ := (hS ⟨3, 17, [14]⟩ (by simp)).2.1 rfl
      obtain ⟨z4, e3, hz4, hb4⟩ := (hS ⟨4, 4, []⟩ (by simp)).2.2 rfl
      simp only [] at e1 e2 e3
      simp only [List.map, putL, List.foldl]
      generalize vs 14 = v14 at *
      generalize vs 17 = v17 at *
      generalize vs 4 = v4 at *
      have HKP := Lib.hid p.k
      have HGP := Lib.hid hgl
      have HBP := Lib.hid hb4
      have HZ4 := Lib.hid hz4
      clear hS hgl hb4 hz4
      generalize p.val = V at *
      generalize hs : bs (wordK q.kd) = s0 at e2
      generalize hf : fnK q.kd = fk at e2
      have HS := Lib.hid hs
      have HF := Lib.hid hf
      clear hs hf
      subst e1 e2 e3
      obtain ⟨y0, y1, y2, yf⟩ := HBP.out
      refine walkW_do rfl (inKA.of HKP.out) (fun K hK => ?_)
      go_simp
      refine hK _ _ ?_; clear hK K
      clear y0 y1 y2 yf
      have kq : Keep (fun j => j = z4) V (((V.setCell ⟨z4, 0, none⟩ (.string s0)).setCell ⟨z4, 1, none⟩ (.func (.func fk) #[] #[])).setCell ⟨z4, 2, none⟩ (.map o)) := (((Keep.refl (fun j => j = z4) V).setCell (p := ⟨z4, 0, none⟩) _ (.inl rfl)).setCell (p := ⟨z4, 1, none⟩) _ (.inl rfl)).setCell (p := ⟨z4, 2, none⟩) _ (.inl rfl)
      have HB4 := Lib.hid (HBP.out.put (.string s0) (.func (.func fk) #[] #[]) (.map o))
      have HKV : Hid (Keep (fun _ => False) W1 (((V.setCell ⟨z4, 0, none⟩ (.string s0)).setCell ⟨z4, 1, none⟩ (.func (.func fk) #[] #[])).setCell ⟨z4, 2, none⟩ (.map o))) := Lib.hid (HKP.out.trans' kq (fun j e => .inr (by have h5 : j = z4 := e; have := HZ4.out; omega)))
      have HGV : Hid (GlueAt (((V.setCell ⟨z4, 0, none⟩ (.string s0)).setCell ⟨z4, 1, none⟩ (.func (.func fk) #[] #[])).setCell ⟨z4, 2, none⟩ (.map o)) (.map o) q.kd) := Lib.hid (by
        rcases HGP.out with h | ⟨m, h1, h2⟩
        · exact .inl h
        · exact .inr ⟨m, h1, h2.of_heap (kq.block m h2.lt (fun e => h2.not_cell HBP.out.1 e.symm))⟩)
      clear kq HBP HKP HGP HZ4
      generalize ((V.setCell ⟨z4, 0, none⟩ (.string s0)).setCell ⟨z4, 1, none⟩ (.func (.func fk) #[] #[])).setCell ⟨z4, 2, none⟩ (.map o) = V1 at *
      refine ⟨inKA.of HKV.out, ?_⟩
      have HQV := Lib.hid (HQ1.out.kept HKV.out)
      have HKW := Lib.hid (HK1.out.trans HKV.out)
      have HPV := Lib.hid (HP.out.kept HKW.out)
      clear HKV HQ1 HK1
      have HMF : Hid (∀ (fn : Fn) (first cap : Array Value) (w : World), (Instr.makeFunc fn first cap).run Tryz.prog w = .ok (.func fn first cap) w) := Lib.hid (fun _ _ _ _ => rfl)
      have ka : Keep (fun _ => False) V1 (V1.alloc (.cells #[.pointer none, .slice none 0 0] 75)) := (Keep.refl _ V1).alloc _
      have HBL : Hid (Bld V1.heap.size V1.heap.size [] (V1.alloc (.cells #[.pointer none, .slice none 0 0] 75))) := Lib.hid (Lib.IsBuilderF.of (Lib.fresh_isBuilder _ _ V1))
      have HKB : Hid (Keep (fun j => V1.heap.size ≤ j) V1 (V1.alloc (.cells #[.pointer none, .slice none 0 0] 75))) := Lib.hid (ka.mono (fun _ h => h.elim))
      have HZB : Hid (z < V1.heap.size ∧ z4 < V1.heap.size ∧ w.heap.size ≤ V1.heap.size) := Lib.hid ⟨HQV.out.lt, HB4.out.lt, HKW.out.size⟩
      have HSB : Hid (V1.heap.size ≤ (V1.alloc (.cells #[.pointer none, .slice none 0 0] 75)).heap.size) := Lib.hid ka.size
      clear ka
      go_upto_region 5 with (fail)
      generalize V1.alloc (.cells #[.pointer none, .slice none 0 0] 75) = V2 at *
      obtain ⟨b, hbz⟩ : ∃ b, V1.heap.size = b := ⟨_, rfl⟩
      have HVB := Lib.hid hbz
      rw [hbz] at HBL HKB HZB HSB ⊢
      clear hbz
      obtain ⟨y0, y1, y2, -⟩ := HB4.out.keep HKB.out (fun h => by have := HZB.out; omega)
      go_wp2_with fail
      clear y0 y1 y2
      rw [← HS.out]
      with_reducible refine (writeString_any b b [] (bs (wordK q.kd)) V2 HBL.out (by have := wordK_len q.kd; rw [bs_size, List.length_nil]; omega) HSB.out).mono ?_
      rintro e V3 ⟨rfl, hb3, hw3⟩
      have HB3 : Hid (Bld b b (linePre q 0) V3) := Lib.hid (by rw [linePre_zero]; simpa using hb3)
      have HK3 := Lib.hid (HKB.out.trans (Keep.of_below hw3.below))
      have HS3 : Hid (b ≤ V3.heap.size) := Lib.hid (Nat.le_trans HSB.out hw3.below.size)
      clear hb3 hw3 HBL HKB HSB
      have hmf := HMF.out
      have hen := fnK_enters q.kd HKD.out
      rw [HF.out] at hen
      obtain ⟨y0, y1, y2, -⟩ := HB4.out.keep HK3.out (fun h => by have := HZB.out; omega)
      go_wp2_with fail
      clear y0 y1 y2 hmf hen
      rw [← HF.out]
      with_reducible refine (fields_any q.kd HKD.out z V3).mono ?_
      rintro e V4 ⟨ag, cg, rfl, hrow, k4⟩
      obtain ⟨n, hn⟩ : ∃ n, (flds q.kd).length = n := ⟨_, rfl⟩
      have HN := Lib.hid hn
      have hn26 := flds_len q.kd
      rw [hn] at hrow hn26 ⊢
      clear hn
      obtain ⟨-, ⟨-, h0⟩ | ⟨g, cap, cur, e, hg, hh, hnc, hcm, hsz, htk⟩⟩ := hrow
      · omega
      obtain ⟨rfl, -, rfl⟩ := Value.slice.inj e
      clear e
      have HROW : Hid (∀ W : World, W.heap[g]? = some (.cells cur 84 (0, 0)) → ∀ (j f : Nat), (flds q.kd)[j]? = some f → W.cell? ⟨g, j, none⟩ = some (pF z f)) := Lib.hid (fun W hW j f hj => by
        rw [Lib.cell_of_heap hW]
        have h1 : (cur.toList.take (n * 1))[j]? = some (pF z f) := by rw [htk, List.getElem?_map, hj]; rfl
        rw [List.getElem?_take] at h1
        split at h1
        · simpa using h1
        · cases h1)
      have HGB : Hid (b < g) := Lib.hid (by have := HB3.out.lt; omega)
      have HH4 := Lib.hid hh
      have HB4L := Lib.hid (HB3.out.kept k4)
      have HK4 := Lib.hid (HK3.out.trans (k4.mono (fun _ h => h.elim)))
      have HS4 : Hid (b ≤ V4.heap.size) := Lib.hid (Nat.le_trans HS3.out k4.size)
      clear htk hsz hcm hg hh k4 HB3 HK3 HS3
      have HCL : Hid (∀ W l s, Bld b b l W → l.length + s.size ≤ 100000 → b ≤ W.heap.size → Calls Tryz.prog 23 #[.string s, ptr b] W fun e w' => e = .returned (.tuple #[]) ∧ Bld b b (l ++ 32 :: s.data.toList) w' ∧ Wrote b b W w') := Lib.hid (fun W l s h1 h2 h3 => put_any b b l s W h1 h2 h3)
      have HIT : Hid (∀ W x, I64 x → Pow W → Calls Tryz.prog 25 #[.int .i64 x] W fun e w' => e = .returned (.string (bs (Lib.itoa x))) ∧ Keep (fun _ => False) W w') := Lib.hid (fun W x h1 h2 => itoa_any x h1 W h2)
      have HPB : Hid (∀ W, Keep (fun j => b ≤ j) V1 W → Pow W) := Lib.hid (fun W k => HPV.out.keepB k HVB.out)
      go_wp2_with fail
      go_loopg [26] n (fun gh v wr => ∃ k : Nat, gh + k = n ∧ v = .int .i64 k ∧ Bld b b (linePre q k) wr ∧ wr.heap[g]? = some (.cells cur 84 (0, 0)) ∧ Keep (fun j => b ≤ j) V1 wr ∧ b ≤ wr.heap.size)
      case atStart => exact ⟨0, by omega, rfl, HB4L.out, HH4.out, HK4.out, HS4.out⟩
      case round =>
        clear HB4L HH4 HK4 HS4
        obtain ⟨k, hk, rfl, hbl, hh, hkp, hsz⟩ := hrel
        have HBL := Lib.hid hbl
        have HH := Lib.hid hh
        have HKP := Lib.hid hkp
        have HSZ := Lib.hid hsz
        clear hbl hh hkp hsz
        by_cases hlt : k < n
        · obtain ⟨f, hf⟩ : ∃ f, (flds q.kd)[k]? = some f := ⟨_, List.getElem?_eq_getElem (by rw [HN.out]; exact hlt)⟩
          have hf7 := flds_lt hf
          have HNX := Lib.hid (linePre_next q hf)
          have c0 := HROW.out wr HH.out k f hf
          have HLN := Lib.hid (linePre_len q HI.out k)
          have HGN := Lib.hid (lineGl_len q k)
          have hkz : (k : Int) < (n : Int) := by omega
          have hk0 : (0 : Int) ≤ (k : Int) := by omega
          have HIF := Lib.hid (HI.out f)
          have HCF := Lib.hid ((HQV.out.keep HKP.out (fun h => by have := HZB.out; omega)).1 f hf7)
          clear hf
          obtain ⟨y0, y1, y2, -⟩ := HB4.out.keep HKP.out (fun h => by have := HZB.out; omega)
          have hl := glue_look (HGV.out.keepB HKP.out HVB.out) k (by omega)
          cases eg : glueK q.kd k with
          | none =>
            have HGL : Hid (lineGl q k = linePre q k) := Lib.hid (by unfold lineGl; rw [eg])
            rw [eg] at hl
            simp only [Option.isSome_none] at hl
            generalize glS q.kd k = sg at hl
            have HBG := Lib.hid HBL.out
            rw [← HGL.out] at HBG
            clear y0 y1
            have c1 := HCF.out
            go_wp2_with fail
            clear c1
            with_reducible refine (HIT.out _ _ HIF.out (HPB.out _ HKP.out)).mono ?_
            rintro e W9 ⟨rfl, k9⟩
            have HB9 := Lib.hid (HBG.out.kept k9)
            have HS9 : Hid (b ≤ W9.heap.size) := Lib.hid (Nat.le_trans HSZ.out k9.size)
            have HK9 := Lib.hid (HKP.out.trans (k9.mono (fun _ h => h.elim)))
            have HH9 := Lib.hid (k9.heap HH.out (fun h => h))
            clear k9
            have HSI : Hid ((lineGl q k).length + (bs (Lib.itoa (q.get f))).size ≤ 100000) := Lib.hid (by
              have h1 := HLN.out
              have h2 := HGN.out
              have h3 := Lib.itoa_length_le (q.get f) HIF.out.1 HIF.out.2
              rw [bs_size]
              omega)
            go_wp2_with fail
            with_reducible refine (HCL.out _ _ _ HB9.out HSI.out HS9.out).mono ?_
            rintro e W10 ⟨rfl, hb10, hw10⟩
            rw [bs_list] at hb10
            have HB10 : Hid (Bld b b (linePre q (k + 1)) W10) := Lib.hid (by rw [HNX.out]; exact hb10)
            have HS10 : Hid (b ≤ W10.heap.size) := Lib.hid (Nat.le_trans HS9.out hw10.below.size)
            have HK10 := Lib.hid (HK9.out.trans (Keep.of_below hw10.below))
            have HH10 := Lib.hid (hw10.others g _ HH9.out (fun e => by have h5 : g = b := Option.some.inj e; have := HGB.out; omega) (fun c fz e => by have h5 := (Obj.cells.inj e).2.1; exact absurd h5 (by decide)))
            clear hb10 hw10
            go_wp2_with fail
            go_roundg (n - (k + 1))
            case rel => exact ⟨k + 1, by omega, by go_num, HB10.out, HH10.out, HK10.out, HS10.out⟩
            case measure => omega
          | some gw =>
            have HGL : Hid (lineGl q k = linePre q k ++ 32 :: gw) := Lib.hid (by unfold lineGl; rw [eg])
            have hgw := glueK_len eg
            have egs : glS q.kd k = bs gw := by unfold glS; rw [eg]
            rw [eg, egs] at hl
            simp only [Option.isSome_some] at hl
            have HSG : Hid ((linePre q k).length + (bs gw).size ≤ 100000) := Lib.hid (by
              have h1 := HLN.out
              rw [bs_size, hgw]
              omega)
            have HLG := Lib.hid (bs_list gw)
            clear eg egs hgw
            generalize bs gw = sg at *
            go_wp2_with fail
            clear y0 y1 hl
            with_reducible refine (HCL.out _ _ _ HBL.out HSG.out HSZ.out).mono ?_
            rintro e W8 ⟨rfl, hb8, hw8⟩
            have HBGb : Hid (Bld b b (lineGl q k) W8) := Lib.hid (by rw [HGL.out, ← HLG.out]; exact hb8)
            have HSZb : Hid (b ≤ W8.heap.size) := Lib.hid (Nat.le_trans HSZ.out hw8.below.size)
            have HKPb := Lib.hid (HKP.out.trans (Keep.of_below hw8.below))
            have HHb := Lib.hid (hw8.others g _ HH.out (fun e => by have h5 : g = b := Option.some.inj e; have := HGB.out; omega) (fun c fz e => by have h5 := (Obj.cells.inj e).2.1; exact absurd h5 (by decide)))
            have HCFb := Lib.hid ((HQV.out.keep HKPb.out (fun h => by have := HZB.out; omega)).1 f hf7)
            clear hb8 hw8
            have c1 := HCFb.out
            go_wp2_with fail
            clear c1
            with_reducible refine (HIT.out _ _ HIF.out (HPB.out _ HKPb.out)).mono ?_
            rintro e W9 ⟨rfl, k9⟩
            have HB9 := Lib.hid (HBGb.out.kept k9)
            have HS9 : Hid (b ≤ W9.heap.size) := Lib.hid (Nat.le_trans HSZb.out k9.size)
            have HK9 := Lib.hid (HKPb.out.trans (k9.mono (fun _ h => h.elim)))
            have HH9 := Lib.hid (k9.heap HHb.out (fun h => h))
            clear k9
            have HSI : Hid ((lineGl q k).length + (bs (Lib.itoa (q.get f))).size ≤ 100000) := Lib.hid (by
              have h1 := HLN.out
              have h2 := HGN.out
              have h3 := Lib.itoa_length_le (q.get f) HIF.out.1 HIF.out.2
              rw [bs_size]
              omega)
            go_wp2_with fail
            with_reducible refine (HCL.out _ _ _ HB9.out HSI.out HS9.out).mono ?_
            rintro e W10 ⟨rfl, hb10, hw10⟩
            rw [bs_list] at hb10
            have HB10 : Hid (Bld b b (linePre q (k + 1)) W10) := Lib.hid (by rw [HNX.out]; exact hb10)
            have HS10 : Hid (b ≤ W10.heap.size) := Lib.hid (Nat.le_trans HS9.out hw10.below.size)
            have HK10 := Lib.hid (HK9.out.trans (Keep.of_below hw10.below))
            have HH10 := Lib.hid (hw10.others g _ HH9.out (fun e => by have h5 : g = b := Option.some.inj e; have := HGB.out; omega) (fun c fz e => by have h5 := (Obj.cells.inj e).2.1; exact absurd h5 (by decide)))
            clear hb10 hw10
            go_wp2_with fail
            go_roundg (n - (k + 1))
            case rel => exact ⟨k + 1, by omega, by go_num, HB10.out, HH10.out, HK10.out, HS10.out⟩
            case measure => omega
        · obtain rfl : k = n := by omega
          have HBE : Hid (Bld b b (lineL q) wr) := Lib.hid (by
            have h := HBL.out
            rwa [linePre_all q (by rw [HN.out]; exact Nat.le_refl _)] at h)
          have HST := Lib.hid (Tryz.Builder_String_any_k b b (lineL q) wr HBE.out HSZ.out)
          have hkz : ¬ (k : Int) < (k : Int) := by omega
          go_wp2_with fail
          with_reducible refine HST.out.mono ?_
          rintro e W9 ⟨rfl, -, hbl, -⟩
          have HKE : Hid (Keep (fun _ => False) w W9) := Lib.hid (HKW.out.trans' (HKP.out.trans (Keep.of_below hbl)) (fun j h => .inr (by have h5 : b ≤ j := h; have := HZB.out; omega)))
          clear hbl
          go_wp2_with fail
          go_ret2
          exact ⟨rfl, HKE.out⟩
  · rw [if_neg hok, if_neg hok]
    rw [decide_eq_false hok] at HVA
    go_enter Tryz.func12, Tryz.ntmps12
    go_wp2_with fail
    with_reducible refine (HVA.out _).mono ?_
    rintro e W1 ⟨rfl, k1⟩
    have HK1 := Lib.hid (K0.out.trans k1)
    clear k1
    go_wp2_with fail
    go_ret2
    exact ⟨rfl, HK1.out⟩
end Go.Proofs.YtmndjicaofciiaaGreatDoor
