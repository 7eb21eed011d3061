/-
  Put: taking one, putting it back, adding the new one: the invariant.
-/
import Derived.Test.YtigkhglgoabjaaaF3
namespace Go.Proofs.Ytigkhglgoabjaaa
open Go.RowKit Go.Shelf

theorem nodup_perm_bl {L M : List Ent} (h : L.Perm M) (hn : (L.map Ent.b).Nodup) : (M.map Ent.b).Nodup := (h.map Ent.b).nodup_iff.1 hn

theorem Mid.perm {w : World} {g : Gh} {R L TT : List Ent} {KK : List ByteArray} {vt vo : Value} {W : World} (m : Mid w g R L TT KK vt vo W) : g.L.Perm (R ++ L) := m.h.perm

/-- An entry that was taken away lies outside the pool. -/
theorem Mid.out {w : World} {g : Gh} {R L TT : List Ent} {KK : List ByteArray} {vt vo : Value} {W : World} (hg : PoolIs w g) (m : Mid w g R L TT KK vt vo W) {x : Ent} (hx : x ∈ R) : ¬ Gh.foot { g with L := L } x.b := by
  have hxg : x ∈ g.L := m.sub x (by simp [hx])
  have hxb : x.b ∈ g.bl := List.mem_map_of_mem hxg
  have hnd := hg.nd
  simp only [List.nodup_cons, List.mem_cons, not_or] at hnd
  obtain ⟨⟨hps, hpu, hpL⟩, ⟨hsu, hsL⟩, huL, hLL⟩ := hnd
  rintro (e | e | e | e | e)
  · exact hpL (e ▸ hxb)
  · exact hsL (e ▸ hxb)
  · exact huL (e ▸ hxb)
  · exact hg.map.not_cell (hg.ents x hxg).c0 e
  · have hn := nodup_perm_bl m.perm hLL
    rw [List.map_append, List.nodup_append] at hn
    exact hn.2.2 x.b (List.mem_map_of_mem hx) x.b e rfl

theorem Mid.take {w : World} {g : Gh} {R L TT X Y : List Ent} {x : Ent} {KK : List ByteArray} {vt vo : Value} {W W' : World} (hg : PoolIs w g) (m : Mid w g R L TT KK vt vo W) (hL : L = X ++ x :: Y)
    (hp : PoolIs W' { g with L := X ++ Y }) (k : Keep (Gh.foot { g with L := X ++ Y }) W W') : Mid w g (x :: R) (X ++ Y) TT KK vt vo W' := by
  have hxL : x ∈ L := by rw [hL]; simp
  have hsubL : ∀ y ∈ X ++ Y, y ∈ L := fun y hy => by rw [hL]; simp only [List.mem_append, List.mem_cons] at hy ⊢; exact hy.imp id .inr
  have hlow : ∀ i, Gh.foot { g with L := X ++ Y } i → i < w.heap.size := fun i hi => m.old i (foot_sub (fun y hy => m.sub y (by simp [hsubL y hy])) hi)
  have hxout : ¬ Gh.foot { g with L := X ++ Y } x.b := by
    have hxg : x ∈ g.L := m.sub x (by simp [hxL])
    have hxb : x.b ∈ g.bl := List.mem_map_of_mem hxg
    have hnd := hg.nd
    simp only [List.nodup_cons, List.mem_cons, not_or] at hnd
    obtain ⟨⟨hps, hpu, hpL⟩, ⟨hsu, hsL⟩, huL, hLL⟩ := hnd
    have hn := m.p.nd
    simp only [List.nodup_cons, List.mem_cons, not_or] at hn
    have hn2 : (L.map Ent.b).Nodup := hn.2.2.2
    rw [bl_split hL, List.nodup_append, List.nodup_cons] at hn2
    rintro (e | e | e | e | e)
    · exact hpL (e ▸ hxb)
    · exact hsL (e ▸ hxb)
    · exact huL (e ▸ hxb)
    · exact hg.map.not_cell (hg.ents x hxg).c0 e
    · have e' : x.b ∈ (X ++ Y).map Ent.b := e
      rw [List.map_append, List.mem_append] at e'
      rcases e' with e' | e'
      · exact hn2.2.2 _ e' _ (by simp) rfl
      · exact hn2.2.1.1 e'
  have hRout : ∀ y ∈ R, ¬ Gh.foot { g with L := X ++ Y } y.b := fun y hy hf => m.out hg hy (by
    rcases hf with e | e | e | e | e
    · exact .inl e
    · exact .inr (.inl e)
    · exact .inr (.inr (.inl e))
    · exact .inr (.inr (.inr (.inl e)))
    · obtain ⟨u, hu, hub⟩ := List.mem_map.1 (show y.b ∈ (X ++ Y).map Ent.b from e)
      exact .inr (.inr (.inr (.inr (by show y.b ∈ L.map Ent.b; rw [← hub]; exact List.mem_map_of_mem (hsubL u hu))))))
  have hk : Hook W g.bp X x Y := PoolIs.hook (g := { g with L := L }) m.p hL
  refine ⟨hp, ⟨X, Y, rfl, hk.keep k hxout, ?_⟩, m.bx.keep k (fun h => by have := hlow _ h; omega), m.k.trans' k (fun i hi => .inl (foot_sub (fun y hy => m.sub y (by simp [hsubL y hy])) hi)),
    ownsRow_keep m.o1 k (fun b hb h => by have := hlow _ h; have := (m.o1.lt b hb).1; omega), ownsRow_keep m.o2 k (fun b hb h => by have := hlow _ h; have := (m.o2.lt b hb).1; omega), m.dis, Nat.le_trans m.sz k.size, m.old, ?_⟩
  · rw [← hL]; exact m.h.keep k hRout
  · intro y hy
    simp only [List.cons_append, List.mem_cons, List.mem_append] at hy
    rcases hy with rfl | hy | hy
    · exact m.sub y (by simp [hxL])
    · exact m.sub y (by simp [hy])
    · exact m.sub y (by rw [List.mem_append]; exact .inr (hsubL y (by rw [List.mem_append]; exact hy)))

/-! ### the new entry -/
abbrev newE (W : World) (key : ByteArray) (t : Nat) (z : Int) : Ent := ⟨W.heap.size, ⟨key, t, z⟩⟩
abbrev newO (key : ByteArray) (t : Nat) (z : Int) : Obj := .cells #[.string key, .int .i64 t, .int .i64 z, .pointer none, .pointer none] 59

theorem heap_drewN (X : World) (k : Nat) : (X.drewN k).heap = X.heap := rfl

theorem new_cells (W : World) (key : ByteArray) (t : Nat) (z : Int) : EntIs (W.alloc (newO key t z)) (newE W key t z) ∧ (W.alloc (newO key t z)).cell? ⟨W.heap.size, 3, none⟩ = some (.pointer none) ∧ (W.alloc (newO key t z)).cell? ⟨W.heap.size, 4, none⟩ = some (.pointer none) := by
  have hh := World.alloc_heap_new W (newO key t z)
  have hc : ∀ i, (W.alloc (newO key t z)).cell? ⟨W.heap.size, i, none⟩ = (#[.string key, .int .i64 t, .int .i64 z, .pointer none, .pointer none] : Array Value)[i]? := fun i => by unfold World.cell?; rw [hh]; rfl
  refine ⟨⟨hc 0, hc 1, hc 2, fun o => ?_⟩, hc 3, hc 4⟩
  unfold World.frozen?; rw [hh]
  show (decide (0 ≤ o) && decide (o < 0)) = false
  simp

/-- The last step of Put: what must hold before insert, and what comes of it. -/
theorem PoolIs.fresh {W : World} {g : Gh} (h : PoolIs W g) (key : ByteArray) (t : Nat) (z : Int) (ht : t < g.sh.length) (hks : key.size ≤ maxLen) (hz : 1 ≤ z) (hk : key ∉ g.es.map E.key) (hfit : z ≤ g.cap - tot g.es) :
    let w1 := W.alloc (newO key t z)
    let l := lastB g.bp g.L
    let w0 := (w1.setCell ⟨W.heap.size, 3, none⟩ (ptr l)).setCell ⟨W.heap.size, 4, none⟩ (ptr g.bp)
    let w2 := (w0.setCell ⟨l, 4, none⟩ (ptr W.heap.size)).setCell ⟨g.bp, 3, none⟩ (ptr W.heap.size)
    (w1.cell? ⟨W.heap.size, 3, none⟩ = some (.pointer none) ∧ w1.cell? ⟨W.heap.size, 4, none⟩ = some (.pointer none) ∧ w1.cell? ⟨g.bp, 3, none⟩ = some (ptr l) ∧ (∃ vl, w1.cell? ⟨l, 4, none⟩ = some vl) ∧
      w1.frozen? ⟨W.heap.size, 3, none⟩ = false ∧ w1.frozen? ⟨W.heap.size, 4, none⟩ = false ∧ w1.frozen? ⟨g.bp, 3, none⟩ = false ∧ w1.frozen? ⟨l, 4, none⟩ = false ∧ W.heap.size ≠ g.bp ∧ W.heap.size ≠ l) ∧
    (w2.cell? ⟨g.bp, 8, none⟩ = some (.map (some g.bm)) ∧ MapRel Try.prog 9 w2 g.bm (fun k v => ∃ x ∈ g.L, k = .string x.e.key ∧ v = ptr x.b)) ∧
    (∀ ob, MapRel Try.prog 9 (w2.putObj g.bm ob) g.bm (fun k v => (k = .string key ∧ v = ptr W.heap.size) ∨ (k ≠ .string key ∧ ∃ x ∈ g.L, k = .string x.e.key ∧ v = ptr x.b)) →
      (let w3 := w2.putObj g.bm ob
       w3.cell? ⟨g.bp, 7, none⟩ = some (.slice (some ⟨g.bu, 0, none⟩) g.sh.length g.uc) ∧ w3.cell? ⟨g.bp, 9, none⟩ = some (.int .i64 (g.cap - tot g.es)) ∧ w3.frozen? ⟨g.bp, 9, none⟩ = false ∧
        w3.cell? ⟨W.heap.size, 1, none⟩ = some (.int .i64 t) ∧ w3.cell? ⟨W.heap.size, 2, none⟩ = some (.int .i64 z) ∧ w3.cell? ⟨g.bu, t, none⟩ = some (.int .i64 (usedOf g.es t)) ∧ w3.frozen? ⟨g.bu, t, none⟩ = false ∧ g.bp ≠ g.bu ∧ W.heap.size ≠ g.bu ∧
        ∀ k, PoolIs ((((w3.setCell ⟨g.bu, t, none⟩ (.int .i64 (usedOf g.es t + z))).setCell ⟨g.bp, 9, none⟩ (.int .i64 (g.cap - tot g.es - z)))).drewN k) { g with L := g.L ++ [newE W key t z] } ∧
          Keep g.foot W ((((w3.setCell ⟨g.bu, t, none⟩ (.int .i64 (usedOf g.es t + z))).setCell ⟨g.bp, 9, none⟩ (.int .i64 (g.cap - tot g.es - z)))).drewN k))) := by
  intro w1 l w0 w2
  obtain ⟨hE, h3, h4⟩ := new_cells W key t z
  have h1 : PoolIs w1 g := h.alloc _
  have hnf : ¬ g.foot W.heap.size := fun hf => by have := h.foot_lt hf; omega
  have hxp : W.heap.size ≠ g.bp := fun e => hnf (.inl e)
  have hxs : W.heap.size ≠ g.bs := fun e => hnf (.inr (.inl e))
  have hxu : W.heap.size ≠ g.bu := fun e => hnf (.inr (.inr (.inl e)))
  have hxm : W.heap.size ≠ g.bm := fun e => hnf (.inr (.inr (.inr (.inl e))))
  have hxL : W.heap.size ∉ g.bl := fun e => hnf (.inr (.inr (.inr (.inr e))))
  have hlr : l = g.bp ∨ l ∈ g.bl := lastB_mem g.bp g.L
  have hxl : W.heap.size ≠ l := fun e => hlr.elim (fun h => hxp (e.trans h)) (fun h => hxL (e ▸ h))
  obtain ⟨⟨vl, hvl⟩, _, hfl, hls, hlu, hlm⟩ := ring_cells h1 hlr
  obtain ⟨_, _, hfp, hps, hpu, hpm⟩ := ring_cells h1 (.inl rfl)
  obtain ⟨A, hA⟩ := lastB_eq g.bp g.L
  have hp3 : w1.cell? ⟨g.bp, 3, none⟩ = some (ptr l) := by
    have hl := h1.links
    have e : g.bp :: g.bl ++ [g.bp] = A ++ l :: g.bp :: [] := by rw [Gh.bl, hA]; simp [l]
    rw [e] at hl
    exact (links_split hl).2.1.2
  -- w0: the new entry knows its neighbours
  have k0 : Keep (fun i => i = W.heap.size) w1 w0 := ((Keep.refl (fun i => i = W.heap.size) w1).setCell (p := ⟨W.heap.size, 3, none⟩) _ (.inl rfl)).setCell (p := ⟨W.heap.size, 4, none⟩) _ (.inl rfl)
  have p0 : PoolIs w0 g := h1.keep k0 (fun i hi e => hnf (e ▸ hi))
  have hk0 : Hook w0 g.bp g.L (newE W key t z) [] := by
    refine ⟨⟨?_, ?_, ?_, fun o => ?_⟩, ?_, ?_⟩
    · exact (cell_set_off (by decide)).trans ((cell_set_off (by decide)).trans hE.c0)
    · exact (cell_set_off (by decide)).trans ((cell_set_off (by decide)).trans hE.c1)
    · exact (cell_set_off (by decide)).trans ((cell_set_off (by decide)).trans hE.c2)
    · exact (World.frozen?_setCell _ _ _ _).trans ((World.frozen?_setCell _ _ _ _).trans (hE.fz o))
    · exact (cell_set_off (by decide)).trans (cell_set_same h3)
    · exact cell_set_same ((cell_set_off (by decide)).trans h4)
  obtain ⟨⟨vl0, hvl0⟩, _, hfl0, _, _, _⟩ := ring_cells p0 hlr
  obtain ⟨_, ⟨vp0, hvp0⟩, hfp0, _, _, _⟩ := ring_cells p0 (.inl rfl)
  have hum := p0.map.not_cell (p0.us _ ht)
  refine ⟨⟨h3, h4, hp3, ⟨vl, hvl⟩, hE.fz 3, hE.fz 4, hfp 3, hfl 4, hxp, hxl⟩, ⟨?_, ?_⟩, fun ob hm => ?_⟩
  · exact (cell_set_off (by decide)).trans ((cell_set_off (by decide)).trans p0.c8)
  · exact p0.map.of_heap ((heap_set_ne hpm.symm).trans (heap_set_ne hlm.symm))
  · have c2 : ∀ b o, b ≠ g.bm → o ≠ 3 → o ≠ 4 → (w2.putObj g.bm ob).cell? ⟨b, o, none⟩ = w0.cell? ⟨b, o, none⟩ := fun b o hb ho3 ho4 =>
      (cell_put hb).trans ((cell_set_off (fun e => ho3 e.symm)).trans (cell_set_off (fun e => ho4 e.symm)))
    have f2 : ∀ b o, b ≠ g.bm → (w2.putObj g.bm ob).frozen? ⟨b, o, none⟩ = w0.frozen? ⟨b, o, none⟩ := fun b o hb =>
      (frozen_put hb).trans ((World.frozen?_setCell _ _ _ _).trans (World.frozen?_setCell _ _ _ _))
    have cu : (w2.putObj g.bm ob).cell? ⟨g.bu, t, none⟩ = some (.int .i64 (usedOf g.es t)) := (cell_put hum).trans ((cell_set_blk hpu).trans ((cell_set_blk hlu).trans (p0.us t ht)))
    refine ⟨(c2 _ _ hpm (by decide) (by decide)).trans p0.c7, (c2 _ _ hpm (by decide) (by decide)).trans p0.c9, (f2 _ _ hpm).trans (p0.fp _), (c2 _ _ hxm (by decide) (by decide)).trans hk0.e.c1, (c2 _ _ hxm (by decide) (by decide)).trans hk0.e.c2, cu, (f2 _ _ hum).trans (p0.fu _), hpu, hxu, fun k => ?_⟩
    obtain ⟨w', hw'⟩ : ∃ w', w' = (((w2.putObj g.bm ob).setCell ⟨g.bu, t, none⟩ (.int .i64 (usedOf g.es t + z))).setCell ⟨g.bp, 9, none⟩ (.int .i64 (g.cap - tot g.es - z))).drewN k := ⟨_, rfl⟩
    rw [← hw']
    have hm' := hm.of_heap (w' := w') (by rw [hw', heap_drewN, heap_set_ne hpm.symm, heap_set_ne hum.symm])
    have hU := upd_of hw' hm' hvl0 hvp0 (p0.us t ht) p0.c9 hlm hpm hum hpm hlu hpu hpu
    clear_value w0 w2
    refine ⟨?_, ?_⟩
    · have := p0.add (X := g.L) (Y := []) (x := newE W key t z) (by simp) hk0 hxp hxs hxu hxL hk hks ht hz (by show tot g.es + z ≤ g.cap; omega) hU (fun _ _ => Iff.rfl)
      simpa using this
    · have ka : Keep g.foot W w1 := (Keep.refl _ W).alloc _
      have kb : Keep g.foot W w0 := ka.trans' k0 (fun i e => .inr (by omega))
      refine kb.trans' hU.keep ?_
      rintro i (rfl | rfl | rfl | rfl | rfl)
      · exact .inl (hlr.elim .inl (fun h => .inr (.inr (.inr (.inr h)))))
      · exact .inl (.inl rfl)
      · exact .inl (.inr (.inr (.inl rfl)))
      · exact .inl (.inl rfl)
      · exact .inl (.inr (.inr (.inr (.inl rfl))))
end Go.Proofs.Ytigkhglgoabjaaa
