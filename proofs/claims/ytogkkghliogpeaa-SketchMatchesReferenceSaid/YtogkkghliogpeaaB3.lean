/-
  put, drop, least.
-/
import Derived.Test.YtogkkghliogpeaaP1
import Derived.Test.YtogkkghliogpeaaG4
namespace Go.Proofs.Ytogkkghliogpeaa
open Go.RowKit

theorem CRel.put {L : List C} {x : C} (k v : Value) : CRel (putC L x) k v ↔ (k = .string x.key ∧ v = bnd x.lo x.hi) ∨ (k ≠ .string x.key ∧ CRel L k v) := by
  unfold CRel putC
  constructor
  · rintro ⟨y, hy, rfl, rfl⟩
    rcases List.mem_cons.1 hy with rfl | hy
    · exact .inl ⟨rfl, rfl⟩
    · obtain ⟨h1, h2⟩ := mem_delC.1 hy
      exact .inr ⟨fun e => h2 (Value.string.inj e), y, h1, rfl, rfl⟩
  · rintro (⟨rfl, rfl⟩ | ⟨hne, y, hy, rfl, rfl⟩)
    · exact ⟨x, by simp, rfl, rfl⟩
    · exact ⟨y, List.mem_cons_of_mem _ (mem_delC.2 ⟨hy, fun e => hne (by rw [e])⟩), rfl, rfl⟩
theorem CRel.del {L : List C} {key : ByteArray} (k v : Value) : CRel (delC L key) k v ↔ (k ≠ .string key ∧ CRel L k v) := by
  unfold CRel
  constructor
  · rintro ⟨y, hy, rfl, rfl⟩
    obtain ⟨h1, h2⟩ := mem_delC.1 hy
    exact ⟨fun e => h2 (Value.string.inj e), y, h1, rfl, rfl⟩
  · rintro ⟨hne, y, hy, rfl, rfl⟩
    exact ⟨y, mem_delC.2 ⟨hy, fun e => hne (by rw [e])⟩, rfl, rfl⟩
theorem CRel.perm {L M : List C} (h : L.Perm M) (k v : Value) : CRel M k v ↔ CRel L k v := by
  unfold CRel
  exact ⟨fun ⟨x, hx, r⟩ => ⟨x, h.mem_iff.2 hx, r⟩, fun ⟨x, hx, r⟩ => ⟨x, h.mem_iff.1 hx, r⟩⟩
theorem SkAt.perm {w : World} {s bm : Nat} {cap tot : Int} {L M : List C} (h : SkAt w s bm cap tot L) (hp : L.Perm M) : SkAt w s bm cap tot M :=
  ⟨h.c0, h.c1, h.c2, h.fz, h.map.congr (CRel.perm hp), (hp.map C.key).nodup_iff.1 h.keys, fun x hx => h.ks x (hp.mem_iff.2 hx)⟩
theorem SkAt.len {w : World} {s bm : Nat} {cap tot : Int} {L : List C} (h : SkAt w s bm cap tot L) (ty : TypeId) : (Builtin.len_ #[56] ty #[.map (some bm)]).run Try.prog w = .ok (.int .i64 L.length) w := by
  obtain ⟨left, h1, h2, h3⟩ := h.map.len (t := 56) Try.underlying56
  have := (list_of_rel h.keys h1 h2).length_eq
  rw [List.length_map] at this
  rw [this]
  exact h3 ty

theorem two_cell (W : World) (x y : Value) (t : TypeId) : (W.alloc (.cells #[x, y] t)).cell? ⟨W.heap.size, 0, none⟩ = some x ∧ (W.alloc (.cells #[x, y] t)).cell? ⟨W.heap.size, 1, none⟩ = some y ∧ ∀ o, (W.alloc (.cells #[x, y] t)).frozen? ⟨W.heap.size, o, none⟩ = false := by
  have hh : (W.alloc (.cells #[x, y] t)).heap[W.heap.size]? = some (.cells #[x, y] t) := World.alloc_heap_new _ _
  refine ⟨?_, ?_, fun o => ?_⟩
  · unfold World.cell?; simp only [hh]; rfl
  · unfold World.cell?; simp only [hh]; rfl
  · unfold World.frozen?; simp only [hh]; simp

def PutPost (w : World) (s bm : Nat) (cap tot : Int) (L : List C) (x : C) (e : Ending) (w' : World) : Prop :=
  e = .returned (.tuple #[]) ∧ SkAt w' s bm cap (tot + (x.hi - hiOf L x.key)) (putC L x) ∧ Keep (fun k => k = s ∨ k = bm) w w' ∧
    ∀ r left, Ranging Try.prog 9 w bm r (CRel L) left → (∀ p ∈ left, p.1 ≠ .string x.key) → (∃ y ∈ L, y.key = x.key) → r ≠ s → Ranging Try.prog 9 w' bm r (CRel (putC L x)) left

set_option maxRecDepth 100000 in
set_option maxHeartbeats 2000000 in
theorem put_sk {w : World} {s bm : Nat} {cap tot : Int} {L : List C} (h : SkAt w s bm cap tot L) (x : C) (hk : x.key.size ≤ maxLen) (h1 : -4611686018427387904 ≤ x.hi - hiOf L x.key ∧ x.hi - hiOf L x.key ≤ 4611686018427387904) (h2 : 0 ≤ tot ∧ tot ≤ 4611686018427387903) :
    Calls Try.prog 32 #[ptr s, .string x.key, bnd x.lo x.hi] w (PutPost w s bm cap tot L x) := by
  obtain ⟨b0, b1, bf⟩ := two_cell w (.int .i64 x.lo) (.int .i64 x.hi) 60
  have ks := (Keep.refl (fun _ => False) w).alloc (.cells #[.int .i64 x.lo, .int .i64 x.hi] 60)
  have hs := h.keep ks (fun h => h) (fun h => h)
  have H := Lib.hid h
  have HKS := Lib.hid ks
  have hsw := h.lt.1
  have hbw := h.lt.2
  clear h ks
  go_enter Try.func32, Try.ntmps32
  go_wp2_with fail
  have hws : (w.alloc (.cells #[.int .i64 x.lo, .int .i64 x.hi] 60)).heap.size = w.heap.size + 1 := by simp
  generalize w.alloc (.cells #[.int .i64 x.lo, .int .i64 x.hi] 60) = W at *
  have b0' : W.drew.cell? ⟨w.heap.size, 0, none⟩ = some (.int .i64 x.lo) := b0
  have b1' : W.drew.cell? ⟨w.heap.size, 1, none⟩ = some (.int .i64 x.hi) := b1
  have c1' : W.drew.cell? ⟨s, 1, none⟩ = some (.int .i64 tot) := hs.c1
  have c2' : W.drew.cell? ⟨s, 2, none⟩ = some (.map (some bm)) := hs.c2
  have fz := hs.fz 1
  have lk := look_one (w := W.drew) (hs.map.of_heap rfl) hk
  have fd := field_hi (loOf L x.key) (hiOf L x.key) W.drew
  have HS := Lib.hid hs
  have HB := Lib.hid (And.intro b0 (And.intro b1 bf))
  have HLT := Lib.hid (And.intro hsw hbw)
  have HWS := Lib.hid hws
  clear hs b0 b1 bf hsw hbw hws
  refine wp_region_still_tail 17 (by kernel_rfl) (by kernel_rfl) ?_
  simp only [List.take_succ_cons, List.take_zero, List.drop_succ_cons, List.drop_zero]
  change wpStill _ _ W.drew _ _ _
  iterate 17 still_step
  refine wpStill_nil ?_
  go_wp2_with fail
  clear lk fd c1' c2' b0' b1' fz
  have hne := HS.out.ne
  have kset : Keep (fun k => k = s) W (W.setCell ⟨s, 1, none⟩ (.int .i64 (tot + (x.hi - hiOf L x.key)))).drew := ((Keep.refl (fun k => k = s) W).setCell _ (.inl rfl)).drew
  have g0 : (W.setCell ⟨s, 1, none⟩ (.int .i64 (tot + (x.hi - hiOf L x.key)))).drew.cell? ⟨s, 0, none⟩ = some (.int .i64 cap) := (cell_set_off (by decide)).trans HS.out.c0
  have g1 : (W.setCell ⟨s, 1, none⟩ (.int .i64 (tot + (x.hi - hiOf L x.key)))).drew.cell? ⟨s, 1, none⟩ = some (.int .i64 (tot + (x.hi - hiOf L x.key))) := cell_set_same HS.out.c1
  have g2 : (W.setCell ⟨s, 1, none⟩ (.int .i64 (tot + (x.hi - hiOf L x.key)))).drew.cell? ⟨s, 2, none⟩ = some (.map (some bm)) := (cell_set_off (by decide)).trans HS.out.c2
  have gf : ∀ o, (W.setCell ⟨s, 1, none⟩ (.int .i64 (tot + (x.hi - hiOf L x.key)))).drew.frozen? ⟨s, o, none⟩ = false := fun o => (World.frozen?_setCell _ _ _ _).trans (HS.out.fz o)
  have gm : MapRel Try.prog 9 (W.setCell ⟨s, 1, none⟩ (.int .i64 (tot + (x.hi - hiOf L x.key)))).drew bm (CRel L) := HS.out.map.of_heap (heap_set_ne (Ne.symm hne))
  have gb0 := kset.cell HB.out.1 (by have := HLT.out.1; omega)
  have gb1 := kset.cell HB.out.2.1 (by have := HLT.out.1; omega)
  generalize (W.setCell ⟨s, 1, none⟩ (.int .i64 (tot + (x.hi - hiOf L x.key)))).drew = V at *
  obtain ⟨es', cl', hup, hmr⟩ := (gm.of_heap (w' := V.drew) rfl).update (t := 56) strKeyed Try.underlying56 (keyStr hk) (bnd x.lo x.hi)
  have gb0' : V.drew.cell? ⟨w.heap.size, 0, none⟩ = some (.int .i64 x.lo) := gb0
  have gb1' : V.drew.cell? ⟨w.heap.size, 1, none⟩ = some (.int .i64 x.hi) := gb1
  have g2' : V.drew.cell? ⟨s, 2, none⟩ = some (.map (some bm)) := g2
  have HG := Lib.hid (And.intro g0 (And.intro g1 (And.intro g2 (And.intro gf (And.intro gm (And.intro kset (And.intro hmr (And.intro hne hup))))))))
  clear g0 g1 g2 gf gm kset gb0 gb1 hmr hne
  refine wp_region_still_tail 6 (by kernel_rfl) (by kernel_rfl) ?_
  simp only [List.take_succ_cons, List.take_zero, List.drop_succ_cons, List.drop_zero]
  change wpStill _ _ V.drew _ _ _
  iterate 6 still_step
  refine wpStill_nil ?_
  go_wp2_with fail
  refine bodyPost_ret (results_none rfl _ _ _) rfl ?_
  obtain ⟨g0, g1, g2, gf, gm, kset, hmr, hne, hup⟩ := HG.out
  have kput := (Keep.refl (fun k => k = bm) V.drew).putObj (b := bm) (.map es' cl') (.inl rfl)
  have kk : Keep (fun k => k = s ∨ k = bm) w (V.drew.putObj bm (.map es' cl')) := ((HKS.out.mono (fun _ h => h.elim)).trans ((kset.mono (fun _ h => .inl h)).drew)).trans (kput.mono (fun _ h => .inr h))
  refine ⟨rfl, ⟨kput.cell g0 hne, kput.cell g1 hne, kput.cell g2 hne, fun o => (frozen_put hne).trans (gf o), hmr.congr (fun k v => CRel.put k v), putC_keys H.out.keys x, fun y hy => ?_⟩, kk, fun r left hr hl hy hrs => ?_⟩
  · rcases List.mem_cons.1 hy with rfl | hy
    · exact hk
    · exact H.out.ks y (mem_delC.1 hy).1
  · obtain ⟨y, hy, hyk⟩ := hy
    have hrw := hr.lt.1
    have hr2 : Ranging Try.prog 9 V.drew bm r (CRel L) left := hr.of_heap ((kset.drew.block _ (by have := HLT.out.2; have := HWS.out; omega) (fun e => hne e.symm)).trans (HKS.out.block _ HLT.out.2 (fun h => h))) ((kset.drew.block _ (by have := HWS.out; omega) hrs).trans (HKS.out.block _ hrw (fun h => h)))
    have := hr2.update strKeyed Try.underlying56 (keyStr hk) (bnd x.lo x.hi) (v0 := bnd y.lo y.hi) ⟨y, hy, by rw [hyk], rfl⟩ hl hup
    obtain ⟨es, clock, since, seen, c0, a1, a2, a3, a4, a5⟩ := this
    exact ⟨es, clock, since, seen, c0, a1, a2, a3, fun k v => (CRel.put k v).trans (a4 k v), a5⟩
end Go.Proofs.Ytogkkghliogpeaa
