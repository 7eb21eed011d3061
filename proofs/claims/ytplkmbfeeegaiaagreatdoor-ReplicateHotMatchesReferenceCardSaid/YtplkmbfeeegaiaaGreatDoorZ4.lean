/-
  Several texts in one, each under its own heading below (merged by a program of ours): the contracts of the functions that the law reaches, part 4 of 6.
-/
import Derived.Test.YtplkmbfeeegaiaaGreatDoorZ1
import Derived.Test.YtplkmbfeeegaiaaGreatDoorZ2
import Derived.Test.YtplkmbfeeegaiaaGreatDoorZ3
import Derived.Lib.ItoaLen
import Derived.Lib.LaidTab
import Derived.Shelf.LaysM

/-
  last.
-/
namespace Go.Proofs.YtplkmbfeeegaiaaGreatDoor.Sk
open Go.RowKit

/-- The sketch at s: its capacity, its total, its counters. -/
structure SkAt (w : World) (s bm : Nat) (cap tot : Int) (L : List C) : Prop where
  c0 : w.cell? ⟨s, 0, none⟩ = some (.int .i64 cap)
  c1 : w.cell? ⟨s, 1, none⟩ = some (.int .i64 tot)
  c2 : w.cell? ⟨s, 2, none⟩ = some (.map (some bm))
  fz : ∀ o, w.frozen? ⟨s, o, none⟩ = false
  map : MapRel Tryz.prog 9 w bm (CRel L)
  keys : (L.map C.key).Nodup
  ks : ∀ x ∈ L, x.key.size ≤ maxLen

theorem SkAt.ne {w : World} {s bm : Nat} {cap tot : Int} {L : List C} (h : SkAt w s bm cap tot L) : s ≠ bm := h.map.not_cell h.c0
theorem SkAt.lt {w : World} {s bm : Nat} {cap tot : Int} {L : List C} (h : SkAt w s bm cap tot L) : s < w.heap.size ∧ bm < w.heap.size := ⟨World.block_lt_of_cell? _ _ h.c0, h.map.lt⟩
theorem SkAt.keep {w w' : World} {s bm : Nat} {cap tot : Int} {L : List C} {A : Nat → Prop} (h : SkAt w s bm cap tot L) (k : Keep A w w') (h1 : ¬ A s) (h2 : ¬ A bm) : SkAt w' s bm cap tot L :=
  ⟨k.cell h.c0 h1, k.cell h.c1 h1, k.cell h.c2 h1, fun o => (World.frozen?_of_block (w := w) (a := ⟨s, o, none⟩) (k.block _ h.lt.1 h1)).trans (h.fz o), h.map.of_heap (k.block _ h.lt.2 h2), h.keys, h.ks⟩


theorem compare_sk {w : World} {s bm : Nat} {cap tot : Int} {L : List C} (h : SkAt w s bm cap tot L) (a b : ByteArray) (ha : a.size ≤ maxLen) (hb : b.size ≤ maxLen) :
    Calls Tryz.prog 124 #[ptr s, .string a, .string b] w fun e w' => e = .returned (.int .i64 (cmpK L a b)) ∧ Keep (fun _ => False) w w' :=
  (compare_any s bm L a b w h.c2 h.map ha hb).mono fun _ _ ⟨h1, h2⟩ => ⟨h1, by rw [h2]; exact ((Keep.refl _ w).alloc _).drewN 1⟩

set_option maxRecDepth 100000 in
set_option maxHeartbeats 400000 in
theorem later_first (key : ByteArray) (bf bs bo : Nat) (w : World) (hf : w.cell? ⟨bf, 0, none⟩ = some (.bool true)) :
    Calls Tryz.prog 123 #[.string key, ptr bf, ptr bs, ptr bo] w fun e w' => e = .returned (.bool true) ∧ Keep (fun _ => False) w w' := by
  go_enter Tryz.func123, Tryz.ntmps123
  go_wp2_with fail
  go_ret
  exact ⟨rfl, Keep.refl _ _⟩
set_option maxRecDepth 100000 in
set_option maxHeartbeats 400000 in
theorem later_more {w : World} {s bm : Nat} {cap tot : Int} {L : List C} (h : SkAt w s bm cap tot L) (key out : ByteArray) (bf bs bo : Nat) (hf : w.cell? ⟨bf, 0, none⟩ = some (.bool false)) (hs : w.cell? ⟨bs, 0, none⟩ = some (ptr s)) (ho : w.cell? ⟨bo, 0, none⟩ = some (.string out)) (hk : key.size ≤ maxLen) (hok : out.size ≤ maxLen) :
    Calls Tryz.prog 123 #[.string key, ptr bf, ptr bs, ptr bo] w fun e w' => e = .returned (.bool (decide (0 < cmpK L key out))) ∧ Keep (fun _ => False) w w' := by
  have H := Lib.hid h
  clear h
  go_enter Tryz.func123, Tryz.ntmps123
  go_wp2_with fail
  with_reducible refine (compare_sk H.out key out hk hok).mono ?_
  rintro e w' ⟨rfl, k⟩
  have K := Lib.hid k
  clear k
  go_wp2_with fail
  go_ret
  exact ⟨rfl, K.out⟩

/-- out is the last one of the counters S. -/
def IsLast (L S : List C) (out : ByteArray) : Prop := out ∈ S.map C.key ∧ ∀ x ∈ S, cmpK L x.key out ≤ 0

def encC (x : C) : Value × Value := (.string x.key, bnd x.lo x.hi)

/-- The loop of last: S has been seen, l is to come. -/
structure LastR (w : World) (s bm r : Nat) (cap tot : Int) (L S l : List C) (wr : World) : Prop where
  k : Keep (fun _ => False) w wr
  rg : Ranging Tryz.prog 9 wr bm r (CRel L) (l.map encC)
  pm : L.Perm (S ++ l)
  bs : wr.cell? ⟨w.heap.size, 0, none⟩ = some (ptr s)
  bo : ∃ out, wr.cell? ⟨w.heap.size + 1, 0, none⟩ = some (.string out) ∧ out.size ≤ maxLen ∧ (S ≠ [] → IsLast L S out)
  bf : wr.cell? ⟨w.heap.size + 2, 0, none⟩ = some (.bool S.isEmpty)
  fo : wr.frozen? ⟨w.heap.size + 1, 0, none⟩ = false
  ff : wr.frozen? ⟨w.heap.size + 2, 0, none⟩ = false

def LastPost (w : World) (L : List C) (e : Ending) (w' : World) : Prop := ∃ out, e = .returned (.string out) ∧ Keep (fun _ => False) w w' ∧ (L ≠ [] → IsLast L L out) ∧ out.size ≤ maxLen

theorem encC_key {x : C} {k v : Value} (h : encC x = (k, v)) : k = .string x.key ∧ v = bnd x.lo x.hi := by
  unfold encC at h
  cases h
  exact ⟨rfl, rfl⟩

abbrev lastW (w : World) (s : Nat) : World := ((w.alloc (.cells #[ptr s] 56)).alloc (.cells #[.string ⟨#[]⟩] 9)).alloc (.cells #[.bool true] 4)

theorem perm_of_mem {α : Type} : ∀ {A B : List α}, A.Nodup → B.Nodup → (∀ x, x ∈ A ↔ x ∈ B) → A.Perm B
  | [], B, _, _, h => by
    cases B with
    | nil => exact List.Perm.refl _
    | cons b r => exact absurd ((h b).2 (by simp)) (by simp)
  | a :: A, B, hA, hB, h => by
    obtain ⟨X, Y, rfl⟩ := List.append_of_mem ((h a).1 (by simp))
    rw [List.nodup_cons] at hA
    have hp : (X ++ a :: Y).Perm (a :: (X ++ Y)) := List.perm_middle
    have hB' := hp.nodup_iff.1 hB
    rw [List.nodup_cons] at hB'
    refine (List.Perm.cons a (perm_of_mem hA.2 hB'.2 (fun x => ?_))).trans hp.symm
    have h1 := h x
    rw [hp.mem_iff] at h1
    simp only [List.mem_cons] at h1
    constructor
    · intro hx
      rcases h1.1 (.inr hx) with e | e
      · subst e; exact absurd hx hA.1
      · exact e
    · intro hx
      rcases h1.2 (.inr hx) with e | e
      · subst e; exact absurd hx hB'.1
      · exact e

/-- A nodup list that reads as the counters is a permutation of them. -/
theorem list_of_rel {L : List C} (hn : (L.map C.key).Nodup) {left : List (Value × Value)} (h1 : (left.map (·.1)).Nodup) (h2 : ∀ k v, (k, v) ∈ left ↔ CRel L k v) : (L.map encC).Perm left := by
  have nd1 : left.Nodup := by
    have : ∀ (l : List (Value × Value)), (l.map (·.1)).Nodup → l.Nodup := by
      intro l
      induction l with
      | nil => intro _; exact List.nodup_nil
      | cons a r ih =>
        intro h
        rw [List.map_cons, List.nodup_cons] at h
        exact List.nodup_cons.2 ⟨fun hm => h.1 (List.mem_map_of_mem hm), ih h.2⟩
    exact this _ h1
  have nd2 : (L.map encC).Nodup := by
    have : ∀ (l : List C), (l.map C.key).Nodup → (l.map encC).Nodup := by
      intro l
      induction l with
      | nil => intro _; exact List.nodup_nil
      | cons a r ih =>
        intro h
        rw [List.map_cons, List.nodup_cons] at h ⊢
        refine ⟨fun hm => h.1 ?_, ih h.2⟩
        obtain ⟨y, hy, e⟩ := List.mem_map.1 hm
        unfold encC at e
        injection e with e1 e2
        rw [← Value.string.inj e1]
        exact List.mem_map_of_mem hy
    exact this _ hn
  refine perm_of_mem nd2 nd1 (fun p => ?_)
  obtain ⟨k, v⟩ := p
  rw [h2, List.mem_map]
  constructor
  · rintro ⟨x, hx, e⟩
    obtain ⟨e1, e2⟩ := encC_key e
    exact ⟨x, hx, e1, e2⟩
  · rintro ⟨x, hx, e1, e2⟩
    exact ⟨x, hx, by rw [e1, e2]; rfl⟩

theorem new_cell (W : World) (v : Value) (t : TypeId) : (W.alloc (.cells #[v] t)).cell? ⟨W.heap.size, 0, none⟩ = some v ∧ (W.alloc (.cells #[v] t)).frozen? ⟨W.heap.size, 0, none⟩ = false := by
  have hh : (W.alloc (.cells #[v] t)).heap[W.heap.size]? = some (.cells #[v] t) := World.alloc_heap_new _ _
  constructor
  · unfold World.cell?; simp only [hh]; rfl
  · unfold World.frozen?; simp only [hh]; simp

theorem LastR.begin {w : World} {s bm : Nat} {cap tot : Int} {L : List C} {ob : Obj} (rg : Ranging Tryz.prog 9 ((lastW w s).alloc ob) bm (lastW w s).heap.size (CRel L) (L.map encC)) :
    LastR w s bm (lastW w s).heap.size cap tot L [] L ((lastW w s).alloc ob) := by
  have n1 := new_cell w (ptr s) 56
  have n2 := new_cell (w.alloc (.cells #[ptr s] 56)) (.string ⟨#[]⟩) 9
  have n3 := new_cell ((w.alloc (.cells #[ptr s] 56)).alloc (.cells #[.string ⟨#[]⟩] 9)) (.bool true) 4
  have e2 : (w.alloc (.cells #[ptr s] 56)).heap.size = w.heap.size + 1 := by simp
  have e3 : ((w.alloc (.cells #[ptr s] 56)).alloc (.cells #[.string ⟨#[]⟩] 9)).heap.size = w.heap.size + 2 := by simp
  rw [e2] at n2
  rw [e3] at n3
  have k1 : Keep (fun _ => False) (w.alloc (.cells #[ptr s] 56)) ((lastW w s).alloc ob) := (((Keep.refl _ _).alloc _).alloc _).alloc _
  have k2 : Keep (fun _ => False) ((w.alloc (.cells #[ptr s] 56)).alloc (.cells #[.string ⟨#[]⟩] 9)) ((lastW w s).alloc ob) := ((Keep.refl _ _).alloc _).alloc _
  have k3 : Keep (fun _ => False) (lastW w s) ((lastW w s).alloc ob) := (Keep.refl _ _).alloc _
  exact ⟨((((Keep.refl _ w).alloc _).alloc _).alloc _).alloc _, rg, List.Perm.refl _, k1.cell n1.1 (fun h => h), ⟨_, k2.cell n2.1 (fun h => h), by unfold maxLen; simp [ByteArray.size], fun h => absurd rfl h⟩, k3.cell n3.1 (fun h => h),
    (k2.frozen (by rw [e3]; omega) (fun h => h) 0).trans n2.2, (k3.frozen (World.block_lt_of_cell? _ _ n3.1) (fun h => h) 0).trans n3.2⟩

theorem perm_step {L S X Y : List C} {x : C} (h : L.Perm (S ++ (X ++ x :: Y))) : L.Perm ((S ++ [x]) ++ (X ++ Y)) := by
  refine h.trans ?_
  rw [List.append_assoc]
  exact List.Perm.append_left S List.perm_middle

/-- A later one has come: it is kept. -/
theorem LastR.put {w : World} {s bm : Nat} {cap tot : Int} {L S X Y : List C} {x : C} {w2 : World} (hs : SkAt w s bm cap tot L) (k : Keep (fun _ => False) w w2) (rg : Ranging Tryz.prog 9 w2 bm (w.heap.size + 1 + 1 + 1) (CRel L) ((X ++ Y).map encC)) (pm : L.Perm (S ++ (X ++ x :: Y)))
    (bs : w2.cell? ⟨w.heap.size, 0, none⟩ = some (ptr s)) {u v : Value} (bo : w2.cell? ⟨w.heap.size + 1, 0, none⟩ = some u) (bf : w2.cell? ⟨w.heap.size + 1 + 1, 0, none⟩ = some v) (fo : w2.frozen? ⟨w.heap.size + 1, 0, none⟩ = false) (ff : w2.frozen? ⟨w.heap.size + 1 + 1, 0, none⟩ = false) (hl : IsLast L (S ++ [x]) x.key) :
    LastR w s bm (w.heap.size + 1 + 1 + 1) cap tot L (S ++ [x]) (X ++ Y) ((w2.setCell ⟨w.heap.size + 1, 0, none⟩ (.string x.key)).setCell ⟨w.heap.size + 1 + 1, 0, none⟩ (.bool false)) := by
  have hbm := hs.lt.2
  have e : ∀ i, i ≠ w.heap.size + 1 → i ≠ w.heap.size + 1 + 1 → ((w2.setCell ⟨w.heap.size + 1, 0, none⟩ (.string x.key)).setCell ⟨w.heap.size + 1 + 1, 0, none⟩ (.bool false)).heap[i]? = w2.heap[i]? := fun i h1 h2 => by
    rw [heap_set_ne (by simpa using h2), heap_set_ne (by simpa using h1)]
  refine ⟨(k.setCell _ (.inr (show w.heap.size ≤ w.heap.size + 1 by omega))).setCell _ (.inr (show w.heap.size ≤ w.heap.size + 1 + 1 by omega)), rg.of_heap (e _ (by omega) (by omega)) (e _ (by omega) (by omega)), perm_step pm, ?_, ⟨x.key, ?_, hs.ks x (pm.mem_iff.2 (by simp)), fun _ => hl⟩, ?_, ?_, ?_⟩
  · rw [cell_set_blk (by omega), cell_set_blk (by omega)]; exact bs
  · rw [cell_set_blk (by omega)]; exact cell_set_same bo
  · have : (S ++ [x]).isEmpty = false := by cases S <;> rfl
    rw [this]
    exact cell_set_same (by rw [cell_set_blk (by omega)]; exact bf)
  · rw [World.frozen?_setCell, World.frozen?_setCell]; exact fo
  · rw [World.frozen?_setCell, World.frozen?_setCell]; exact ff

set_option maxRecDepth 100000 in
set_option maxHeartbeats 400000 in
theorem last_sk {w : World} {s bm : Nat} {cap tot : Int} {L : List C} (h : SkAt w s bm cap tot L) : Calls Tryz.prog 88 #[ptr s] w (LastPost w L) := by
  have k3 : Keep (fun _ => False) w (lastW w s) := (((Keep.refl _ w).alloc _).alloc _).alloc _
  have h3 := h.keep k3 (fun h => h) (fun h => h)
  have hc2 := h3.c2
  obtain ⟨ob, left, hrun, hrg, hnd, hmem⟩ := h3.map.range (t := 109) Tryz.underlying109
  have hrg' := hrg.perm (list_of_rel h.keys hnd hmem).symm
  have HR : Hid (LastR w s bm (lastW w s).heap.size cap tot L [] L ((lastW w s).alloc ob)) := Lib.hid (LastR.begin hrg')
  have HSZ : Hid ((lastW w s).heap.size = w.heap.size + 1 + 1 + 1) := Lib.hid (by simp)
  have H := Lib.hid h
  clear h h3 hrg hrg' hnd hmem k3
  go_enter Tryz.func88, Tryz.ntmps88
  go_wp2_with fail
  generalize (lastW w s).alloc ob = W4 at *
  rw [HSZ.out] at HR
  clear hrun hc2 HSZ
  go_loopw [5] (fun _ wr => ∃ S l, LastR w s bm (w.heap.size + 1 + 1 + 1) cap tot L S l wr) (fun _ wr => wr.rangeLeft bm (w.heap.size + 1 + 1 + 1))
  case atStart => exact ⟨[], L, HR.out⟩
  case round =>
    obtain ⟨S, l, hr⟩ := hrel
    obtain ⟨out, hbo, hok, hlast⟩ := hr.bo
    have HLA := Lib.hid hlast
    have HRR := Lib.hid hr
    have hbs := hr.bs
    have hbf := hr.bf
    clear hlast
    rcases hr.rg.next 0 with ⟨h0, hrun⟩ | ⟨k, v, left', w', hp, hR, hrun, hrg', kk, hsz, hen⟩
    · have hl : l = [] := by simpa using h0
      subst hl
      have hfo := hr.fo
      have HF : Hid (∀ e w', e = Ending.returned (.string out) → Keep (fun _ => False) w w' → LastPost w L e w') := Lib.hid (fun e w' he hk => ⟨out, he, hk, fun hL => by
        have hpm := hr.pm
        rw [List.append_nil] at hpm
        have hS : S ≠ [] := fun h => by rw [h] at hpm; exact hL (List.perm_nil.1 hpm)
        obtain ⟨h1, h2⟩ := HLA.out hS
        exact ⟨(hpm.map C.key).mem_iff.2 h1, fun x hx => h2 x (hpm.mem_iff.1 hx)⟩, hok⟩)
      have HKK := Lib.hid hr.k
      clear hr hbs hbf h0
      go_wp2_with fail
      have hcell : (wr.setCell ⟨w.heap.size + 1, 0, none⟩ (.string out)).cell? ⟨w.heap.size + 1, 0, none⟩ = some (.string out) := cell_set_same hbo
      exact bodyPost_ret (v := .string out) (by simp [results, Tryz.results88, go_sem, hcell]) rfl (HF.out _ _ rfl (HKK.out.setCell _ (.inr (by simp))))
    · obtain ⟨x, hxl, hxe⟩ := List.mem_map.1 (hp.mem_iff.2 (List.mem_cons_self))
      obtain ⟨rfl, rfl⟩ := encC_key hxe
      obtain ⟨X, Y, rfl⟩ := List.append_of_mem hxl
      have hp2 : ((X ++ Y).map encC).Perm left' := by
        have h1 : ((X ++ x :: Y).map encC).Perm (encC x :: (X ++ Y).map encC) := (List.perm_middle).map encC
        have h2 := h1.symm.trans hp
        exact List.Perm.cons_inv h2
      have hrg2 := hrg'.perm hp2.symm
      have HRG := Lib.hid hrg2
      have HKK := Lib.hid kk
      have HHK := Lib.hid (H.out.ks x (hr.pm.mem_iff.2 (by simp)))
      have nr : ∀ i, i < w.heap.size + 1 + 1 + 1 → ¬ i = w.heap.size + 1 + 1 + 1 := fun i hi => by omega
      replace hbs := kk.cell hbs (nr _ (by omega))
      replace hbf := kk.cell hbf (nr _ (by omega))
      replace hbo := kk.cell hbo (nr _ (by omega))
      have HFO : Hid (w'.frozen? ⟨w.heap.size + 1, 0, none⟩ = false) := Lib.hid ((World.frozen?_of_block (w := wr) (a := ⟨w.heap.size + 1, 0, none⟩) (kk.block _ (World.block_lt_of_cell? _ _ HRR.out.bo.choose_spec.1) (nr (w.heap.size + 1) (by omega)))).trans hr.fo)
      have HFF : Hid (w'.frozen? ⟨w.heap.size + 2, 0, none⟩ = false) := Lib.hid ((World.frozen?_of_block (w := wr) (a := ⟨w.heap.size + 2, 0, none⟩) (kk.block _ (World.block_lt_of_cell? _ _ hr.bf) (nr (w.heap.size + 2) (by omega)))).trans hr.ff)
      have HKW : Hid (Keep (fun _ => False) w w') := Lib.hid (hr.k.trans' kk (fun i hi => .inr (by omega)))
      clear hp hp2 hrg' hrg2 hxl hxe hR kk
      clear hr
      have hbf' : w'.cell? ⟨w.heap.size + 1 + 1, 0, none⟩ = some (.bool S.isEmpty) := hbf
      cases hS : S.isEmpty with
      | true =>
        rw [hS] at hbf' hbf
        go_wp2_with fail
        with_reducible refine (later_first _ _ _ _ _ hbf').mono ?_
        rintro e w2 ⟨rfl, k2⟩
        have hbo2 := k2.cell hbo (fun h => h)
        have hbf2 := k2.cell hbf' (fun h => h)
        have hfo2 : w2.frozen? ⟨w.heap.size + 1, 0, none⟩ = false := (World.frozen?_of_block (w := w') (a := ⟨w.heap.size + 1, 0, none⟩) (k2.block _ (World.block_lt_of_cell? _ _ hbo) (fun h => h))).trans HFO.out
        have hff2 : w2.frozen? ⟨w.heap.size + 1 + 1, 0, none⟩ = false := (World.frozen?_of_block (w := w') (a := ⟨w.heap.size + 2, 0, none⟩) (k2.block _ (World.block_lt_of_cell? _ _ hbf) (fun h => h))).trans HFF.out
        have hS0 : S = [] := by simpa using hS
        have HPUT := Lib.hid (LastR.put H.out (HKW.out.trans k2) (HRG.out.of_heap (k2.block _ HRG.out.lt.2.1 (fun h => h)) (k2.block _ HRG.out.lt.1 (fun h => h))) HRR.out.pm (k2.cell hbs (fun h => h)) hbo2 hbf2 hfo2 hff2 (by rw [hS0]; exact ⟨by simp, fun y hy => by rw [List.nil_append, List.mem_singleton] at hy; rw [hy, cmpK_zero.2 rfl]; decide⟩))
        go_wp2_with fail
        go_roundw
        case rel => exact ⟨S ++ [x], X ++ Y, HPUT.out⟩
        case measure => rw [HPUT.out.rg.left_eq, HRR.out.rg.left_eq]; simp
      | false =>
        rw [hS] at hbf' hbf
        have hS0 : S ≠ [] := fun h => by rw [h] at hS; cases hS
        obtain ⟨hla1, hla2⟩ := HLA.out hS0
        have HL1 := Lib.hid hla1
        have HL2 := Lib.hid hla2
        have HSW := Lib.hid (H.out.keep HKW.out (fun h => h) (fun h => h))
        clear hla1 hla2
        go_wp2_with fail
        with_reducible refine (later_more HSW.out _ out _ _ _ hbf' hbs hbo HHK.out hok).mono ?_
        rintro e w2 ⟨rfl, k2⟩
        have hbo2 := k2.cell hbo (fun h => h)
        have hbf2 := k2.cell hbf' (fun h => h)
        have hfo2 : w2.frozen? ⟨w.heap.size + 1, 0, none⟩ = false := (World.frozen?_of_block (w := w') (a := ⟨w.heap.size + 1, 0, none⟩) (k2.block _ (World.block_lt_of_cell? _ _ hbo) (fun h => h))).trans HFO.out
        have hff2 : w2.frozen? ⟨w.heap.size + 1 + 1, 0, none⟩ = false := (World.frozen?_of_block (w := w') (a := ⟨w.heap.size + 2, 0, none⟩) (k2.block _ (World.block_lt_of_cell? _ _ hbf) (fun h => h))).trans HFF.out
        have HRG2 := Lib.hid (HRG.out.of_heap (k2.block _ HRG.out.lt.2.1 (fun h => h)) (k2.block _ HRG.out.lt.1 (fun h => h)))
        have HK2 := Lib.hid (HKW.out.trans k2)
        have hbs2 := k2.cell hbs (fun h => h)
        by_cases hpos : 0 < cmpK L x.key out
        · have hdec : decide (0 < cmpK L x.key out) = true := by simpa using hpos
          have HPUT := Lib.hid (LastR.put H.out HK2.out HRG2.out HRR.out.pm hbs2 hbo2 hbf2 hfo2 hff2 ⟨by simp, fun y hy => by
            rcases List.mem_append.1 hy with hy | hy
            · have h1 := HL2.out y hy
              apply Classical.byContradiction
              intro h2
              have h3 := cmpK_pos.1 (show 0 < cmpK L y.key x.key by omega)
              have h4 := cmpK_pos.2 ((cmpK_pos.1 hpos).trans h3)
              omega
            · rw [List.mem_singleton] at hy; rw [hy, cmpK_zero.2 rfl]; decide⟩)
          rw [hdec]
          clear hdec hpos
          go_wp2_with fail
          go_roundw
          case rel => exact ⟨S ++ [x], X ++ Y, HPUT.out⟩
          case measure => rw [HPUT.out.rg.left_eq, HRR.out.rg.left_eq]; simp
        · have hdec : decide (0 < cmpK L x.key out) = false := by simpa using hpos
          have HSK : Hid (LastR w s bm (w.heap.size + 1 + 1 + 1) cap tot L (S ++ [x]) (X ++ Y) w2) := Lib.hid ⟨HK2.out, HRG2.out, perm_step HRR.out.pm, hbs2, ⟨out, hbo2, hok, fun _ => ⟨by rw [List.map_append]; exact List.mem_append_left _ HL1.out, fun y hy => by
            rcases List.mem_append.1 hy with hy | hy
            · exact HL2.out y hy
            · rw [List.mem_singleton] at hy; rw [hy]; omega⟩⟩, by rw [show (S ++ [x]).isEmpty = false by cases S <;> rfl]; exact hbf2, hfo2, hff2⟩
          rw [hdec]
          clear hdec hpos
          go_wp2_with fail
          go_roundw
          case rel => exact ⟨S ++ [x], X ++ Y, HSK.out⟩
          case measure => rw [HSK.out.rg.left_eq, HRR.out.rg.left_eq]; simp
end Go.Proofs.YtplkmbfeeegaiaaGreatDoor.Sk

/-
  holders of package replicate.
-/
namespace Go.Proofs.YtplkmbfeeegaiaaGreatDoor
open Go.RowKit Go.Shelf

set_option maxRecDepth 100000 in
set_option maxHeartbeats 8000000 in
theorem holders_any (v : Value) (ep : Int) (l : List Mb) (ow : List Int) (key : ByteArray) (n : Int) (w : World) (h : Rng w v ep l ow) (hk : key.size ≤ 1000) (hT : Tab w) : Calls Tryz.prog 81 #[v, .string key, .int .i64 n] w (HoldPost w (holdV ep l ow key n)) := by
  have HRG := Lib.hid h
  have HT := Lib.hid hT
  have HGN : Hid (0 < w.heap.size) := Lib.hid (World.block_lt_of_cell? _ _ (hT 0 (by decide)))
  obtain ⟨hb0, vm, vo, rfl, hm0, ho0⟩ := h
  obtain ⟨hmn, hmb, ma, mc, mb, mo, rfl, hmc, hma, hmcell⟩ := hm0
  obtain ⟨oa, on, oc, rfl⟩ : ∃ a n c, vo = .slice a n c := by obtain ⟨a, c, b, off, h, _⟩ := ho0.at_; exact ⟨_, _, _, h⟩
  obtain ⟨xs, hxs⟩ : ∃ xs, holdV ep l ow key n = xs := ⟨_, rfl⟩
  rw [hxs]
  have HXS := Lib.hid hxs
  have HMC := Lib.hid hmcell
  have HMA := Lib.hid hma
  obtain ⟨ln, hln⟩ : ∃ n, l.length = n := ⟨_, rfl⟩
  have HLN := Lib.hid hln
  rw [hln] at hmn hmc HRG HMA ⊢
  clear hxs hmcell hmb ho0 hma hln hT hb0
  have HX := Lib.hid (Box3.new w (.int .i64 ep) (.slice ma ln mc) (.slice oa on oc) 27)
  have HK0 : Hid (Keep (fun _ => False) w (w.alloc (.cells #[.int .i64 ep, .slice ma ln mc, .slice oa on oc] 27))) := Lib.hid ((Keep.refl _ w).alloc _)
  go_enter Tryz.func81, Tryz.ntmps81
  go_upto_region 1 with (fail)
  generalize w.alloc (.cells #[.int .i64 ep, .slice ma ln mc, .slice oa on oc] 27) = W0 at *
  generalize hz : w.heap.size = z at HX ⊢
  have HZ := Lib.hid hz
  clear hz
  obtain ⟨x0, x1, x2, xf⟩ := HX.out
  go_wp2_with fail
  clear x0 x1 x2 xf
  with_reducible refine (validRing_any _ ep l ow W0 (HRG.out.kept HK0.out)).mono ?_
  rintro e W1 ⟨rfl, k1⟩
  have HX1 := Lib.hid (HX.out.kept k1)
  have HK1 := Lib.hid (HK0.out.trans k1)
  clear k1 HX HK0
  cases hval : validRB ep l ow with
  | false =>
    have HE : Hid (xs = []) := Lib.hid (by rw [← HXS.out]; unfold holdV; rw [hval]; rfl)
    go_wp2_with fail
    go_ret
    exact ⟨_, rfl, by rw [HE.out]; exact Its.nil _, HK1.out⟩
  | true =>
    have HOK := Lib.hid ((validRB_iff ep l ow).1 hval)
    have HEX : Hid (xs = (if n < 1 ∨ 3 < n then [ownerOf ow key] else holdC (rkOf key) l (ownerOf ow key) n.toNat)) := Lib.hid (by rw [← HXS.out]; unfold holdV; rw [if_pos hval])
    clear HXS hval
    obtain ⟨x0, x1, x2, xf⟩ := HX1.out
    go_wp2_with fail
    clear x0 x1 x2 xf
    with_reducible refine (owner_any _ ep l ow W1 (HRG.out.kept HK1.out) key (by omega) (HT.out.kept HK1.out)).mono ?_
    rintro e W2 ⟨rfl, k2⟩
    have HX2 := Lib.hid (HX1.out.kept k2)
    have HK2 := Lib.hid (HK1.out.trans k2)
    clear k2 HX1 HK1
    have HV : Hid (VL l) := Lib.hid HOK.out.2.2.1
    have HOM : Hid (ownerOf ow key ∈ l.map Mb.node) := Lib.hid (owner_mem HOK.out key)
    have HOB : Hid (I64 (ownerOf ow key)) := Lib.hid (by
      obtain ⟨m, hm, e⟩ := List.mem_map.1 HOM.out
      have := HV.out.ok m hm
      unfold okMb at this
      rw [← e]; unfold I64; omega)
    generalize ownerOf ow key = o at *
    have HA : Hid ((W2.alloc (.cells #[.int .i64 o] 3)).ownsRow w.heap.size 3 1 (.slice (some ⟨W2.heap.size, 0, none⟩) 1 1) 1 ([o].map (fun x => Value.int .i64 x))) := Lib.hid (World.ownsRow_lit (base := w.heap.size) (e := 3) (size := 1) W2 #[.int .i64 o] 1 HK2.out.size (by decide) rfl)
    have KA1 : Keep (fun _ => False) W2 (W2.alloc (.cells #[.int .i64 o] 3)) := (Keep.refl _ W2).alloc _
    have KA2 : Keep (fun _ => False) (W2.alloc (.cells #[.int .i64 o] 3)) ((W2.alloc (.cells #[.int .i64 o] 3)).alloc (.cells #[.slice (some ⟨W2.heap.size, 0, none⟩) 1 1] 22)) := (Keep.refl _ _).alloc _
    have HN7 := Lib.hid (Sk.new_cell (W2.alloc (.cells #[.int .i64 o] 3)) (.slice (some ⟨W2.heap.size, 0, none⟩) 1 1) 22)
    rw [World.size_alloc] at HN7
    have HA3 := Lib.hid (ownsRow_keep HA.out KA2 (fun _ _ h => h))
    have HK3 := Lib.hid (HK2.out.trans (KA1.trans KA2))
    have HX3 := Lib.hid (HX2.out.kept (KA1.trans KA2))
    have HZ2 : Hid (z < W2.heap.size) := Lib.hid HX2.out.lt
    clear KA1 KA2 HA HX2
    go_upto_region 4 with (fail)
    generalize (W2.alloc (.cells #[.int .i64 o] 3)).alloc (.cells #[.slice (some ⟨W2.heap.size, 0, none⟩) 1 1] 22) = W3 at *
    generalize hs2 : W2.heap.size = s2 at *
    clear hs2
    by_cases hout : n < 1 ∨ 3 < n
    · have HE : Hid (xs = [o]) := Lib.hid (by rw [HEX.out, if_pos hout])
      have c7 := HN7.out.1
      have HIT : Hid (Its W3 (.slice (some ⟨s2, 0, none⟩) 1 1) xs) := Lib.hid (by rw [HE.out]; exact its_owns HA3.out (by simp) (by intro x hx; rw [List.mem_singleton] at hx; subst hx; exact HOB.out))
      by_cases hn1 : n < 1
      · go_wp2_with fail
        go_ret
        exact ⟨_, rfl, HIT.out, HK3.out⟩
      · have hn3 : 3 < n := by omega
        go_wp2_with fail
        go_ret
        exact ⟨_, rfl, HIT.out, HK3.out⟩
    · obtain ⟨nn, rfl⟩ : ∃ q : Nat, n = q := ⟨n.toNat, by omega⟩
      have HE : Hid (xs = holdC (rkOf key) l o nn) := Lib.hid (by rw [HEX.out, if_neg hout, Int.toNat_natCast])
      have hn1 : ¬ (nn : Int) < 1 := by omega
      have hn3 : ¬ 3 < (nn : Int) := by omega
      have hnn : nn ≤ 3 := by omega
      clear hout HEX
      have KM1 : Keep (fun _ => False) W3 (W3.alloc (.map #[] 0)) := (Keep.refl _ W3).alloc _
      have KM2 : Keep (fun _ => False) (W3.alloc (.map #[] 0)) ((W3.alloc (.map #[] 0)).alloc (.cells #[.map (some W3.heap.size)] 148)) := (Keep.refl _ _).alloc _
      have HMB := Lib.hid ((MapB.made W3).kept KM2)
      have HN9 := Lib.hid (Sk.new_cell (W3.alloc (.map #[] 0)) (.map (some W3.heap.size)) 148)
      rw [World.size_alloc] at HN9
      have HS3 : Hid (s2 + 1 < W3.heap.size) := Lib.hid (World.block_lt_of_cell? _ _ HN7.out.1)
      have HK4 := Lib.hid (HK3.out.trans (KM1.trans KM2))
      have HX4 := Lib.hid (HX3.out.kept (KM1.trans KM2))
      have HA4 := Lib.hid (ownsRow_keep HA3.out (KM1.trans KM2) (fun _ _ h => h))
      have HN74 : Hid (((W3.alloc (.map #[] 0)).alloc (.cells #[.map (some W3.heap.size)] 148)).cell? ⟨s2 + 1, 0, none⟩ = some (.slice (some ⟨s2, 0, none⟩) 1 1) ∧ ((W3.alloc (.map #[] 0)).alloc (.cells #[.map (some W3.heap.size)] 148)).frozen? ⟨s2 + 1, 0, none⟩ = false) := Lib.hid ⟨(KM1.trans KM2).cell HN7.out.1 (fun h => h), ((KM1.trans KM2).frozen (World.block_lt_of_cell? _ _ HN7.out.1) (fun h => h) 0).trans HN7.out.2⟩
      have hmm := @run_makeMap Tryz.prog
      clear KM1 KM2 HK3 HX3 HA3 HN7
      go_upto_region 8 with (fail)
      clear hmm hn1 hn3
      generalize (W3.alloc (.map #[] 0)).alloc (.cells #[.map (some W3.heap.size)] 148) = W5 at *
      generalize hbm : W3.heap.size = bm at *
      clear hbm
      have HS5 : Hid (bm + 1 < W5.heap.size) := Lib.hid (World.block_lt_of_cell? _ _ HN9.out.1)
      obtain ⟨x0, x1, x2, xf⟩ := HX4.out
      go_wp2_with fail
      clear x0 x1 x2 xf
      go_loopg [8, 34] ln (fun gh v8 v34 wr => ∃ k : Nat, gh + k = ln ∧ v34 = .int .i64 k ∧ OwnC w (cdsOf (rkOf key) (l.take k)) v8 wr ∧ Keep (fun j => j = bm) W5 wr ∧ MapB wr bm (regK l o k) ∧ ∀ j, v8.ownBlock = some j → W5.heap.size ≤ j)
      case atStart => exact ⟨0, by omega, rfl, OwnC.nil HK4.out, Keep.refl _ _, by rw [regK_zero]; exact HMB.out, fun j e => by cases e⟩
      case round =>
        clear HMB
        obtain ⟨k, hk0, rfl, how, hkeep, hmb, hob⟩ := hrel
        have HOW := Lib.hid how
        have HKE := Lib.hid hkeep
        have HMB := Lib.hid hmb
        have HOB8 := Lib.hid hob
        clear how hkeep hmb hob
        by_cases hlt : k < ln
        · obtain ⟨m, hm⟩ : ∃ m, l[k]? = some m := ⟨_, List.getElem?_eq_getElem (by have := HLN.out; omega)⟩
          obtain rfl := HMA.out (by omega)
          have c0 := HOW.out.1.cell (HMC.out k m hm).1 (fun h => h)
          have c1 := HOW.out.1.cell (HMC.out k m hm).2.1 (fun h => h)
          have c2 := HOW.out.1.cell (HMC.out k m hm).2.2 (fun h => h)
          have hok := HV.out.ok m (List.mem_of_getElem? hm)
          unfold okMb at hok
          have hkz : (k : Int) < (ln : Int) := by omega
          have hkn : (0 : Int) ≤ (k : Int) := by omega
          have HSN : Hid (cdsOf (rkOf key) (l.take (k + 1)) = cdsOf (rkOf key) (l.take k) ++ [⟨m, rkOf key m.node⟩]) := Lib.hid (by unfold cdsOf; rw [List.take_add_one, hm, Option.toList_some, List.map_append]; rfl)
          have HRS := Lib.hid (regK_succ (o := o) hm)
          clear hm
          obtain ⟨mn, mr, mw⟩ := m
          simp only [] at c0 c1 c2 hok
          have HT3 := Lib.hid (three_cell wr (.int .i64 mn) (.int .i64 mr) (.int .i64 mw) 35)
          have HKA : Hid (Keep (fun _ => False) wr (wr.alloc (.cells #[.int .i64 mn, .int .i64 mr, .int .i64 mw] 35))) := Lib.hid ((Keep.refl _ wr).alloc _)
          have HOW2 := Lib.hid (HOW.out.keep HKA.out)
          have HKE2 : Hid (Keep (fun j => j = bm) W5 (wr.alloc (.cells #[.int .i64 mn, .int .i64 mr, .int .i64 mw] 35))) := Lib.hid (HKE.out.trans (HKA.out.mono (fun _ h => h.elim)))
          have HMB2 := Lib.hid (HMB.out.kept HKA.out)
          have HU : Hid (∀ j, u8.ownBlock = some j → j ≠ wr.heap.size ∧ W5.heap.size ≤ j) := Lib.hid (fun j e => by have := (HOW.out.2.lt j e).2; exact ⟨by omega, HOB8.out j e⟩)
          have HSZR : Hid (W5.heap.size ≤ wr.heap.size) := Lib.hid HKE.out.size
          go_upto_region 11 with (fail)
          clear c0 c1 c2 HOW HKE HMB HKA
          generalize wr.alloc (.cells #[.int .i64 mn, .int .i64 mr, .int .i64 mw] 35) = V0 at *
          generalize wr.heap.size = zc at *
          obtain ⟨mq, rfl⟩ : ∃ mq : Nat, mn = mq := ⟨mn.toNat, by omega⟩
          have hm100 : mq < 100 := by omega
          have hd1 : (dig mq).size ≤ 2 := dig_size hm100
          have HF := Lib.hid HOW2.out.form
          have HOT : Hid (∀ p : KA (fun j => u8.ownBlock = some j) V0, Tab p.val) := Lib.hid (fun p => (HT.out.kept HOW2.out.1).keep p.k (fun e => by have := (HOW2.out.2.lt _ e).1; have := HGN.out; omega))
          have cz0 : ∀ p : KA (fun j => u8.ownBlock = some j) V0, p.val.cell? ⟨zc, 0, none⟩ = some (.int .i64 mq) := fun p => p.k.cell HT3.out.1 (fun e => (HU.out zc e).1 rfl)
          have cz1 : ∀ p : KA (fun j => u8.ownBlock = some j) V0, p.val.cell? ⟨zc, 1, none⟩ = some (.int .i64 mr) := fun p => p.k.cell HT3.out.2.1 (fun e => (HU.out zc e).1 rfl)
          have cz2 : ∀ p : KA (fun j => u8.ownBlock = some j) V0, p.val.cell? ⟨zc, 2, none⟩ = some (.int .i64 mw) := fun p => p.k.cell HT3.out.2.2.1 (fun e => (HU.out zc e).1 rfl)
          have HD1 : Hid (∀ W, Calls Tryz.prog 71 #[.int .i64 (mq : Int)] W fun e w' => e = .returned (.string (dig mq)) ∧ w' = W) := Lib.hid (fun W => (itoa_small mq hm100 W).mono fun e w' h => ⟨h.1, h.2.symm⟩)
          have HPT : Hid (∀ W, inKA (fun j => u8.ownBlock = some j) V0 W → Calls Tryz.prog 70 #[.string ((key ++ ⟨#[32]⟩) ++ dig mq)] W fun e w' => e = .returned (.int .i64 (rkOf key (mq : Int))) ∧ w' = W) := Lib.hid (fun W hW => by
            obtain ⟨p, rfl⟩ := hW
            have ht := HOT.out p
            exact (point_any _ (rkT_size (n := (mq : Int)) hk (by rw [Int.toNat_natCast]; omega)) p.val ht).mono fun e w' h => ⟨h.1, h.2.symm⟩)
          generalize dig mq = dm at *
          have hz1 : ¬ (9223372036854775807 < key.size + 1) := by omega
          have hz2 : ¬ (9223372036854775807 < key.size + 1 + dm.size) := by omega
          refine wp_region_walk [(true, 0), (true, 1), (true, 2), (true, 3), (true, 4), (true, 5), (true, 6), (true, 7), (true, 8), (true, 9), (false, 10), (false, 11), (false, 12)] (inKA (fun j => u8.ownBlock = some j) V0) (by kernel_rfl) (by kernel_rfl) ?_
          iterate 6 (refine walkW_read rfl (fun K hK => ?_); go_simp; refine hK _ ?_; clear hK K)
          refine walkW_read rfl (fun K hK => ?_)
          go_simp
          refine ⟨_, fun p => HD1.out p.val, hK _ ?_⟩; clear hK K
          refine walkW_read rfl (fun K hK => ?_); go_simp; refine hK _ ?_; clear hK K
          refine walkW_read rfl (fun K hK => ?_)
          go_simp
          refine ⟨_, fun p => HPT.out p.val ⟨p, rfl⟩, hK _ ?_⟩; clear hK K
          refine walkW_read rfl (fun K hK => ?_); go_simp; refine hK _ ?_; clear hK K
          clear cz0 cz1 cz2 hz1 hz2 hd1
          have HK1' : Hid (Keep (fun j => u8.ownBlock = some j) V0 V0.drew) := Lib.hid (Keep.refl _ V0).drew
          have HKD : Hid (Keep (fun _ => False) V0 V0.drew) := Lib.hid (Keep.refl _ V0).drew
          have HOWD := Lib.hid (HOW2.out.keep HKD.out)
          have HZV : Hid (zc < V0.heap.size) := Lib.hid (World.block_lt_of_cell? _ _ HT3.out.1)
          have HZVD : Hid (V0.drew.heap.size = V0.heap.size) := Lib.hid rfl
          generalize V0.drew = V1 at *
          obtain ⟨v', V3, hr, how3, hk3, hob3⟩ := HOWD.out.snoc ⟨⟨(mq : Int), mr, mw⟩, rkOf key (mq : Int)⟩ (by unfold cdsOf; rw [List.length_map, List.length_take]; have := HV.out.len; omega)
          simp only [] at hr
          rw [← HSN.out] at how3
          have HOW3 := Lib.hid how3
          have HK3 : Hid (Keep (fun j => u8.ownBlock = some j) V0 V3) := Lib.hid (HK1'.out.trans hk3)
          have HKB3 : Hid (Keep (fun j => j = bm) W5 V3) := Lib.hid (HKE2.out.trans' HK3.out (fun j e => .inr (HU.out j e).2))
          have HMB3 : Hid (MapB V3 bm (regK l o k)) := Lib.hid (HMB2.out.keep HK3.out (fun e => by have := (HU.out _ e).2; have := HS5.out; omega))
          have HT33 : Hid (V3.cell? ⟨zc, 0, none⟩ = some (.int .i64 mq) ∧ V3.cell? ⟨zc, 1, none⟩ = some (.int .i64 mr)) := Lib.hid ⟨HK3.out.cell HT3.out.1 (fun e => (HU.out _ e).1 rfl), HK3.out.cell HT3.out.2.1 (fun e => (HU.out _ e).1 rfl)⟩
          have HOB3 : Hid (∀ j, v'.ownBlock = some j → W5.heap.size ≤ j) := Lib.hid (fun j e => by
            rcases hob3 with h | h
            · exact HOB8.out j (h.symm.trans e)
            · rw [h] at e
              cases e
              have := HZV.out
              have := HZVD.out
              have := HSZR.out
              omega)
          have HR := Lib.hid hr
          clear how3 hk3 hob3 hr HT3 HOB8
          generalize rkOf key (mq : Int) = pn at *
          refine walkW_do rfl (inKA.of HK1'.out) (fun K hK => ?_)
          go_simp
          refine hK _ _ ?_; clear hK K
          refine walkW_do rfl (inKA.of (HK1'.out.alloc _)) (fun K hK => ?_)
          rw [if_pos (by first | rfl | simp [Region.wanted])]
          refine wp_app (.tmp 38) (.tmp 48) 147 rfl rfl rfl HR.out (hK _ _ ?_); clear hK K
          refine walkW_do rfl (inKA.of HK3.out) (fun K hK => ?_)
          go_simp
          refine hK _ _ ?_; clear hK K
          refine ⟨inKA.of HK3.out, ?_⟩
          have c7 := HKB3.out.cell HN74.out.1 (fun e => by have h5 : s2 + 1 = bm := e; have := HS3.out; have := HS5.out; omega)
          have ca : V3.cell? ⟨s2, 0, none⟩ = some (.int .i64 o) := HKB3.out.cell (HA4.out.cells rfl 0 _ rfl) (fun e => by have h5 : s2 = bm := e; have := HS3.out; omega)
          have cz := HT33.out.1
          clear HK1' HKD HOWD HK3 HOW2 HKE2 HMB2 HR HPT HOT HD1
          obtain ⟨beq, hbeq⟩ : ∃ b, ((mq : Int) == o) = b := ⟨_, rfl⟩
          have HBEQ := Lib.hid hbeq
          go_upto_region 12 with (fail)
          go_quiet (fail)
          clear c7 ca cz
          have HKN : Hid (Keep (fun _ => False) V3 (V3.drewN nq)) := Lib.hid ((Keep.refl (fun _ => False) V3).drewN nq)
          have HOW4 := Lib.hid (HOW3.out.keep HKN.out)
          have HKB4 : Hid (Keep (fun j => j = bm) W5 (V3.drewN nq)) := Lib.hid (HKB3.out.trans (HKN.out.mono (fun _ h => h.elim)))
          have HMB4 := Lib.hid (HMB3.out.kept HKN.out)
          have cz1 := HKN.out.cell HT33.out.2 (fun h => h)
          clear HOW3 HKB3 HMB3 HT33 HKN
          generalize V3.drewN nq = V4 at *
          cases beq with
          | true =>
            have hmo : (mq : Int) = o := by simpa using HBEQ.out
            have c9 := HKB4.out.cell HN9.out.1 (fun e => by have h5 : bm + 1 = bm := e; omega)
            obtain ⟨es', ck', hup, hmu⟩ := HMB4.out.update (n := mr) (by unfold I64; omega)
            have HMU : Hid (MapB (V4.putObj bm (.map es' ck')) bm (regK l o (k + 1))) := Lib.hid (by
              rw [HRS.out]
              have : (fun r => regK l o k r || (decide ((⟨(mq : Int), mr, mw⟩ : Mb).node = o) && decide ((⟨(mq : Int), mr, mw⟩ : Mb).region = r))) = fun r => regK l o k r || decide (r = mr) := by
                funext r
                simp only []
                rw [decide_eq_true hmo, Bool.true_and]
                congr 1
                exact decide_eq_decide.2 ⟨fun e => e.symm, fun e => e.symm⟩
              rw [this]; exact hmu)
            have HKP : Hid (Keep (fun j => j = bm) V4 (V4.putObj bm (.map es' ck'))) := Lib.hid ((Keep.refl (fun j => j = bm) V4).putObj _ (.inl rfl))
            have HOWP : Hid (OwnC w (cdsOf (rkOf key) (l.take (k + 1))) v' (V4.putObj bm (.map es' ck'))) := Lib.hid ⟨HOW4.out.1.trans' HKP.out (fun j e => .inr (by have := HS3.out; have := HZ.out; have := HZ2.out; omega)), ownsRow_keep HOW4.out.2 HKP.out (fun b hb e => by have := HOB3.out b hb; have := HS5.out; omega)⟩
            have HKB5 := Lib.hid (HKB4.out.trans HKP.out)
            clear hmu
            go_wp2_with fail
            clear hup c9 cz1
            go_roundg (gk - 1)
            case rel => exact ⟨k + 1, by omega, by go_num, HOWP.out, HKB5.out, HMU.out, HOB3.out⟩
            case measure => omega
          | false =>
            have hmo : ¬ (mq : Int) = o := by simpa using HBEQ.out
            have HMU : Hid (MapB V4 bm (regK l o (k + 1))) := Lib.hid (by
              rw [HRS.out]
              have : (fun r => regK l o k r || (decide ((⟨(mq : Int), mr, mw⟩ : Mb).node = o) && decide ((⟨(mq : Int), mr, mw⟩ : Mb).region = r))) = regK l o k := by
                funext r
                simp only []
                rw [decide_eq_false hmo, Bool.false_and, Bool.or_false]
              rw [this]; exact HMB4.out)
            clear cz1
            go_wp2_with fail
            go_roundg (gk - 1)
            case rel => exact ⟨k + 1, by omega, by go_num, HOW4.out, HKB4.out, HMU.out, HOB3.out⟩
            case measure => omega
        · obtain rfl : k = ln := by omega
          have HALL : Hid (OwnC w (cdsOf (rkOf key) l) u8 wr) := Lib.hid (by
            have := HOW.out
            rwa [List.take_of_length_le (by have := HLN.out; omega)] at this)
          have HMU : Hid (MapB wr bm (usedC l [o])) := Lib.hid (by rw [← regK_all (l := l) (o := o) (k := k) (by have := HLN.out; omega)]; exact HMB.out)
          have HSRT := Lib.hid (sort_cands HALL.out HV.out)
          clear HOW HMB
          have hkz : ¬ (k : Int) < (k : Int) := by omega
          go_upto_region 15 with (fail)
          clear hkz
          go_wp2_with fail
          with_reducible refine HSRT.out.mono ?_
          rintro e W7 ⟨rfl, S, hsp, hsw, hcd, hk7⟩
          have HU8 : Hid (∀ j, u8.ownBlock = some j → bm + 1 < j) := Lib.hid (fun j e => by have := HOB8.out j e; have := HS5.out; omega)
          have HSP := Lib.hid hsp
          have HSW := Lib.hid hsw
          have HCD := Lib.hid hcd
          have HK57 : Hid (Keep (fun j => j = bm) W5 W7) := Lib.hid (HKE.out.trans' hk7 (fun j e => .inr (HOB8.out j e)))
          have HC7 : Hid (W7.cell? ⟨s2 + 1, 0, none⟩ = some (.slice (some ⟨s2, 0, none⟩) 1 1) ∧ W7.frozen? ⟨s2 + 1, 0, none⟩ = false) := Lib.hid ⟨HK57.out.cell HN74.out.1 (fun e => by have h5 : s2 + 1 = bm := e; have := HS3.out; omega), (HK57.out.frozen (World.block_lt_of_cell? _ _ HN74.out.1) (fun e => by have h5 : s2 + 1 = bm := e; have := HS3.out; omega) 0).trans HN74.out.2⟩
          have HC9 : Hid (W7.cell? ⟨bm + 1, 0, none⟩ = some (.map (some bm))) := Lib.hid (HK57.out.cell HN9.out.1 (fun e => by have h5 : bm + 1 = bm := e; omega))
          have HM7 : Hid (MapB W7 bm (usedC l [o])) := Lib.hid (HMU.out.keep hk7 (fun e => by have := HU8.out _ e; omega))
          have HOI7 : Hid (OwnI w [o] (.slice (some ⟨s2, 0, none⟩) 1 1) W7) := Lib.hid ⟨HALL.out.1.trans' hk7 (fun j e => .inr (HALL.out.2.lt j e).1), ownsRow_keep HA4.out HK57.out (fun b hb e => by cases hb; have h5 : s2 = bm := e; have := HS3.out; omega)⟩
          clear hsp hsw hcd hk7 HALL HMU HSRT HKE HN74 HA4 HN9
          go_upto_region 18 with (fail)
          go_wp2_with fail
          go_loopg [65] nn (fun gh v65 wr => ∃ (k : Nat) (vo : Value), gh + k = nn ∧ v65 = .int .i64 k ∧ OwnI w (holdC (rkOf key) l o k) vo wr ∧ (wr.cell? ⟨s2 + 1, 0, none⟩ = some vo ∧ wr.frozen? ⟨s2 + 1, 0, none⟩ = false) ∧ MapB wr bm (usedC l (holdC (rkOf key) l o k)) ∧ Keep (fun j => j = s2 ∨ j = s2 + 1 ∨ j = bm) W7 wr ∧ ∀ j, vo.ownBlock = some j → j = s2 ∨ W7.heap.size ≤ j)
          case atStart => exact ⟨0, _, by omega, rfl, HOI7.out, HC7.out, HM7.out, Keep.refl _ _, fun j e => by cases e; exact .inl rfl⟩
          case round =>
            clear HOI7 HC7 HM7
            obtain ⟨i, vo, hi, rfl, hoi, hc7, hmb, hkeep, hob⟩ := hrel
            have HOI := Lib.hid hoi
            have HC7 := Lib.hid hc7
            have HMB := Lib.hid hmb
            have HKE := Lib.hid hkeep
            have HOV := Lib.hid hob
            clear hoi hc7 hmb hkeep hob
            by_cases hlt : i < nn
            · have hiz : (i : Int) < (nn : Int) := by omega
              have HST : Hid (holdC (rkOf key) l o (i + 1) = stepC (rkOf key) l (holdC (rkOf key) l o i)) := Lib.hid rfl
              have HHL : Hid ((holdC (rkOf key) l o i).length ≤ 100) := Lib.hid (by have h1 := (holdC_ok (rk := rkOf key) HV.out.asc HOM.out i).len; have h2 := HV.out.len; omega)
              have HHB : Hid (∀ x ∈ holdC (rkOf key) l o i, I64 x) := Lib.hid (fun x hx => by
                obtain ⟨m, hm, e⟩ := List.mem_map.1 ((holdC_ok (rk := rkOf key) HV.out.asc HOM.out i).mem x hx)
                have := HV.out.ok m hm
                unfold okMb at this
                rw [← e]; unfold I64; omega)
              generalize holdC (rkOf key) l o i = out at *
              have HCDR : Hid (∀ V, Keep (fun j => j = s2 ∨ j = s2 + 1 ∨ j = bm) W7 V → Cds V u8 (cdsOf (rkOf key) S)) := Lib.hid (fun V k => HCD.out.keep k (fun b hb e => by have := HU8.out b hb; have := HS3.out; rcases e with e | e | e <;> omega))
              have HHS : Hid (∀ V, Keep (fun _ => False) wr V → Hs V (s2 + 1) (bm + 1) out (usedC l out)) := Lib.hid (fun V k => ⟨⟨vo, k.cell HC7.out.1 (fun h => h), (its_owns HOI.out.2 (by have := HHL.out; omega) HHB.out).kept k⟩, bm, k.cell (HKE.out.cell HC9.out (fun e => by have := HS3.out; rcases e with e | e | e <;> omega)) (fun h => h), HMB.out.kept k⟩)
              have HF1 : Hid (∀ V v, Keep (fun _ => False) wr V → Cnds V v (s2 + 1) (bm + 1) [true, false] → Calls Tryz.prog 119 #[u8, v] V (FirstPost V ((selC (rkOf key) l (fun m => freeC out m && awayC l out m)).map (fun m => (⟨m, rkOf key m.node⟩ : Cd))))) := Lib.hid (fun V v k hc => by
                rw [← find_both HV.out.asc HSP.out HSW.out [true, false] _ (cond_two l out)]
                exact first_any u8 v [true, false] (cdsOf (rkOf key) S) V (HHS.out V k) (HCDR.out V (HKE.out.trans (k.mono (fun _ h => h.elim)))) hc (by decide))
              have HF2 : Hid (∀ V v, Keep (fun _ => False) wr V → Cnds V v (s2 + 1) (bm + 1) [true] → Calls Tryz.prog 119 #[u8, v] V (FirstPost V ((selC (rkOf key) l (freeC out)).map (fun m => (⟨m, rkOf key m.node⟩ : Cd))))) := Lib.hid (fun V v k hc => by
                rw [← find_both HV.out.asc HSP.out HSW.out [true] _ (cond_one l out)]
                exact first_any u8 v [true] (cdsOf (rkOf key) S) V (HHS.out V k) (HCDR.out V (HKE.out.trans (k.mono (fun _ h => h.elim)))) hc (by decide))
              have HL1 : Hid (Cnds (wr.alloc (.cells #[Value.func (.func 117) #[] #[.pointer (some ⟨s2 + 1, 0, none⟩)], Value.func (.func 118) #[] #[.pointer (some ⟨bm + 1, 0, none⟩)]] 154)) (.slice (some ⟨wr.heap.size, 0, none⟩) 2 2) (s2 + 1) (bm + 1) [true, false]) := Lib.hid ⟨wr.heap.size, 2, rfl, by decide, fun j x hj => by
                have hh : (wr.alloc (.cells #[Value.func (.func 117) #[] #[.pointer (some ⟨s2 + 1, 0, none⟩)], Value.func (.func 118) #[] #[.pointer (some ⟨bm + 1, 0, none⟩)]] 154)).heap[wr.heap.size]? = some (.cells #[Value.func (.func 117) #[] #[.pointer (some ⟨s2 + 1, 0, none⟩)], Value.func (.func 118) #[] #[.pointer (some ⟨bm + 1, 0, none⟩)]] 154) := World.alloc_heap_new _ _
                rcases j with _ | _ | j
                · simp at hj; subst hj; unfold World.cell?; simp only [hh]; rfl
                · simp at hj; subst hj; unfold World.cell?; simp only [hh]; rfl
                · simp at hj⟩
              have HKL : Hid (Keep (fun _ => False) wr (wr.alloc (.cells #[Value.func (.func 117) #[] #[.pointer (some ⟨s2 + 1, 0, none⟩)], Value.func (.func 118) #[] #[.pointer (some ⟨bm + 1, 0, none⟩)]] 154))) := Lib.hid ((Keep.refl _ wr).alloc _)
              go_upto_region 20 with (fail)
              go_wp2_with fail
              generalize wr.alloc (.cells #[Value.func (.func 117) #[] #[.pointer (some ⟨s2 + 1, 0, none⟩)], Value.func (.func 118) #[] #[.pointer (some ⟨bm + 1, 0, none⟩)]] 154) = V0 at *
              generalize wr.heap.size = zl at HL1 ⊢
              with_reducible refine (HF1.out V0 _ HKL.out HL1.out).mono ?_
              rintro e V1 ⟨vr, rfl, hvx, ⟨a0, a1, a2, a3, rfl⟩, kf⟩
              have HKV1 := Lib.hid (HKL.out.trans kf)
              clear kf HL1 HKL
              have HB1 := Lib.hid (four_cell V1 (.int .i64 a0) (.int .i64 a1) (.int .i64 a2) (.int .i64 a3) 150)
              have HKV : Hid (Keep (fun _ => False) wr (V1.alloc (.cells #[.int .i64 a0, .int .i64 a1, .int .i64 a2, .int .i64 a3] 150))) := Lib.hid (HKV1.out.alloc _)
              have HZBS : Hid (wr.heap.size ≤ V1.heap.size) := Lib.hid HKV1.out.size
              go_upto_region 21 with (fail)
              generalize V1.alloc (.cells #[.int .i64 a0, .int .i64 a1, .int .i64 a2, .int .i64 a3] 150) = V at *
              generalize V1.heap.size = zb at *
              clear HKV1
              have HOIV := Lib.hid (HOI.out.keep HKV.out)
              have HC7V : Hid (V.cell? ⟨s2 + 1, 0, none⟩ = some vo ∧ V.frozen? ⟨s2 + 1, 0, none⟩ = false) := Lib.hid ⟨HKV.out.cell HC7.out.1 (fun h => h), (HKV.out.frozen (World.block_lt_of_cell? _ _ HC7.out.1) (fun h => h) 0).trans HC7.out.2⟩
              have HMBV := Lib.hid (HMB.out.kept HKV.out)
              have HKVV : Hid (Keep (fun j => j = s2 ∨ j = s2 + 1 ∨ j = bm) W7 V) := Lib.hid (HKE.out.trans (HKV.out.mono (fun _ h => h.elim)))
              cases hsel : selC (rkOf key) l (fun m => freeC out m && awayC l out m) with
              | some x =>
                rw [hsel] at hvx
                have hcd := hvx ⟨x, rkOf key x.node⟩ rfl
                have HNX : Hid (nextC (rkOf key) l out = some x) := Lib.hid (by unfold nextC; rw [hsel])
                have HXL : Hid (x ∈ l) := Lib.hid (selC_some HV.out.asc hsel).mem
                have HCB : Hid (V.cell? ⟨zb, 0, none⟩ = some (.int .i64 x.node) ∧ V.cell? ⟨zb, 1, none⟩ = some (.int .i64 x.region)) := Lib.hid (by
                  injection hcd with h1
                  injection h1 with h2
                  simp only [List.cons.injEq] at h2
                  rw [← h2.1, ← h2.2.1]
                  exact ⟨HB1.out.1, HB1.out.2.1⟩)
                simp only [Option.isSome_some]
                clear hvx hcd hsel HB1 HF1 HF2
                go_upto_region 24 with (fail)
                have HOUT : Hid (holdC (rkOf key) l o (i + 1) = out ++ [x.node]) := Lib.hid (by rw [HST.out]; unfold stepC; rw [HNX.out])
                have HUS : Hid (usedC l (out ++ [x.node]) = fun r => usedC l out r || decide (r = x.region)) := Lib.hid (usedC_snoc HV.out.asc HXL.out)
                have HXR : Hid (I64 x.region) := Lib.hid (by have := HV.out.ok x HXL.out; unfold okMb at this; unfold I64; omega)
                obtain ⟨v2, V2, hr, hoi2, hk2, hob2⟩ := HOIV.out.snoc x.node (by have := HHL.out; omega)
                obtain ⟨va, vn, vc, rfl, -⟩ := hoi2.slice
                have HR := Lib.hid hr
                have HZB : Hid (∀ j, vo.ownBlock = some j → j ≠ zb) := Lib.hid (fun j e => by have := (HOI.out.2.lt j e).2; have := HZBS.out; omega)
                have HOJ : Hid (∀ j, vo.ownBlock = some j → j ≠ s2 + 1 ∧ j ≠ bm ∧ j ≠ bm + 1) := Lib.hid (fun j e => by have h1 : bm + 1 < W7.heap.size := World.block_lt_of_cell? _ _ HC9.out; have := HS3.out; rcases HOV.out j e with h2 | h2 <;> omega)
                have c7 := HC7V.out.1
                have cb0 := HCB.out.1
                have c72 : V2.cell? ⟨s2 + 1, 0, none⟩ = some vo := hk2.cell HC7V.out.1 (fun e => (HOJ.out _ e).1 rfl)
                have f72 : V2.frozen? ⟨s2 + 1, 0, none⟩ = false := (hk2.frozen (World.block_lt_of_cell? _ _ HC7V.out.1) (fun e => (HOJ.out _ e).1 rfl) 0).trans HC7V.out.2
                have HK3 : Hid (Keep (fun j => j = s2 + 1) V2 (V2.setCell ⟨s2 + 1, 0, none⟩ (Value.slice va vn vc))) := Lib.hid ((Keep.refl (fun j => j = s2 + 1) V2).setCell (p := ⟨s2 + 1, 0, none⟩) _ (.inl rfl))
                have c93 : (V2.setCell ⟨s2 + 1, 0, none⟩ (Value.slice va vn vc)).cell? ⟨bm + 1, 0, none⟩ = some (.map (some bm)) := HK3.out.cell (hk2.cell (HKVV.out.cell HC9.out (fun e => by have := HS3.out; rcases e with e | e | e <;> omega)) (fun e => (HOJ.out _ e).2.2 rfl)) (fun e => by have h5 : bm + 1 = s2 + 1 := e; have := HS3.out; omega)
                have cb1 : (V2.setCell ⟨s2 + 1, 0, none⟩ (Value.slice va vn vc)).cell? ⟨zb, 1, none⟩ = some (.int .i64 x.region) := HK3.out.cell (hk2.cell HCB.out.2 (fun e => HZB.out _ e rfl)) (fun e => by have h5 : zb = s2 + 1 := e; have h6 := HZBS.out; have h7 := World.block_lt_of_cell? _ _ HC7.out.1; have h8 : s2 + 1 < wr.heap.size := h7; omega)
                have HC73 : Hid ((V2.setCell ⟨s2 + 1, 0, none⟩ (Value.slice va vn vc)).cell? ⟨s2 + 1, 0, none⟩ = some (Value.slice va vn vc) ∧ (V2.setCell ⟨s2 + 1, 0, none⟩ (Value.slice va vn vc)).frozen? ⟨s2 + 1, 0, none⟩ = false) := Lib.hid ⟨cell_set_same c72, by rw [World.frozen?_setCell]; exact f72⟩
                have HM3 : Hid (MapB (V2.setCell ⟨s2 + 1, 0, none⟩ (Value.slice va vn vc)) bm (usedC l out)) := Lib.hid ((HMBV.out.keep hk2 (fun e => (HOJ.out _ e).2.1 rfl)).keep HK3.out (fun e => by have h5 : bm = s2 + 1 := e; have := HS3.out; omega))
                have HOB2 : Hid (∀ j, (Value.slice va vn vc).ownBlock = some j → j = s2 ∨ W7.heap.size ≤ j) := Lib.hid (fun j e => by
                  rcases hob2 with h | h
                  · exact HOV.out j (h.symm.trans e)
                  · rw [h] at e
                    cases e
                    have h3 := HKVV.out.size
                    right
                    omega)
                have HKW3 : Hid (Keep (fun j => j = s2 ∨ j = s2 + 1 ∨ j = bm) W7 (V2.setCell ⟨s2 + 1, 0, none⟩ (Value.slice va vn vc))) := Lib.hid ((HKVV.out.trans' hk2 (fun j e => by rcases HOV.out j e with h | h; exact .inl (.inl h); exact .inr h)).trans (HK3.out.mono (fun j e => .inr (.inl e))))
                have HOI3 : Hid (OwnI w (out ++ [x.node]) (Value.slice va vn vc) (V2.setCell ⟨s2 + 1, 0, none⟩ (Value.slice va vn vc))) := Lib.hid ⟨hoi2.1.trans' HK3.out (fun j e => .inr (by have h5 : j = s2 + 1 := e; have := HZ.out; have := HZ2.out; omega)), ownsRow_keep hoi2.2 HK3.out (fun b hb e => by have h5 : b = s2 + 1 := e; have h1 : bm + 1 < W7.heap.size := World.block_lt_of_cell? _ _ HC9.out; have := HS3.out; rcases HOB2.out b hb with h2 | h2 <;> omega)⟩
                clear hr hoi2 hk2 hob2
                go_upto_region 25 with (at_builtin; refine wpList_app rfl (.tmp 85) (.tmp 89) 22 rfl rfl rfl HR.out ?_)
                clear c7 cb0 c72 f72 HR
                generalize V2.setCell ⟨s2 + 1, 0, none⟩ (Value.slice va vn vc) = V3 at *
                obtain ⟨es', ck', hup, hmu⟩ := HM3.out.update (n := x.region) HXR.out
                have HKP : Hid (Keep (fun j => j = bm) V3 (V3.putObj bm (.map es' ck'))) := Lib.hid ((Keep.refl (fun j => j = bm) V3).putObj _ (.inl rfl))
                have HMU : Hid (MapB (V3.putObj bm (.map es' ck')) bm (usedC l (out ++ [x.node]))) := Lib.hid (by rw [HUS.out]; exact hmu)
                have HC74 : Hid ((V3.putObj bm (.map es' ck')).cell? ⟨s2 + 1, 0, none⟩ = some (Value.slice va vn vc) ∧ (V3.putObj bm (.map es' ck')).frozen? ⟨s2 + 1, 0, none⟩ = false) := Lib.hid ⟨HKP.out.cell HC73.out.1 (fun e => by have h5 : s2 + 1 = bm := e; have := HS3.out; omega), (HKP.out.frozen (World.block_lt_of_cell? _ _ HC73.out.1) (fun e => by have h5 : s2 + 1 = bm := e; have := HS3.out; omega) 0).trans HC73.out.2⟩
                have HOI4 : Hid (OwnI w (holdC (rkOf key) l o (i + 1)) (Value.slice va vn vc) (V3.putObj bm (.map es' ck'))) := Lib.hid (by rw [HOUT.out]; exact ⟨HOI3.out.1.trans' HKP.out (fun j e => .inr (by have h5 : j = bm := e; have := HZ.out; have := HZ2.out; have := HS3.out; omega)), ownsRow_keep HOI3.out.2 HKP.out (fun b hb e => by have h5 : b = bm := e; have h1 : bm + 1 < W7.heap.size := World.block_lt_of_cell? _ _ HC9.out; have := HS3.out; rcases HOB2.out b hb with h2 | h2 <;> omega)⟩)
                have HMU4 : Hid (MapB (V3.putObj bm (.map es' ck')) bm (usedC l (holdC (rkOf key) l o (i + 1)))) := Lib.hid (by rw [HOUT.out]; exact HMU.out)
                have HKW4 := Lib.hid (HKW3.out.trans (HKP.out.mono (fun j e => .inr (.inr e))))
                clear hmu
                go_wp2_with fail
                clear hup c93 cb1
                go_roundg (nn - (i + 1))
                case rel => exact ⟨i + 1, (Value.slice va vn vc), by omega, by go_num, HOI4.out, HC74.out, HMU4.out, HKW4.out, HOB2.out⟩
                case measure => omega
              | none =>
                simp only [Option.isSome_none]
                have HSEL := Lib.hid hsel
                clear hvx hsel HF1
                have HL2 : Hid (Cnds (V.alloc (.cells #[Value.func (.func 117) #[] #[.pointer (some ⟨s2 + 1, 0, none⟩)]] 154)) (.slice (some ⟨V.heap.size, 0, none⟩) 1 1) (s2 + 1) (bm + 1) [true]) := Lib.hid ⟨V.heap.size, 1, rfl, by decide, fun j x hj => by
                  have hh : (V.alloc (.cells #[Value.func (.func 117) #[] #[.pointer (some ⟨s2 + 1, 0, none⟩)]] 154)).heap[V.heap.size]? = some (.cells #[Value.func (.func 117) #[] #[.pointer (some ⟨s2 + 1, 0, none⟩)]] 154) := World.alloc_heap_new _ _
                  rcases j with _ | j
                  · simp at hj; subst hj; unfold World.cell?; simp only [hh]; rfl
                  · simp at hj⟩
                have HKL2 : Hid (Keep (fun _ => False) V (V.alloc (.cells #[Value.func (.func 117) #[] #[.pointer (some ⟨s2 + 1, 0, none⟩)]] 154))) := Lib.hid ((Keep.refl _ V).alloc _)
                have HZBV : Hid (zb < V.heap.size) := Lib.hid (World.block_lt_of_cell? _ _ HB1.out.1)
                go_upto_region 22 with (fail)
                go_wp2_with fail
                generalize V.alloc (.cells #[Value.func (.func 117) #[] #[.pointer (some ⟨s2 + 1, 0, none⟩)]] 154) = V4 at *
                generalize V.heap.size = zl2 at HL2 ⊢
                with_reducible refine (HF2.out V4 _ (HKV.out.trans HKL2.out) HL2.out).mono ?_
                rintro e V5 ⟨vr, rfl, hvx, ⟨b0, b1, b2, b3, rfl⟩, kf⟩
                have HKV5 := Lib.hid (HKL2.out.trans kf)
                clear kf HL2 HKL2
                have z0 := HKV5.out.cell HB1.out.1 (fun h => h)
                have z1 := HKV5.out.cell HB1.out.2.1 (fun h => h)
                have z2 := HKV5.out.cell HB1.out.2.2.1 (fun h => h)
                have z3 := HKV5.out.cell HB1.out.2.2.2.1 (fun h => h)
                have zf : ∀ o, V5.frozen? ⟨zb, o, none⟩ = false := fun o => (HKV5.out.frozen (World.block_lt_of_cell? _ _ HB1.out.1) (fun h => h) o).trans (HB1.out.2.2.2.2 o)
                have HN4 : Hid (((((V5.setCell ⟨zb, 0, none⟩ (.int .i64 b0)).setCell ⟨zb, 1, none⟩ (.int .i64 b1)).setCell ⟨zb, 2, none⟩ (.int .i64 b2)).setCell ⟨zb, 3, none⟩ (.int .i64 b3)).cell? ⟨zb, 0, none⟩ = some (.int .i64 b0) ∧ ((((V5.setCell ⟨zb, 0, none⟩ (.int .i64 b0)).setCell ⟨zb, 1, none⟩ (.int .i64 b1)).setCell ⟨zb, 2, none⟩ (.int .i64 b2)).setCell ⟨zb, 3, none⟩ (.int .i64 b3)).cell? ⟨zb, 1, none⟩ = some (.int .i64 b1)) := Lib.hid (by
                  refine ⟨?_, ?_⟩
                  · rw [cell_set_off (by decide), cell_set_off (by decide), cell_set_off (by decide)]; exact cell_set_same z0
                  · rw [cell_set_off (by decide), cell_set_off (by decide)]; exact cell_set_same (by rw [cell_set_off (by decide)]; exact z1))
                have HKS : Hid (Keep (fun j => j = zb) V5 ((((V5.setCell ⟨zb, 0, none⟩ (.int .i64 b0)).setCell ⟨zb, 1, none⟩ (.int .i64 b1)).setCell ⟨zb, 2, none⟩ (.int .i64 b2)).setCell ⟨zb, 3, none⟩ (.int .i64 b3))) := Lib.hid (((((Keep.refl (fun j => j = zb) V5).setCell (p := ⟨zb, 0, none⟩) _ (.inl rfl)).setCell (p := ⟨zb, 1, none⟩) _ (.inl rfl)).setCell (p := ⟨zb, 2, none⟩) _ (.inl rfl)).setCell (p := ⟨zb, 3, none⟩) _ (.inl rfl))
                go_upto_region 23 with (fail)
                clear z0 z1 z2 z3 zf
                generalize (((V5.setCell ⟨zb, 0, none⟩ (.int .i64 b0)).setCell ⟨zb, 1, none⟩ (.int .i64 b1)).setCell ⟨zb, 2, none⟩ (.int .i64 b2)).setCell ⟨zb, 3, none⟩ (.int .i64 b3) = V6 at *
                have HKV6 : Hid (Keep (fun _ => False) wr V6) := Lib.hid ((HKV.out.trans HKV5.out).trans' HKS.out (fun j e => .inr (by have := HZBS.out; omega)))
                have HKVO := HKV
                clear HOIV HC7V HMBV HKVV
                have HOIV := Lib.hid (HOI.out.keep HKV6.out)
                have HC7V : Hid (V6.cell? ⟨s2 + 1, 0, none⟩ = some vo ∧ V6.frozen? ⟨s2 + 1, 0, none⟩ = false) := Lib.hid ⟨HKV6.out.cell HC7.out.1 (fun h => h), (HKV6.out.frozen (World.block_lt_of_cell? _ _ HC7.out.1) (fun h => h) 0).trans HC7.out.2⟩
                have HMBV := Lib.hid (HMB.out.kept HKV6.out)
                have HKVV : Hid (Keep (fun j => j = s2 ∨ j = s2 + 1 ∨ j = bm) W7 V6) := Lib.hid (HKE.out.trans (HKV6.out.mono (fun _ h => h.elim)))
                cases hs2 : selC (rkOf key) l (freeC out) with
                | some x =>
                  rw [hs2] at hvx
                  have hcd := hvx ⟨x, rkOf key x.node⟩ rfl
                  have HNX : Hid (nextC (rkOf key) l out = some x) := Lib.hid (by unfold nextC; rw [HSEL.out]; exact hs2)
                  have HXL : Hid (x ∈ l) := Lib.hid (selC_some HV.out.asc hs2).mem
                  have HCB : Hid (V6.cell? ⟨zb, 0, none⟩ = some (.int .i64 x.node) ∧ V6.cell? ⟨zb, 1, none⟩ = some (.int .i64 x.region)) := Lib.hid (by
                    injection hcd with h1
                    injection h1 with h2
                    simp only [List.cons.injEq] at h2
                    rw [← h2.1, ← h2.2.1]
                    exact HN4.out)
                  simp only [Option.isSome_some]
                  clear hvx hcd hs2 HB1 HF2 HSEL HN4
                  go_upto_region 24 with (fail)
                  have HOUT : Hid (holdC (rkOf key) l o (i + 1) = out ++ [x.node]) := Lib.hid (by rw [HST.out]; unfold stepC; rw [HNX.out])
                  have HUS : Hid (usedC l (out ++ [x.node]) = fun r => usedC l out r || decide (r = x.region)) := Lib.hid (usedC_snoc HV.out.asc HXL.out)
                  have HXR : Hid (I64 x.region) := Lib.hid (by have := HV.out.ok x HXL.out; unfold okMb at this; unfold I64; omega)
                  obtain ⟨v2, V2, hr, hoi2, hk2, hob2⟩ := HOIV.out.snoc x.node (by have := HHL.out; omega)
                  obtain ⟨va, vn, vc, rfl, -⟩ := hoi2.slice
                  have HR := Lib.hid hr
                  have HZB : Hid (∀ j, vo.ownBlock = some j → j ≠ zb) := Lib.hid (fun j e => by have := (HOI.out.2.lt j e).2; have := HZBS.out; omega)
                  have HOJ : Hid (∀ j, vo.ownBlock = some j → j ≠ s2 + 1 ∧ j ≠ bm ∧ j ≠ bm + 1) := Lib.hid (fun j e => by have h1 : bm + 1 < W7.heap.size := World.block_lt_of_cell? _ _ HC9.out; have := HS3.out; rcases HOV.out j e with h2 | h2 <;> omega)
                  have c7 := HC7V.out.1
                  have cb0 := HCB.out.1
                  have c72 : V2.cell? ⟨s2 + 1, 0, none⟩ = some vo := hk2.cell HC7V.out.1 (fun e => (HOJ.out _ e).1 rfl)
                  have f72 : V2.frozen? ⟨s2 + 1, 0, none⟩ = false := (hk2.frozen (World.block_lt_of_cell? _ _ HC7V.out.1) (fun e => (HOJ.out _ e).1 rfl) 0).trans HC7V.out.2
                  have HK3 : Hid (Keep (fun j => j = s2 + 1) V2 (V2.setCell ⟨s2 + 1, 0, none⟩ (Value.slice va vn vc))) := Lib.hid ((Keep.refl (fun j => j = s2 + 1) V2).setCell (p := ⟨s2 + 1, 0, none⟩) _ (.inl rfl))
                  have c93 : (V2.setCell ⟨s2 + 1, 0, none⟩ (Value.slice va vn vc)).cell? ⟨bm + 1, 0, none⟩ = some (.map (some bm)) := HK3.out.cell (hk2.cell (HKVV.out.cell HC9.out (fun e => by have := HS3.out; rcases e with e | e | e <;> omega)) (fun e => (HOJ.out _ e).2.2 rfl)) (fun e => by have h5 : bm + 1 = s2 + 1 := e; have := HS3.out; omega)
                  have cb1 : (V2.setCell ⟨s2 + 1, 0, none⟩ (Value.slice va vn vc)).cell? ⟨zb, 1, none⟩ = some (.int .i64 x.region) := HK3.out.cell (hk2.cell HCB.out.2 (fun e => HZB.out _ e rfl)) (fun e => by have h5 : zb = s2 + 1 := e; have h6 := HZBS.out; have h7 := World.block_lt_of_cell? _ _ HC7.out.1; have h8 : s2 + 1 < wr.heap.size := h7; omega)
                  have HC73 : Hid ((V2.setCell ⟨s2 + 1, 0, none⟩ (Value.slice va vn vc)).cell? ⟨s2 + 1, 0, none⟩ = some (Value.slice va vn vc) ∧ (V2.setCell ⟨s2 + 1, 0, none⟩ (Value.slice va vn vc)).frozen? ⟨s2 + 1, 0, none⟩ = false) := Lib.hid ⟨cell_set_same c72, by rw [World.frozen?_setCell]; exact f72⟩
                  have HM3 : Hid (MapB (V2.setCell ⟨s2 + 1, 0, none⟩ (Value.slice va vn vc)) bm (usedC l out)) := Lib.hid ((HMBV.out.keep hk2 (fun e => (HOJ.out _ e).2.1 rfl)).keep HK3.out (fun e => by have h5 : bm = s2 + 1 := e; have := HS3.out; omega))
                  have HOB2 : Hid (∀ j, (Value.slice va vn vc).ownBlock = some j → j = s2 ∨ W7.heap.size ≤ j) := Lib.hid (fun j e => by
                    rcases hob2 with h | h
                    · exact HOV.out j (h.symm.trans e)
                    · rw [h] at e
                      cases e
                      have h3 := HKVV.out.size
                      right
                      omega)
                  have HKW3 : Hid (Keep (fun j => j = s2 ∨ j = s2 + 1 ∨ j = bm) W7 (V2.setCell ⟨s2 + 1, 0, none⟩ (Value.slice va vn vc))) := Lib.hid ((HKVV.out.trans' hk2 (fun j e => by rcases HOV.out j e with h | h; exact .inl (.inl h); exact .inr h)).trans (HK3.out.mono (fun j e => .inr (.inl e))))
                  have HOI3 : Hid (OwnI w (out ++ [x.node]) (Value.slice va vn vc) (V2.setCell ⟨s2 + 1, 0, none⟩ (Value.slice va vn vc))) := Lib.hid ⟨hoi2.1.trans' HK3.out (fun j e => .inr (by have h5 : j = s2 + 1 := e; have := HZ.out; have := HZ2.out; omega)), ownsRow_keep hoi2.2 HK3.out (fun b hb e => by have h5 : b = s2 + 1 := e; have h1 : bm + 1 < W7.heap.size := World.block_lt_of_cell? _ _ HC9.out; have := HS3.out; rcases HOB2.out b hb with h2 | h2 <;> omega)⟩
                  clear hr hoi2 hk2 hob2
                  go_upto_region 25 with (at_builtin; refine wpList_app rfl (.tmp 85) (.tmp 89) 22 rfl rfl rfl HR.out ?_)
                  clear c7 cb0 c72 f72 HR
                  generalize V2.setCell ⟨s2 + 1, 0, none⟩ (Value.slice va vn vc) = V3 at *
                  obtain ⟨es', ck', hup, hmu⟩ := HM3.out.update (n := x.region) HXR.out
                  have HKP : Hid (Keep (fun j => j = bm) V3 (V3.putObj bm (.map es' ck'))) := Lib.hid ((Keep.refl (fun j => j = bm) V3).putObj _ (.inl rfl))
                  have HMU : Hid (MapB (V3.putObj bm (.map es' ck')) bm (usedC l (out ++ [x.node]))) := Lib.hid (by rw [HUS.out]; exact hmu)
                  have HC74 : Hid ((V3.putObj bm (.map es' ck')).cell? ⟨s2 + 1, 0, none⟩ = some (Value.slice va vn vc) ∧ (V3.putObj bm (.map es' ck')).frozen? ⟨s2 + 1, 0, none⟩ = false) := Lib.hid ⟨HKP.out.cell HC73.out.1 (fun e => by have h5 : s2 + 1 = bm := e; have := HS3.out; omega), (HKP.out.frozen (World.block_lt_of_cell? _ _ HC73.out.1) (fun e => by have h5 : s2 + 1 = bm := e; have := HS3.out; omega) 0).trans HC73.out.2⟩
                  have HOI4 : Hid (OwnI w (holdC (rkOf key) l o (i + 1)) (Value.slice va vn vc) (V3.putObj bm (.map es' ck'))) := Lib.hid (by rw [HOUT.out]; exact ⟨HOI3.out.1.trans' HKP.out (fun j e => .inr (by have h5 : j = bm := e; have := HZ.out; have := HZ2.out; have := HS3.out; omega)), ownsRow_keep HOI3.out.2 HKP.out (fun b hb e => by have h5 : b = bm := e; have h1 : bm + 1 < W7.heap.size := World.block_lt_of_cell? _ _ HC9.out; have := HS3.out; rcases HOB2.out b hb with h2 | h2 <;> omega)⟩)
                  have HMU4 : Hid (MapB (V3.putObj bm (.map es' ck')) bm (usedC l (holdC (rkOf key) l o (i + 1)))) := Lib.hid (by rw [HOUT.out]; exact HMU.out)
                  have HKW4 := Lib.hid (HKW3.out.trans (HKP.out.mono (fun j e => .inr (.inr e))))
                  clear hmu
                  go_wp2_with fail
                  clear hup c93 cb1
                  go_roundg (nn - (i + 1))
                  case rel => exact ⟨i + 1, (Value.slice va vn vc), by omega, by go_num, HOI4.out, HC74.out, HMU4.out, HKW4.out, HOB2.out⟩
                  case measure => omega
                | none =>
                  simp only [Option.isSome_none]
                  have HOUT : Hid (holdC (rkOf key) l o (i + 1) = out) := Lib.hid (by rw [HST.out]; unfold stepC nextC; rw [HSEL.out]; simp only [hs2])
                  have HOI4 : Hid (OwnI w (holdC (rkOf key) l o (i + 1)) vo V6) := Lib.hid (by rw [HOUT.out]; exact HOIV.out)
                  have HMU4 : Hid (MapB V6 bm (usedC l (holdC (rkOf key) l o (i + 1)))) := Lib.hid (by rw [HOUT.out]; exact HMBV.out)
                  clear hvx hs2 HB1 HF2 HSEL HN4
                  go_wp2_with fail
                  go_roundg (nn - (i + 1))
                  case rel => exact ⟨i + 1, vo, by omega, by go_num, HOI4.out, HC7V.out, HMU4.out, HKVV.out, HOV.out⟩
                  case measure => omega
            · obtain rfl : i = nn := by omega
              have HHL : Hid ((holdC (rkOf key) l o i).length ≤ 100) := Lib.hid (by have h1 := (holdC_ok (rk := rkOf key) HV.out.asc HOM.out i).len; have h2 := HV.out.len; omega)
              have HHB : Hid (∀ x ∈ holdC (rkOf key) l o i, I64 x) := Lib.hid (fun x hx => by
                obtain ⟨m, hm, e⟩ := List.mem_map.1 ((holdC_ok (rk := rkOf key) HV.out.asc HOM.out i).mem x hx)
                have := HV.out.ok m hm
                unfold okMb at this
                rw [← e]; unfold I64; omega)
              have HFIN : Hid (Its wr vo xs) := Lib.hid (by rw [HE.out]; exact its_owns HOI.out.2 (by have := HHL.out; omega) HHB.out)
              have HKF := Lib.hid HOI.out.1
              have c7 := HC7.out.1
              have hiz : ¬ (i : Int) < (i : Int) := by omega
              clear HOI HMB HKE
              go_wp2_with fail
              go_ret
              exact ⟨_, rfl, HFIN.out, HKF.out⟩
end Go.Proofs.YtplkmbfeeegaiaaGreatDoor

/-
  Clone of integers, of members, none too.
-/
namespace Go.Proofs.YtplkmbfeeegaiaaGreatDoor
open Go.RowKit Go.Shelf

def CloneI (xs : List Int) (w : World) (e : Ending) (w' : World) : Prop := ∃ a c, e = .returned (.slice a xs.length c) ∧ w'.ownsRow w.heap.size 3 1 (.slice a xs.length c) xs.length (xs.map (fun x => Value.int .i64 x)) ∧ Keep (fun _ => False) w w'
set_option maxRecDepth 100000 in
set_option maxHeartbeats 1000000 in
theorem cloneI_any (v : Value) (xs : List Int) (w : World) (h : Its w v xs) (hl : xs.length ≤ 1000) : Calls Tryz.prog 65 #[v] w (CloneI xs w) := by
  obtain ⟨a', c', W2, hr, k, hown⟩ := lit_its w v xs h hl
  obtain ⟨-, -, a, c, b, off, rfl, -, ha, -⟩ := h
  cases a with
  | none =>
    have hx : xs = [] := by
      apply List.eq_nil_of_length_eq_zero
      rcases Nat.eq_zero_or_pos xs.length with h | h
      · exact h
      · exact absurd (ha h) (by simp)
    subst hx
    have heq : (binOp BinOp.eql 22 (.slice none 0 c) (.slice none 0 0)).run Tryz.prog w = .ok (.bool true) w := by
      simp only [binOp]
      simp [Op.equal, Op.maxDepth, Lib.run_equalIn_slice_nil w 9999 22 3 none 0 c 0 0 Tryz.underlying22]
    clear hr k hown ha
    go_enter Tryz.func65, Tryz.ntmps65
    go_wp2_with fail
    go_ret
    exact ⟨none, 0, rfl, World.ownsRow_nil w w.heap.size 3 1, Keep.refl _ w⟩
  | some ad =>
    have heq : (binOp BinOp.eql 22 (.slice (some ad) xs.length c) (.slice none 0 0)).run Tryz.prog w = .ok (.bool false) w := by
      simp only [binOp]
      simp [Op.equal, Op.maxDepth, Lib.run_equalIn_slice_nil w 9999 22 3 (some ad) xs.length c 0 0 Tryz.underlying22]
    have HP : Hid (CloneI xs w (.returned (.slice a' xs.length c')) W2) := Lib.hid ⟨a', c', rfl, hown, k⟩
    have HR := Lib.hid hr
    clear hr k hown ha
    go_enter Tryz.func65, Tryz.ntmps65
    go_wp2_with (at_builtin; refine wpList_app rfl (.tmp 5) (.tmp 6) 22 rfl rfl rfl HR.out ?_)
    go_ret
    exact HP.out

def CloneM (l : List Mb) (w : World) (e : Ending) (w' : World) : Prop := ∃ a c, e = .returned (.slice a l.length c) ∧ w'.ownsRow w.heap.size 35 3 (.slice a l.length c) l.length (flatB l) ∧ Keep (fun _ => False) w w'
set_option maxRecDepth 100000 in
set_option maxHeartbeats 1000000 in
theorem cloneM_any (v : Value) (l : List Mb) (w : World) (h : Mbs w v l) (hl : l.length ≤ 1000) : Calls Tryz.prog 54 #[v] w (CloneM l w) := by
  obtain ⟨a', c', W2, hr, k, hown⟩ := lit_mbs w v l h hl
  obtain ⟨-, -, a, c, b, off, rfl, -, ha, -⟩ := h
  cases a with
  | none =>
    have hx : l = [] := by
      apply List.eq_nil_of_length_eq_zero
      rcases Nat.eq_zero_or_pos l.length with h | h
      · exact h
      · exact absurd (ha h) (by simp)
    subst hx
    have heq : (binOp BinOp.eql 25 (.slice none 0 c) (.slice none 0 0)).run Tryz.prog w = .ok (.bool true) w := by
      simp only [binOp]
      simp [Op.equal, Op.maxDepth, Lib.run_equalIn_slice_nil w 9999 25 35 none 0 c 0 0 Tryz.underlying25]
    clear hr k hown ha
    go_enter Tryz.func54, Tryz.ntmps54
    go_wp2_with fail
    go_ret
    exact ⟨none, 0, rfl, World.ownsRow_nil w w.heap.size 35 3, Keep.refl _ w⟩
  | some ad =>
    have heq : (binOp BinOp.eql 25 (.slice (some ad) l.length c) (.slice none 0 0)).run Tryz.prog w = .ok (.bool false) w := by
      simp only [binOp]
      simp [Op.equal, Op.maxDepth, Lib.run_equalIn_slice_nil w 9999 25 35 (some ad) l.length c 0 0 Tryz.underlying25]
    have HP : Hid (CloneM l w (.returned (.slice a' l.length c')) W2) := Lib.hid ⟨a', c', rfl, hown, k⟩
    have HR := Lib.hid hr
    clear hr k hown ha
    go_enter Tryz.func54, Tryz.ntmps54
    go_wp2_with (at_builtin; refine wpList_app rfl (.tmp 5) (.tmp 6) 25 rfl rfl rfl HR.out ?_)
    go_ret
    exact HP.out
end Go.Proofs.YtplkmbfeeegaiaaGreatDoor

/-
  Itoa of every number; Copies, Choose, Holds of package replicate.
-/
namespace Go.Proofs.YtplkmbfeeegaiaaGreatDoor
open Go.RowKit Go.Shelf
open Go.Sort (grow)

/-- The library's table of powers of ten. -/
def Pow (w : World) : Prop := Lib.TabIs Tryz.prog w "internal/strconv.uint64pow10" .u64 Lib.pow10Tab
theorem gPow : Tryz.prog.globalNamed "internal/strconv.uint64pow10" = some 1 := by kernel_rfl
theorem Pow.kept {w w' : World} (h : Pow w) (k : Keep (fun _ => False) w w') : Pow w' := by
  unfold Pow Lib.TabIs World.var? at h ⊢
  rw [gPow] at h ⊢
  simp only [Option.bind_some] at h ⊢
  have hlt : 1 < w.heap.size := by
    rcases Nat.lt_or_ge 1 w.heap.size with h' | h'
    · exact h'
    · rw [Array.getElem?_eq_none h'] at h; cases h
  rw [k.block _ hlt (fun h => h)]
  exact h
/-- A numeral of any number. -/
def digZ (n : Int) : ByteArray := ⟨(Lib.itoa n).toArray⟩
theorem digZ_nat (n : Nat) : digZ n = dig n := by unfold digZ dig; rw [Lib.itoa_nonneg]
theorem digZ_size {n : Int} (h : I64 n) : (digZ n).size ≤ 21 := by
  show (Lib.itoa n).toArray.size ≤ 21
  rw [List.size_toArray]
  exact Lib.itoa_length_le n h.1 h.2
theorem laysM : LaysM.n171 Tryz.prog Tryz.lays171_ren := { Tryz.lays171 with
  i0 := by kernel_rfl
  i2 := by kernel_rfl
  i3 := by kernel_rfl
  i4 := by kernel_rfl
  i5 := by kernel_rfl
  i9 := by kernel_rfl
  i20 := by kernel_rfl
  i37 := by kernel_rfl
  i46 := by kernel_rfl
  i51 := by kernel_rfl
  i53 := by kernel_rfl
  i171 := by kernel_rfl
  i173 := by kernel_rfl
  i212 := by kernel_rfl
  i232 := by kernel_rfl
  i233 := by kernel_rfl
  m17 := by kernel_rfl
  m18 := by kernel_rfl
  m19 := by kernel_rfl }
theorem keep_grow (w : World) (k : Nat) (os : Array Obj) : Keep (fun _ => False) w (grow (w.drewN k) os) := by
  refine ⟨rfl, rfl, rfl, ?_, fun i hi _ => ?_⟩
  · show w.heap.size ≤ (w.heap ++ os).size
    rw [Array.size_append]; omega
  · show (w.heap ++ os)[i]? = w.heap[i]?
    rw [Array.getElem?_append_left hi]
theorem itoa_any (n : Int) (h : I64 n) (w : World) (hP : Pow w) : Calls Tryz.prog 71 #[.int .i64 n] w fun e w' => e = .returned (.string (digZ n)) ∧ Keep (fun _ => False) w w' :=
  (Any.strconv_Itoa laysM n h.1 h.2 w hP).mono fun e w' ⟨h1, k, os, h2⟩ => ⟨h1, by rw [h2]; exact keep_grow w k os⟩

/-- What lies behind the first ones. -/
theorem Its.rest {W : World} {b off n c : Nat} {xs : List Int} (h : Its W (.slice (some ⟨b, off, none⟩) n c) xs) {q : Nat} (hq : q ≤ n) : Its W (.slice (if c = q then some ⟨b, off, none⟩ else some ⟨b, off + q * 1, none⟩) (n - q) (c - q)) (xs.drop q) := by
  obtain ⟨hn, hbd, a', c', b', off', e, hc, ha, hcell⟩ := h
  injection e with e1 e2 e3
  subst e1 e2 e3
  have hl : (xs.drop q).length = xs.length - q := by rw [List.length_drop]
  split
  · rename_i e
    have : xs.drop q = [] := List.drop_of_length_le (by omega)
    rw [this, show xs.length - q = 0 by omega, show c - q = 0 by omega]
    exact ⟨by simp, by simp, some ⟨b, off, none⟩, 0, 0, 0, rfl, by simp, fun h => by simp at h, fun j x hj => by simp at hj⟩
  · refine ⟨by rw [hl]; omega, fun x hx => hbd x (List.mem_of_mem_drop hx), _, c - q, b, off + q * 1, by rw [hl], by rw [hl]; omega, fun _ => rfl, fun j x hj => ?_⟩
    rw [List.getElem?_drop] at hj
    have hpos : 0 < xs.length := by have := (List.getElem?_eq_some_iff.1 hj).1; omega
    have h5 := ha hpos
    injection h5 with h5
    injection h5 with h6 h7
    subst h6 h7
    have := hcell _ _ hj
    rwa [show off + (q + j) = off + q * 1 + j by omega] at this

set_option maxRecDepth 100000 in
set_option maxHeartbeats 1000000 in
theorem copies_any (v : Value) (ep : Int) (l : List Mb) (ow : List Int) (key : ByteArray) (n : Int) (w : World) (h : Rng w v ep l ow) (hk : key.size ≤ 1000) (hT : Tab w) : Calls Tryz.prog 35 #[v, .string key, .int .i64 n] w (HoldPost w ((holdV ep l ow key n).drop 1)) := by
  have HRG := Lib.hid h
  have HT := Lib.hid hT
  obtain ⟨hb0, vm, vo, rfl, hm0, ho0⟩ := h
  obtain ⟨ma, mn, mc, rfl⟩ : ∃ a n c, vm = .slice a n c := by obtain ⟨a, c, b, off, h, _⟩ := hm0.at_; exact ⟨_, _, _, h⟩
  obtain ⟨oa, on, oc, rfl⟩ : ∃ a n c, vo = .slice a n c := by obtain ⟨a, c, b, off, h, _⟩ := ho0.at_; exact ⟨_, _, _, h⟩
  have HX := Lib.hid (Box3.new w (.int .i64 ep) (.slice ma mn mc) (.slice oa on oc) 27)
  have HK0 : Hid (Keep (fun _ => False) w (w.alloc (.cells #[.int .i64 ep, .slice ma mn mc, .slice oa on oc] 27))) := Lib.hid ((Keep.refl _ w).alloc _)
  obtain ⟨xs, hxs⟩ : ∃ xs, holdV ep l ow key n = xs := ⟨_, rfl⟩
  have HLE : Hid (xs.length ≤ 24) := Lib.hid (by rw [← hxs]; exact holdV_len ep l ow key n)
  have HH : Hid (∀ W, Keep (fun _ => False) w W → Calls Tryz.prog 81 #[ringV ep (.slice ma mn mc) (.slice oa on oc), .string key, .int .i64 n] W (HoldPost W xs)) := Lib.hid (fun W k => by rw [← hxs]; exact holders_any _ ep l ow key n W (HRG.out.kept k) hk (HT.out.kept k))
  rw [hxs]
  obtain ⟨ys, hys⟩ : ∃ ys, xs.drop 1 = ys := ⟨_, rfl⟩
  have HYS := Lib.hid hys
  have HYL : Hid (ys.length = xs.length - 1) := Lib.hid (by rw [← hys, List.length_drop])
  obtain ⟨yl, hyl⟩ : ∃ n, ys.length = n := ⟨_, rfl⟩
  have HYN := Lib.hid hyl
  have HCL : Hid (∀ v W, Its W v ys → Calls Tryz.prog 65 #[v] W fun e w' => ∃ a c, e = .returned (.slice a yl c) ∧ Its w' (.slice a yl c) ys ∧ Keep (fun _ => False) W w') := Lib.hid (fun v W hi => by
    have hyl2 := hyl
    subst hyl2
    refine (cloneI_any v ys W hi (by have := HYL.out; have := HLE.out; omega)).mono ?_
    rintro e w' ⟨a2, c2, rfl, hown, k⟩
    exact ⟨a2, c2, rfl, its_owns hown (by have := HYL.out; have := HLE.out; omega) hi.bd, k⟩)
  rw [hys]
  clear hys hyl hxs hm0 ho0 hb0 hT
  go_enter Tryz.func35, Tryz.ntmps35
  go_upto_region 1 with (fail)
  generalize w.alloc (.cells #[.int .i64 ep, .slice ma mn mc, .slice oa on oc] 27) = W0 at *
  generalize w.heap.size = z at HX ⊢
  obtain ⟨x0, x1, x2, xf⟩ := HX.out
  go_wp2_with fail
  clear x0 x1 x2 xf
  with_reducible refine (HH.out W0 HK0.out).mono ?_
  rintro e W1 ⟨vh, rfl, hit, k1⟩
  have HK1 := Lib.hid (HK0.out.trans k1)
  have HIT := Lib.hid hit
  clear k1
  obtain ⟨hn, hbd, a, c, b, off, rfl, hc, ha, hcell⟩ := hit
  have HA := Lib.hid ha
  clear hbd hcell ha
  generalize hxl : xs.length = xn at *
  have HXL := Lib.hid hxl
  have hn24 := HLE.out
  clear hxl
  by_cases h0 : xn = 0
  · subst h0
    have HD2 : Hid (∀ a c, Its W1 (.slice a 0 c) ys) := Lib.hid (fun a c => by
      have : ys = [] := List.eq_nil_of_length_eq_zero (by rw [HYL.out])
      rw [this]
      exact ⟨by simp, by simp, a, c, 0, 0, rfl, by simp, fun h => by simp at h, fun j x hj => by simp at hj⟩)
    have hmn : min (0 : Int) 1 = 0 := by decide
    clear HH HRG HIT
    go_wp2_with fail
    with_reducible refine (HCL.out _ W1 (HD2.out _ _)).mono ?_
    rintro e W2 ⟨a2, c2, rfl, hit2, k2⟩
    have HI2 := Lib.hid hit2
    have HK2 := Lib.hid (HK1.out.trans k2)
    clear hit2 k2
    go_wp2_with fail
    go_ret
    exact ⟨_, rfl, HI2.out, HK2.out⟩
  · obtain rfl := HA.out (by omega)
    have hmn : min (xn : Int) 1 = 1 := by omega
    have h1x : (1 : Int) ≤ (xn : Int) := by omega
    have HRS := Lib.hid (HIT.out.rest (q := 1) (by omega))
    have HR1 : Hid (c = 1 → Its W1 (.slice (some ⟨b, off, none⟩) (xn - 1) 0) ys) := Lib.hid (fun e => by
      have h := HRS.out
      rw [if_pos e, HYS.out] at h
      subst e
      exact h)
    have HR2 : Hid (c ≠ 1 → Its W1 (.slice (some ⟨b, off + 1, none⟩) (xn - 1) (c - 1)) ys) := Lib.hid (fun e => by
      have h := HRS.out
      rw [if_neg e, HYS.out] at h
      exact h)
    have HFIN : Hid (∀ v, Its W1 v ys → Calls Tryz.prog 65 #[v] W1 fun e w' => ∃ a c, e = .returned (.slice a yl c) ∧ Its w' (.slice a yl c) ys ∧ Keep (fun _ => False) w w') := Lib.hid (fun v hv => (HCL.out v W1 hv).mono fun e w' ⟨a, c, h1, h2, h3⟩ => ⟨a, c, h1, h2, HK1.out.trans h3⟩)
    clear HH HRG HIT HCL HRS
    go_wp2_with fail
    · with_reducible refine (HFIN.out _ (HR1.out (by omega))).mono ?_
      rintro e W2 ⟨a2, c2, rfl, hit2, k2⟩
      have HI2 := Lib.hid hit2
      have HK2 := Lib.hid k2
      clear hit2 k2
      go_wp2_with fail
      go_ret
      exact ⟨_, rfl, HI2.out, HK2.out⟩
    · with_reducible refine (HFIN.out _ (HR2.out (by omega))).mono ?_
      rintro e W2 ⟨a2, c2, rfl, hit2, k2⟩
      have HI2 := Lib.hid hit2
      have HK2 := Lib.hid k2
      clear hit2 k2
      go_wp2_with fail
      go_ret
      exact ⟨_, rfl, HI2.out, HK2.out⟩

set_option maxRecDepth 100000 in
set_option maxHeartbeats 1000000 in
theorem holds_any (v : Value) (ep : Int) (l : List Mb) (ow : List Int) (key : ByteArray) (n q : Int) (w : World) (h : Rng w v ep l ow) (hk : key.size ≤ 1000) (hT : Tab w) : Calls Tryz.prog 39 #[v, .string key, .int .i64 n, .int .i64 q] w fun e w' => e = .returned (.bool (hasI (holdV ep l ow key n) q)) ∧ Keep (fun _ => False) w w' := by
  have HRG := Lib.hid h
  have HT := Lib.hid hT
  obtain ⟨hb0, vm, vo, rfl, hm0, ho0⟩ := h
  obtain ⟨ma, mn, mc, rfl⟩ : ∃ a n c, vm = .slice a n c := by obtain ⟨a, c, b, off, h, _⟩ := hm0.at_; exact ⟨_, _, _, h⟩
  obtain ⟨oa, on, oc, rfl⟩ : ∃ a n c, vo = .slice a n c := by obtain ⟨a, c, b, off, h, _⟩ := ho0.at_; exact ⟨_, _, _, h⟩
  have HX := Lib.hid (Box3.new w (.int .i64 ep) (.slice ma mn mc) (.slice oa on oc) 27)
  have HK0 : Hid (Keep (fun _ => False) w (w.alloc (.cells #[.int .i64 ep, .slice ma mn mc, .slice oa on oc] 27))) := Lib.hid ((Keep.refl _ w).alloc _)
  obtain ⟨xs, hxs⟩ : ∃ xs, holdV ep l ow key n = xs := ⟨_, rfl⟩
  have HH : Hid (∀ W, Keep (fun _ => False) w W → Calls Tryz.prog 81 #[ringV ep (.slice ma mn mc) (.slice oa on oc), .string key, .int .i64 n] W (HoldPost W xs)) := Lib.hid (fun W k => by rw [← hxs]; exact holders_any _ ep l ow key n W (HRG.out.kept k) hk (HT.out.kept k))
  have HC : Hid (∀ v W, Its W v xs → Calls Tryz.prog 84 #[v, .int .i64 q] W fun e w' => e = .returned (.bool (hasI xs q)) ∧ W = w') := Lib.hid (fun v W hi => contains_any v xs q W hi)
  rw [hxs]
  generalize hasI xs q = ct at *
  clear hxs hm0 ho0 hb0 hT
  go_enter Tryz.func39, Tryz.ntmps39
  go_upto_region 1 with (fail)
  generalize w.alloc (.cells #[.int .i64 ep, .slice ma mn mc, .slice oa on oc] 27) = W0 at *
  generalize w.heap.size = z at HX ⊢
  obtain ⟨x0, x1, x2, xf⟩ := HX.out
  go_wp2_with fail
  clear x0 x1 x2 xf
  with_reducible refine (HH.out W0 HK0.out).mono ?_
  rintro e W1 ⟨vh, rfl, hit, k1⟩
  have HK1 := Lib.hid (HK0.out.trans k1)
  have HIT := Lib.hid hit
  clear k1 hit
  go_wp2_with fail
  with_reducible refine (HC.out vh W1 HIT.out).mono ?_
  rintro e w' ⟨rfl, rfl⟩
  go_wp2_with fail
  go_ret
  exact ⟨rfl, HK1.out⟩

/-- The node to which a client turns. -/
def cliT (key : ByteArray) (client : Int) : ByteArray := (digZ client ++ ⟨#[32]⟩) ++ key
def chooseV (xs : List Int) (key : ByteArray) (client : Int) : Int := if xs = [] then -1 else xs.getD (pt (cliT key client) % xs.length) 0
theorem cliT_size {key : ByteArray} {c : Int} (hk : key.size ≤ 1000) (hc : I64 c) : (cliT key c).size ≤ 1000000 := by
  have h1 := digZ_size hc
  unfold cliT
  rw [ByteArray.size_append, ByteArray.size_append]
  have e2 : (⟨#[32]⟩ : ByteArray).size = 1 := rfl
  omega
set_option maxRecDepth 100000 in
set_option maxHeartbeats 1000000 in
theorem choose_raw (v : Value) (ep : Int) (l : List Mb) (ow : List Int) (key : ByteArray) (n c : Int) (w : World) (h : Rng w v ep l ow) (hk : key.size ≤ 1000) (hc : I64 c) (hT : Tab w)
    (hI : holdV ep l ow key n ≠ [] → ∀ W, Keep (fun _ => False) w W → Calls Tryz.prog 71 #[.int .i64 c] W fun e w' => e = .returned (.string (digZ c)) ∧ Keep (fun _ => False) W w') :
    Calls Tryz.prog 37 #[v, .string key, .int .i64 n, .int .i64 c] w fun e w' => e = .returned (.int .i64 (chooseV (holdV ep l ow key n) key c)) ∧ Keep (fun _ => False) w w' := by
  have HRG := Lib.hid h
  have HT := Lib.hid hT
  obtain ⟨hb0, vm, vo, rfl, hm0, ho0⟩ := h
  obtain ⟨ma, mn, mc, rfl⟩ : ∃ a n c, vm = .slice a n c := by obtain ⟨a, c, b, off, h, _⟩ := hm0.at_; exact ⟨_, _, _, h⟩
  obtain ⟨oa, on, oc, rfl⟩ : ∃ a n c, vo = .slice a n c := by obtain ⟨a, c, b, off, h, _⟩ := ho0.at_; exact ⟨_, _, _, h⟩
  have HX := Lib.hid (Box3.new w (.int .i64 ep) (.slice ma mn mc) (.slice oa on oc) 27)
  have HK0 : Hid (Keep (fun _ => False) w (w.alloc (.cells #[.int .i64 ep, .slice ma mn mc, .slice oa on oc] 27))) := Lib.hid ((Keep.refl _ w).alloc _)
  obtain ⟨xs, hxs⟩ : ∃ xs, holdV ep l ow key n = xs := ⟨_, rfl⟩
  have HLE : Hid (xs.length ≤ 24) := Lib.hid (by rw [← hxs]; exact holdV_len ep l ow key n)
  have HH : Hid (∀ W, Keep (fun _ => False) w W → Calls Tryz.prog 81 #[ringV ep (.slice ma mn mc) (.slice oa on oc), .string key, .int .i64 n] W (HoldPost W xs)) := Lib.hid (fun W k => by rw [← hxs]; exact holders_any _ ep l ow key n W (HRG.out.kept k) hk (HT.out.kept k))
  rw [hxs] at hI ⊢
  have HI := Lib.hid hI
  have HPT : Hid (∀ W, Keep (fun _ => False) w W → Calls Tryz.prog 70 #[.string ((digZ c ++ ⟨#[32]⟩) ++ key)] W fun e w' => e = .returned (.int .i64 (pt (cliT key c) : Nat)) ∧ W = w') := Lib.hid (fun W k => point_any (cliT key c) (cliT_size hk hc) W (HT.out.kept k))
  have HCV : Hid (∀ x, xs[pt (cliT key c) % xs.length]? = some x → chooseV xs key c = x) := Lib.hid (fun x hx => by
    unfold chooseV
    rw [if_neg (fun e => by rw [e] at hx; simp at hx), List.getD_eq_getElem?_getD, hx]; rfl)
  have HCN : Hid (xs.length = 0 → chooseV xs key c = -1) := Lib.hid (fun h => by unfold chooseV; rw [if_pos (List.eq_nil_of_length_eq_zero h)])
  have hds := digZ_size hc
  generalize digZ c = dc at *
  generalize chooseV xs key c = cv at *
  generalize pt (cliT key c) = pv at *
  clear hxs hm0 ho0 hb0 hT hI
  go_enter Tryz.func37, Tryz.ntmps37
  go_upto_region 1 with (fail)
  generalize w.alloc (.cells #[.int .i64 ep, .slice ma mn mc, .slice oa on oc] 27) = W0 at *
  generalize w.heap.size = z at HX ⊢
  obtain ⟨x0, x1, x2, xf⟩ := HX.out
  go_wp2_with fail
  clear x0 x1 x2 xf
  with_reducible refine (HH.out W0 HK0.out).mono ?_
  rintro e W1 ⟨vh, rfl, hit, k1⟩
  have HK1 := Lib.hid (HK0.out.trans k1)
  have HIT := Lib.hid hit
  clear k1
  obtain ⟨hn, hbd, a, cp, b, off, rfl, hcp, ha, hcell⟩ := hit
  have HA := Lib.hid ha
  have HCE := Lib.hid hcell
  clear hbd hcell ha
  have HNE : Hid (0 < xs.length → xs ≠ []) := Lib.hid (fun h e => by rw [e] at h; simp at h)
  generalize hxl : xs.length = xn at *
  have HXL2 := Lib.hid hxl
  clear hxl
  by_cases h0 : xn = 0
  · subst h0
    have HE := Lib.hid (HCN.out rfl)
    clear HH HRG HIT
    go_wp2_with fail
    go_ret
    exact ⟨by rw [HE.out]; rfl, HK1.out⟩
  · have hx0 : ((xn : Int) == 0) = false := by simp; omega
    obtain rfl := HA.out (by omega)
    have HK21 : Hid (∀ {W2 : World}, Keep (fun _ => False) W1 W2 → ∀ j x, xs[j]? = some x → W2.cell? ⟨b, off + j, none⟩ = some (.int .i64 x)) := Lib.hid (fun k j x hj => k.cell (HCE.out j x hj) (fun h => h))
    clear HH HRG HIT
    go_wp2_with fail
    with_reducible refine (HI.out (HNE.out (by omega)) W1 HK1.out).mono ?_
    rintro e W2 ⟨rfl, k2⟩
    have HK2 := Lib.hid (HK1.out.trans k2)
    have hlt : pv % xn < xn := Nat.mod_lt pv (by omega)
    obtain ⟨x, hx⟩ : ∃ x, xs[pv % xn]? = some x := ⟨_, List.getElem?_eq_getElem (by rw [HXL2.out]; exact hlt)⟩
    have HE := Lib.hid (HCV.out x hx)
    have cx := HK21.out k2 (pv % xn) x hx
    have hz1 : ¬ (9223372036854775807 < dc.size + 1) := by omega
    have hz2 : ¬ (9223372036854775807 < dc.size + 1 + key.size) := by omega
    have hmz : ((pv : Int) % (xn : Int)) = ((pv % xn : Nat) : Int) := by omega
    clear hx k2
    generalize pv % xn = r at *
    go_wp2_with fail
    with_reducible refine (HPT.out W2 HK2.out).mono ?_
    rintro e w' ⟨rfl, rfl⟩
    go_wp2_with fail
    go_ret
    exact ⟨by rw [HE.out]; rfl, HK2.out⟩
theorem choose_any (v : Value) (ep : Int) (l : List Mb) (ow : List Int) (key : ByteArray) (n c : Int) (w : World) (h : Rng w v ep l ow) (hk : key.size ≤ 1000) (hc : I64 c) (hT : Tab w) (hP : Pow w) : Calls Tryz.prog 37 #[v, .string key, .int .i64 n, .int .i64 c] w fun e w' => e = .returned (.int .i64 (chooseV (holdV ep l ow key n) key c)) ∧ Keep (fun _ => False) w w' :=
  choose_raw v ep l ow key n c w h hk hc hT (fun _ W k => itoa_any c hc W (hP.kept k))
theorem choose_small (v : Value) (ep : Int) (l : List Mb) (ow : List Int) (key : ByteArray) (n : Int) (c : Nat) (w : World) (h : Rng w v ep l ow) (hk : key.size ≤ 1000) (hc : c < 100) (hT : Tab w) : Calls Tryz.prog 37 #[v, .string key, .int .i64 n, .int .i64 c] w fun e w' => e = .returned (.int .i64 (chooseV (holdV ep l ow key n) key c)) ∧ Keep (fun _ => False) w w' :=
  choose_raw v ep l ow key n c w h hk (by unfold I64; omega) hT (fun _ W k => (itoa_small c hc W).mono fun e w' ⟨h1, h2⟩ => ⟨by rw [h1, digZ_nat], by rw [← h2]; exact Keep.refl _ _⟩)
end Go.Proofs.YtplkmbfeeegaiaaGreatDoor

/-
  The reference's within, Valid, Limit, Slot, Load, Owner.
-/
namespace Go.Proofs.YtplkmbfeeegaiaaGreatDoor
open Go.RowKit Go.Shelf

set_option maxRecDepth 100000 in
theorem rwithin_b (n lo hi : Int) (b : Bool) (h : decide (lo ≤ n ∧ n ≤ hi) = b) (w : World) : Calls Tryz.prog 104 #[.int .i64 n, .int .i64 lo, .int .i64 hi] w fun e w' => e = .returned (.bool b) ∧ w = w' := by
  by_cases h1 : lo ≤ n
  · by_cases h2 : n ≤ hi
    · obtain rfl : true = b := by rw [← h, decide_eq_true ⟨h1, h2⟩]
      clear h
      go_enter Tryz.func104, Tryz.ntmps104
      go_wp2
      go_ret
      exact ⟨by simp, rfl⟩
    · obtain rfl : false = b := by rw [← h, decide_eq_false (fun e => h2 e.2)]
      clear h
      go_enter Tryz.func104, Tryz.ntmps104
      go_wp2
      go_ret
      exact ⟨by simp, rfl⟩
  · obtain rfl : false = b := by rw [← h, decide_eq_false (fun e => h1 e.1)]
    clear h
    go_enter Tryz.func104, Tryz.ntmps104
    go_wp2
    go_ret
    exact ⟨rfl, rfl⟩

/-- The first k members are in order. -/
def goodK (l : List Mb) (k : Nat) : Prop := ∀ i m, i < k → l[i]? = some m → okMb m ∧ ∀ p, 1 ≤ i → l[i - 1]? = some p → p.node < m.node
theorem goodK_all {l : List Mb} (h1 : 1 ≤ l.length) (h : goodK l l.length) : VL l := by
  refine ⟨fun m hm => ?_, ?_, fun e => by rw [e] at h1; simp at h1⟩
  · obtain ⟨i, hi⟩ := List.mem_iff_getElem?.1 hm
    exact (h i m (List.getElem?_eq_some_iff.1 hi).1 hi).1
  · rw [List.pairwise_iff_getElem]
    intro i j hi hj hij
    obtain ⟨d, rfl⟩ : ∃ d, j = i + 1 + d := ⟨j - i - 1, by omega⟩
    induction d with
    | zero =>
      have := (h (i + 1) _ hj (List.getElem?_eq_getElem hj)).2 l[i] (by omega) (by rw [Nat.add_sub_cancel]; exact List.getElem?_eq_getElem hi)
      simpa using this
    | succ d ih =>
      have h1 := ih (by omega) (by omega)
      have h2 := (h (i + 1 + (d + 1)) _ hj (List.getElem?_eq_getElem hj)).2 (l[i + 1 + d]'(by omega)) (by omega) (by rw [show i + 1 + (d + 1) - 1 = i + 1 + d by omega]; exact List.getElem?_eq_getElem (by omega))
      omega
theorem VL.good {l : List Mb} (h : VL l) (k : Nat) : goodK l k := by
  intro i m _ hm
  refine ⟨h.ok m (List.mem_of_getElem? hm), fun p h1 hp => ?_⟩
  obtain ⟨hi, rfl⟩ := List.getElem?_eq_some_iff.1 hm
  obtain ⟨hj, rfl⟩ := List.getElem?_eq_some_iff.1 hp
  exact List.pairwise_iff_getElem.1 h.asc _ _ hj hi (by omega)
theorem validL_false {l : List Mb} (h : ¬ VL l) : validL l = false := by
  cases e : validL l with
  | false => rfl
  | true => exact absurd ((validL_iff l).1 e) h

set_option maxRecDepth 100000 in
set_option maxHeartbeats 4000000 in
theorem refValid_any (v : Value) (l : List Mb) (w : World) (h : Mbs w v l) : Calls Tryz.prog 75 #[v] w fun e w' => e = .returned (.bool (validL l)) ∧ Keep (fun _ => False) w w' := by
  obtain ⟨hn, -, a, c, b, off, rfl, hc, ha, hcell⟩ := h
  have HC := Lib.hid hcell
  have HA := Lib.hid ha
  clear hcell ha
  obtain ⟨n, hn'⟩ : ∃ n, l.length = n := ⟨_, rfl⟩
  have HL := Lib.hid hn'
  rw [hn'] at hn hc ⊢
  clear hn'
  by_cases hlen : 1 ≤ (n : Int) ∧ (n : Int) ≤ 24
  · have HW : Hid (∀ W, Calls Tryz.prog 104 #[.int .i64 (n : Int), .int .i64 1, .int .i64 24] W fun e w' => e = .returned (.bool true) ∧ W = w') := Lib.hid (fun W => rwithin_b n 1 24 true (decide_eq_true hlen) W)
    go_enter Tryz.func75, Tryz.ntmps75
    go_wp2_with fail
    with_reducible refine (HW.out _).mono ?_
    rintro e w' ⟨rfl, rfl⟩
    clear HW
    go_wp2_with fail
    go_loopg [3] n (fun gh v wr => ∃ (k : Nat), gh + k = n ∧ v = .int .i64 k ∧ goodK l k ∧ Keep (fun _ => False) w wr)
    case atStart => exact ⟨0, by omega, rfl, fun i m h => absurd h (by omega), Keep.refl _ _⟩
    case round =>
      obtain ⟨k, hk, rfl, hgood, hkeep⟩ := hrel
      have HG := Lib.hid hgood
      have HK := Lib.hid hkeep
      clear hgood hkeep
      by_cases hlt : k < n
      · obtain ⟨m, hm⟩ : ∃ m, l[k]? = some m := ⟨_, List.getElem?_eq_getElem (by have := HL.out; omega)⟩
        obtain rfl := HA.out (by have := HL.out; omega)
        have c0 := HK.out.cell (HC.out k m hm).1 (fun h => h)
        have c1 := HK.out.cell (HC.out k m hm).2.1 (fun h => h)
        have c2 := HK.out.cell (HC.out k m hm).2.2 (fun h => h)
        have HM := Lib.hid hm
        have hkz : (k : Int) < (n : Int) := by omega
        have hk0 : (0 : Int) ≤ (k : Int) := by omega
        clear hm
        obtain ⟨mn, mr, mw⟩ := m
        simp only [] at c0 c1 c2
        have HK2 : Hid (Keep (fun _ => False) wr (wr.alloc (.cells #[.int .i64 mn, .int .i64 mr, .int .i64 mw] 35))) := Lib.hid ((Keep.refl _ wr).alloc _)
        have HT3 := Lib.hid (three_cell wr (.int .i64 mn) (.int .i64 mr) (.int .i64 mw) 35)
        go_wp2_with fail
        clear c0 c1 c2
        generalize wr.alloc (.cells #[.int .i64 mn, .int .i64 mr, .int .i64 mw] 35) = W2 at *
        generalize wr.heap.size = z at *
        have d0 : W2.cell? ⟨z, 0, none⟩ = some (.int .i64 mn) := HT3.out.1
        have d1 : W2.cell? ⟨z, 1, none⟩ = some (.int .i64 mr) := HT3.out.2.1
        have d2 : W2.cell? ⟨z, 2, none⟩ = some (.int .i64 mw) := HT3.out.2.2.1
        have HKK := Lib.hid (HK.out.trans HK2.out)
        by_cases h1 : 0 ≤ mn ∧ mn ≤ 23
        · have H1 : Hid (∀ W, Calls Tryz.prog 104 #[.int .i64 mn, .int .i64 0, .int .i64 23] W fun e w' => e = .returned (.bool true) ∧ W = w') := Lib.hid (fun W => rwithin_b mn 0 23 true (decide_eq_true h1) W)
          by_cases h2 : 0 ≤ mr ∧ mr ≤ 3
          · have H2 : Hid (∀ W, Calls Tryz.prog 104 #[.int .i64 mr, .int .i64 0, .int .i64 3] W fun e w' => e = .returned (.bool true) ∧ W = w') := Lib.hid (fun W => rwithin_b mr 0 3 true (decide_eq_true h2) W)
            by_cases h3 : 1 ≤ mw ∧ mw ≤ 16
            · have H3 : Hid (∀ W, Calls Tryz.prog 104 #[.int .i64 mw, .int .i64 1, .int .i64 16] W fun e w' => e = .returned (.bool true) ∧ W = w') := Lib.hid (fun W => rwithin_b mw 1 16 true (decide_eq_true h3) W)
              have HOK : Hid (okMb ⟨mn, mr, mw⟩) := Lib.hid (by unfold okMb; simp only []; omega)
              clear h1 h2 h3
              by_cases hk1 : k = 0
              · subst hk1
                have HN : Hid (goodK l (0 + 1)) := Lib.hid (fun i m hi hm => by
                  obtain rfl : i = 0 := by omega
                  rw [HM.out] at hm
                  cases hm
                  exact ⟨HOK.out, fun p h => absurd h (by omega)⟩)
                go_quiet (first | (go_at_call 104; with_reducible exact quiet_same (H1.out _)) | (go_at_call 104; with_reducible exact quiet_same (H2.out _)) | (go_at_call 104; with_reducible exact quiet_same (H3.out _)))
                go_wp2_with fail
                go_roundg (gk - 1)
                case rel => exact ⟨0 + 1, by omega, by go_num, HN.out, HKK.out.drewN _⟩
                case measure => omega
              · obtain ⟨q, rfl⟩ : ∃ q, k = q + 1 := ⟨k - 1, by omega⟩
                clear hk1
                obtain ⟨p, hp⟩ : ∃ p, l[q]? = some p := ⟨_, List.getElem?_eq_getElem (by have := HL.out; omega)⟩
                have p0 := HKK.out.cell (HC.out q p hp).1 (fun h => h)
                have hqz : (q : Int) < (n : Int) := by omega
                have hq0 : (0 : Int) ≤ (q : Int) := by omega
                have HP := Lib.hid hp
                clear hp
                obtain ⟨pn, pr, pw⟩ := p
                simp only [] at p0
                have ek : ((q + 1 : Nat) : Int) - 1 = (q : Int) := by omega
                have hgt : (0 : Int) < ((q + 1 : Nat) : Int) := by omega
                have hw1 : IntKind.i64.wrap (q : Int) = (q : Int) := wrapI (by unfold I64; omega)
                by_cases hlt2 : pn < mn
                · have HN : Hid (goodK l (q + 1 + 1)) := Lib.hid (fun i m hi hm => by
                    by_cases e : i < q + 1
                    · exact HG.out i m e hm
                    · obtain rfl : i = q + 1 := by omega
                      rw [HM.out] at hm
                      cases hm
                      refine ⟨HOK.out, fun p _ hp => ?_⟩
                      rw [Nat.add_sub_cancel, HP.out] at hp
                      cases hp
                      exact hlt2)
                  go_quiet (first | (go_at_call 104; with_reducible exact quiet_same (H1.out _)) | (go_at_call 104; with_reducible exact quiet_same (H2.out _)) | (go_at_call 104; with_reducible exact quiet_same (H3.out _)))
                  go_wp2_with fail
                  go_roundg (gk - 1)
                  case rel => exact ⟨q + 1 + 1, by omega, by go_num, HN.out, HKK.out.drewN _⟩
                  case measure => omega
                · have HF : Hid (validL l = false) := Lib.hid (validL_false (fun hv => by
                    have := (hv.good (q + 2) (q + 1) _ (by omega) HM.out).2 _ (by omega) (by rw [Nat.add_sub_cancel]; exact HP.out)
                    exact hlt2 this))
                  go_quiet (first | (go_at_call 104; with_reducible exact quiet_same (H1.out _)) | (go_at_call 104; with_reducible exact quiet_same (H2.out _)) | (go_at_call 104; with_reducible exact quiet_same (H3.out _)))
                  go_wp2_with fail
                  go_ret
                  exact ⟨by rw [HF.out] <;> rfl, HKK.out.drewN _⟩
            · have H3 : Hid (∀ W, Calls Tryz.prog 104 #[.int .i64 mw, .int .i64 1, .int .i64 16] W fun e w' => e = .returned (.bool false) ∧ W = w') := Lib.hid (fun W => rwithin_b mw 1 16 false (decide_eq_false h3) W)
              have HF : Hid (validL l = false) := Lib.hid (validL_false (fun hv => by
                have := (hv.good (k + 1) k _ (by omega) HM.out).1
                unfold okMb at this
                simp only [] at this
                omega))
              clear h1 h2 h3
              go_quiet (first | (go_at_call 104; with_reducible exact quiet_same (H1.out _)) | (go_at_call 104; with_reducible exact quiet_same (H2.out _)) | (go_at_call 104; with_reducible exact quiet_same (H3.out _)))
              go_wp2_with fail
              go_ret
              exact ⟨by rw [HF.out] <;> rfl, HKK.out.drewN _⟩
          · have H2 : Hid (∀ W, Calls Tryz.prog 104 #[.int .i64 mr, .int .i64 0, .int .i64 3] W fun e w' => e = .returned (.bool false) ∧ W = w') := Lib.hid (fun W => rwithin_b mr 0 3 false (decide_eq_false h2) W)
            have HF : Hid (validL l = false) := Lib.hid (validL_false (fun hv => by
              have := (hv.good (k + 1) k _ (by omega) HM.out).1
              unfold okMb at this
              simp only [] at this
              omega))
            clear h1 h2
            go_quiet (first | (go_at_call 104; with_reducible exact quiet_same (H1.out _)) | (go_at_call 104; with_reducible exact quiet_same (H2.out _)))
            go_wp2_with fail
            go_ret
            exact ⟨by rw [HF.out] <;> rfl, HKK.out.drewN _⟩
        · have H1 : Hid (∀ W, Calls Tryz.prog 104 #[.int .i64 mn, .int .i64 0, .int .i64 23] W fun e w' => e = .returned (.bool false) ∧ W = w') := Lib.hid (fun W => rwithin_b mn 0 23 false (decide_eq_false h1) W)
          have HF : Hid (validL l = false) := Lib.hid (validL_false (fun hv => by
            have := (hv.good (k + 1) k _ (by omega) HM.out).1
            unfold okMb at this
            simp only [] at this
            omega))
          clear h1
          go_quiet ((go_at_call 104; with_reducible exact quiet_same (H1.out _)))
          go_wp2_with fail
          go_ret
          exact ⟨by rw [HF.out] <;> rfl, HKK.out.drewN _⟩
      · obtain rfl : k = n := by omega
        have HV : Hid (validL l = true) := Lib.hid ((validL_iff l).2 (goodK_all (by have := HL.out; omega) (by rw [HL.out]; exact HG.out)))
        go_wp2_with fail
        go_ret
        exact ⟨by rw [HV.out] <;> rfl, HK.out⟩
  · have HW : Hid (∀ W, Calls Tryz.prog 104 #[.int .i64 (n : Int), .int .i64 1, .int .i64 24] W fun e w' => e = .returned (.bool false) ∧ W = w') := Lib.hid (fun W => rwithin_b n 1 24 false (decide_eq_false hlen) W)
    have HF : Hid (validL l = false) := Lib.hid (validL_false (fun hv => by
      have h1 := hv.len
      have h2 : 0 < l.length := List.length_pos_iff.2 hv.ne
      have h3 := HL.out
      omega))
    go_enter Tryz.func75, Tryz.ntmps75
    go_wp2_with fail
    with_reducible refine (HW.out _).mono ?_
    rintro e w' ⟨rfl, rfl⟩
    go_wp2_with fail
    go_ret
    exact ⟨by rw [HF.out] <;> rfl, Keep.refl _ w⟩

/-- The weight of the last one of a node. -/
def ownW (l : List Mb) (n : Int) (k : Nat) : Int := match findN ((l.take k).reverse) n with | some m => m.weight | none => 0
theorem ownW_zero (l : List Mb) (n : Int) : ownW l n 0 = 0 := by unfold ownW findN; simp
theorem ownW_succ {l : List Mb} {k : Nat} {m : Mb} (h : l[k]? = some m) (n : Int) : ownW l n (k + 1) = if m.node = n then m.weight else ownW l n k := by
  unfold ownW findN
  rw [List.take_add_one, h]
  simp only [Option.toList_some, List.reverse_append, List.reverse_cons, List.reverse_nil, List.nil_append, List.singleton_append, List.find?_cons]
  by_cases e : m.node = n <;> simp [e]
theorem ownW_nn {l : List Mb} (hv : VL l) (n : Int) (k : Nat) : 0 ≤ ownW l n k ∧ ownW l n k ≤ 16 := by
  unfold ownW
  cases h : findN (l.take k).reverse n with
  | none => simp
  | some m =>
    have hm := (findN_some h).1
    have := hv.ok m (List.mem_of_mem_take (List.mem_reverse.1 hm))
    unfold okMb at this
    simp only []
    omega
theorem limit_ownW {l : List Mb} (hv : VL l) (n : Int) {k : Nat} (hk : l.length ≤ k) : limitL l n = (80 * ownW l n k + wsum l - 1).tdiv (wsum l) := by
  have hs := hv.wsum
  have hb := ownW_nn hv n k
  rw [Int.tdiv_eq_ediv_of_nonneg (by omega)]
  unfold ownW
  rw [List.take_of_length_le hk]
  cases h : findN l.reverse n with
  | none =>
    have hnone : ∀ m ∈ l, m.node ≠ n := fun m hm e => by
      unfold findN at h
      rw [List.find?_eq_none] at h
      exact h m (List.mem_reverse.2 hm) (by simpa using e)
    rw [limitL_none hnone]
    simp only []
    rw [Int.ediv_eq_zero_of_lt (by omega) (by omega)]
  | some m =>
    obtain ⟨hm, rfl⟩ := findN_some h
    rw [limitL_mem hv (List.mem_reverse.1 hm)]

set_option maxRecDepth 100000 in
set_option maxHeartbeats 2000000 in
theorem refLimit_any (v : Value) (l : List Mb) (w : World) (h : Mbs w v l) (q : Int) : Calls Tryz.prog 76 #[v, .int .i64 q] w fun e w' => e = .returned (.int .i64 (limitL l q)) ∧ Keep (fun _ => False) w w' := by
  have HVA := Lib.hid (refValid_any v l w h)
  obtain ⟨hn, -, a, c, b, off, rfl, hc, ha, hcell⟩ := h
  have HC := Lib.hid hcell
  have HA := Lib.hid ha
  clear hcell ha
  obtain ⟨n, hn'⟩ : ∃ n, l.length = n := ⟨_, rfl⟩
  have HL := Lib.hid hn'
  rw [hn'] at hn hc HVA ⊢
  clear hn'
  by_cases hv : VL l
  · have HV := Lib.hid hv
    have hws := hv.wsum
    rw [(validL_iff l).2 hv] at HVA
    clear hv
    go_enter Tryz.func76, Tryz.ntmps76
    go_wp2_with fail
    with_reducible refine HVA.out.mono ?_
    rintro e W1 ⟨rfl, k1⟩
    have HK1 := Lib.hid k1
    clear k1 HVA
    go_wp2_with fail
    go_loopg [5, 6, 7] n (fun gh v5 v6 v wr => ∃ (k : Nat), gh + k = n ∧ v = .int .i64 k ∧ v5 = .int .i64 (wsum (l.take k)) ∧ v6 = .int .i64 (ownW l q k) ∧ Keep (fun _ => False) w wr)
    case atStart => exact ⟨0, by omega, rfl, by simp [wsum], by rw [ownW_zero], HK1.out⟩
    case round =>
      obtain ⟨k, hk, rfl, rfl, rfl, hkeep⟩ := hrel
      have HK := Lib.hid hkeep
      clear hkeep
      have hwt := wsum_take HV.out.ok k
      have hob := ownW_nn HV.out q k
      by_cases hlt : k < n
      · obtain ⟨m, hm⟩ : ∃ m, l[k]? = some m := ⟨_, List.getElem?_eq_getElem (by have := HL.out; omega)⟩
        obtain rfl := HA.out (by have := HL.out; omega)
        have c0 := HK.out.cell (HC.out k m hm).1 (fun h => h)
        have c2 := HK.out.cell (HC.out k m hm).2.2 (fun h => h)
        have HWS := Lib.hid (wsum_succ hm)
        have HOW := Lib.hid (ownW_succ hm q)
        have hok := HV.out.ok m (List.mem_of_getElem? hm)
        unfold okMb at hok
        have hkz : (k : Int) < (n : Int) := by omega
        have hk0 : (0 : Int) ≤ (k : Int) := by omega
        clear hm
        obtain ⟨mn, mr, mw⟩ := m
        simp only [] at c0 c2 hok HWS HOW
        generalize wsum (l.take k) = s0 at *
        generalize ownW l q k = o0 at *
        generalize wsum l = sall at *
        have hws1 : IntKind.i64.wrap (s0 + mw) = s0 + mw := wrapI (by unfold I64; omega)
        by_cases hq : mn = q
        · have HOW2 : Hid (ownW l q (k + 1) = mw) := Lib.hid (by rw [HOW.out, if_pos hq])
          subst hq
          go_wp2_with fail
          clear c0 c2
          go_roundg (gk - 1)
          case rel => exact ⟨k + 1, by omega, by go_num, by rw [HWS.out], by rw [HOW2.out], HK.out⟩
          case measure => omega
        · have HOW2 : Hid (ownW l q (k + 1) = o0) := Lib.hid (by rw [HOW.out, if_neg hq])
          go_wp2_with fail
          clear c0 c2
          go_roundg (gk - 1)
          case rel => exact ⟨k + 1, by omega, by go_num, by rw [HWS.out], by rw [HOW2.out], HK.out⟩
          case measure => omega
      · obtain rfl : k = n := by omega
        have HALL : Hid (wsum (l.take k) = wsum l) := Lib.hid (by rw [List.take_of_length_le (by have := HL.out; omega)])
        have HLM := Lib.hid (limit_ownW HV.out q (k := k) (by have := HL.out; omega))
        rw [HALL.out]
        clear HALL hwt
        generalize wsum l = s0 at *
        generalize ownW l q k = o0 at *
        have hx1 : IntKind.i64.wrap (80 * o0) = 80 * o0 := wrapI (by unfold I64; omega)
        have hx2 : IntKind.i64.wrap (80 * o0 + s0) = 80 * o0 + s0 := wrapI (by unfold I64; omega)
        have hx3 : IntKind.i64.wrap (80 * o0 + s0 - 1) = 80 * o0 + s0 - 1 := wrapI (by unfold I64; omega)
        have hnz : s0 ≠ 0 := by omega
        have hd : I64 ((80 * o0 + s0 - 1).tdiv s0) := by
          rw [← HLM.out]
          have := limitL_nn l q
          unfold I64; omega
        have hx4 : IntKind.i64.wrap ((80 * o0 + s0 - 1).tdiv s0) = (80 * o0 + s0 - 1).tdiv s0 := wrapI hd
        clear hd
        go_wp2_with fail
        go_ret
        exact ⟨by rw [HLM.out] <;> rfl, HK.out⟩
  · have HB : Hid (limitL l q = 0) := Lib.hid (limitL_bad hv)
    rw [validL_false hv] at HVA
    go_enter Tryz.func76, Tryz.ntmps76
    go_wp2_with fail
    with_reducible refine HVA.out.mono ?_
    rintro e W1 ⟨rfl, k1⟩
    have HK1 := Lib.hid k1
    clear k1 HVA
    go_wp2_with fail
    go_ret
    exact ⟨by rw [HB.out] <;> rfl, HK1.out⟩
end Go.Proofs.YtplkmbfeeegaiaaGreatDoor

/-
  The reference's Load, Slot, Owner, ValidRing, Same.
-/
namespace Go.Proofs.YtplkmbfeeegaiaaGreatDoor
open Go.RowKit Go.Shelf

set_option maxRecDepth 100000 in
set_option maxHeartbeats 1000000 in
theorem refLoad_any (v : Value) (ep : Int) (l : List Mb) (ow : List Int) (w : World) (h : Rng w v ep l ow) (q : Int) : Calls Tryz.prog 105 #[v, .int .i64 q] w fun e w' => e = .returned (.int .i64 (cnt ow q)) ∧ Keep (fun _ => False) w w' := by
  obtain ⟨-, vm, vo, rfl, -, hi⟩ := h
  obtain ⟨hn, -, a, c, b, off, rfl, hc, ha, hcell⟩ := hi
  have HC := Lib.hid hcell
  have HA := Lib.hid ha
  clear hcell ha
  obtain ⟨n, hn'⟩ : ∃ n, ow.length = n := ⟨_, rfl⟩
  have HL := Lib.hid hn'
  rw [hn'] at hn hc ⊢
  clear hn'
  have HK0 : Hid (Keep (fun _ => False) w (w.alloc (.cells #[.int .i64 ep, vm, .slice a n c] 27))) := Lib.hid ((Keep.refl _ w).alloc _)
  have HT3 := Lib.hid (three_cell w (.int .i64 ep) vm (.slice a n c) 27)
  go_enter Tryz.func105, Tryz.ntmps105
  go_wp2_with fail
  generalize w.alloc (.cells #[.int .i64 ep, vm, .slice a n c] 27) = W0 at *
  generalize w.heap.size = z at *
  have d2 : W0.cell? ⟨z, 2, none⟩ = some (.slice a n c) := HT3.out.2.2.1
  go_loopg [5, 6] n (fun gh v5 v wr => ∃ k : Nat, gh + k = n ∧ v = .int .i64 k ∧ v5 = .int .i64 (cnt (ow.take k) q) ∧ wr = W0)
  case atStart => exact ⟨0, by omega, rfl, by simp [cnt], rfl⟩
  case round =>
    obtain ⟨k, hk, rfl, rfl, rfl⟩ := hrel
    by_cases hlt : k < n
    · obtain ⟨x, hx⟩ : ∃ x, ow[k]? = some x := ⟨_, List.getElem?_eq_getElem (by have := HL.out; omega)⟩
      obtain rfl := HA.out (by have := HL.out; omega)
      have c1 := HK0.out.cell (HC.out k x hx) (fun h => h)
      have HS := Lib.hid (cnt_take_succ hx q)
      have hb0 := cnt_nn (ow.take k) q
      have hb1 : cnt (ow.take k) q ≤ k := by
        unfold cnt
        have := List.count_le_length (a := q) (l := ow.take k)
        rw [List.length_take] at this
        omega
      have hkz : (k : Int) < (n : Int) := by omega
      have hk0 : (0 : Int) ≤ (k : Int) := by omega
      clear hx
      generalize cnt (ow.take k) q = s0 at *
      by_cases hxq : x = q
      · subst hxq
        have hbe : (x == x) = true := by simp
        go_wp2_with fail
        go_roundg (gk - 1)
        case rel => exact ⟨k + 1, by omega, by go_num, by rw [HS.out]; simp, rfl⟩
        case measure => omega
      · have hbe : (x == q) = false := by simpa using hxq
        have HN := Lib.hid hxq
        clear hxq
        go_wp2_with fail
        go_roundg (gk - 1)
        case rel => exact ⟨k + 1, by omega, by go_num, by rw [HS.out, if_neg (fun e => HN.out e.symm), Int.add_zero], rfl⟩
        case measure => omega
    · have HE : Hid (cnt (ow.take k) q = cnt ow q) := Lib.hid (by rw [List.take_of_length_le (by have := HL.out; omega)])
      rw [HE.out]
      go_wp2_with fail
      go_ret
      exact ⟨rfl, HK0.out⟩

set_option maxRecDepth 100000 in
theorem refSlot_any (s : ByteArray) (hs : s.size ≤ 1000000) (w : World) : Calls Tryz.prog 140 #[.string s] w fun e w' => e = .returned (.int .i64 (slotOf s : Nat)) ∧ w = w' := by
  have HS := Lib.hid (refPoint_any s hs w)
  have hl := pt_lt s
  have HZ : Hid ((slotOf s : Int) = (pt s : Int) % 64) := Lib.hid (by unfold slotOf; omega)
  generalize slotOf s = z at *
  generalize pt s = p at *
  go_enter Tryz.func140, Tryz.ntmps140
  go_wp2_with fail
  with_reducible refine HS.out.mono ?_
  rintro e w' ⟨rfl, rfl⟩
  go_wp2_with fail
  go_ret
  exact ⟨by rw [HZ.out] <;> rfl, rfl⟩
set_option maxRecDepth 100000 in
set_option maxHeartbeats 1000000 in
theorem refOwner_any (v : Value) (ep : Int) (l : List Mb) (ow : List Int) (w : World) (h : Rng w v ep l ow) (key : ByteArray) (hk : key.size ≤ 1000000) : Calls Tryz.prog 120 #[v, .string key] w fun e w' => e = .returned (.int .i64 (ownerOf ow key)) ∧ Keep (fun _ => False) w w' := by
  obtain ⟨-, vm, vo, rfl, -, hi⟩ := h
  obtain ⟨hn, -, a, c, b, off, rfl, hc, ha, hcell⟩ := hi
  have HC := Lib.hid hcell
  have HA := Lib.hid ha
  have HK0 : Hid (Keep (fun _ => False) w (w.alloc (.cells #[.int .i64 ep, vm, .slice a ow.length c] 27))) := Lib.hid ((Keep.refl _ w).alloc _)
  have HT3 := Lib.hid (three_cell w (.int .i64 ep) vm (.slice a ow.length c) 27)
  have HS : Hid (∀ W, Calls Tryz.prog 140 #[.string key] W fun e w' => e = .returned (.int .i64 (slotOf key : Nat)) ∧ W = w') := Lib.hid (fun W => refSlot_any key hk W)
  have hsl := slotOf_lt key
  clear hcell ha
  by_cases h64 : ow.length = 64
  · have HO : Hid (ownerOf ow key = ow.getD (slotOf key) 0) := Lib.hid (by unfold ownerOf; rw [if_pos h64])
    obtain ⟨x, hx⟩ : ∃ x, ow[slotOf key]? = some x := ⟨_, List.getElem?_eq_getElem (by omega)⟩
    have HX : Hid (ownerOf ow key = x) := Lib.hid (by rw [HO.out, List.getD_eq_getElem?_getD, hx]; rfl)
    obtain rfl := HA.out (by omega)
    have HCX := Lib.hid (HC.out _ x hx)
    rw [h64] at hn hc HK0 HT3 ⊢
    clear hx h64
    generalize slotOf key = sl at *
    go_enter Tryz.func120, Tryz.ntmps120
    go_wp2_with fail
    generalize w.alloc (.cells #[.int .i64 ep, vm, .slice (some ⟨b, off, none⟩) 64 c] 27) = W0 at *
    generalize w.heap.size = z at *
    have d2 : W0.cell? ⟨z, 2, none⟩ = some (.slice (some ⟨b, off, none⟩) 64 c) := HT3.out.2.2.1
    have dx : W0.cell? ⟨b, off + sl, none⟩ = some (.int .i64 x) := HK0.out.cell HCX.out (fun h => h)
    have hs0 : (0 : Int) ≤ (sl : Int) := by omega
    have hs1 : (sl : Int) < 64 := by omega
    go_quiet ((go_at_call 140; exact quiet_same (HS.out _)))
    go_wp2_with fail
    go_ret
    exact ⟨by rw [HX.out] <;> rfl, HK0.out.drewN _⟩
  · have HO : Hid (ownerOf ow key = -1) := Lib.hid (by unfold ownerOf; rw [if_neg h64])
    obtain ⟨n, hn'⟩ : ∃ n, ow.length = n := ⟨_, rfl⟩
    rw [hn'] at hn hc h64 HK0 ⊢
    have hne : ((n : Int) != 64) = true := by simp; omega
    clear hn' h64 HT3
    go_enter Tryz.func120, Tryz.ntmps120
    go_wp2_with fail
    go_ret
    exact ⟨by rw [HO.out] <;> rfl, HK0.out⟩

set_option maxRecDepth 100000 in
set_option maxHeartbeats 4000000 in
theorem refSame_any (va vb : Value) (ep ep' : Int) (l l' : List Mb) (ow ow' : List Int) (w : World) (ha : Rng w va ep l ow) (hb : Rng w vb ep' l' ow') : Calls Tryz.prog 24 #[va, vb] w fun e w' => e = .returned (.bool (decide (ep = ep') && (decide (l = l') && decide (ow = ow')))) ∧ Keep (fun _ => False) w w' := by
  obtain ⟨-, vm, vo, rfl, hm, ho⟩ := ha
  obtain ⟨-, vm', vo', rfl, hm', ho'⟩ := hb
  obtain ⟨oa, on, oc, rfl⟩ : ∃ a n c, vo = .slice a n c := by
    obtain ⟨a', c', b', off', h2, _⟩ := ho.at_
    exact ⟨_, _, _, h2⟩
  obtain ⟨oa', on', oc', rfl⟩ : ∃ a n c, vo' = .slice a n c := by
    obtain ⟨a', c', b', off', h2, _⟩ := ho'.at_
    exact ⟨_, _, _, h2⟩
  have HEI : Hid (∀ W, Keep (fun _ => False) w W → Calls Tryz.prog 26 #[.slice oa on oc, .slice oa' on' oc'] W fun e w' => e = .returned (.bool (decide (ow = ow'))) ∧ Keep (fun _ => False) W w') := Lib.hid (fun W k => sameInts_any _ _ ow ow' W (ho.kept k) (ho'.kept k))
  clear ho ho'
  obtain ⟨hn1, -, ma, mc, b, off, rfl, hc, ha, hcell⟩ := hm
  obtain ⟨hn2, -, ma', mc', b', off', rfl, hc', ha', hcell'⟩ := hm'
  have HCA := Lib.hid hcell
  have HCB := Lib.hid hcell'
  have HAA := Lib.hid ha
  have HAB := Lib.hid ha'
  clear hcell hcell' ha ha'
  obtain ⟨mn, hmn⟩ : ∃ n, l.length = n := ⟨_, rfl⟩
  obtain ⟨mn', hmn'⟩ : ∃ n, l'.length = n := ⟨_, rfl⟩
  have HLA := Lib.hid hmn
  have HLB := Lib.hid hmn'
  rw [hmn] at hn1 hc ⊢
  rw [hmn'] at hn2 hc' ⊢
  clear hmn hmn'
  have t1 := three_cell w (.int .i64 ep) (.slice ma mn mc) (.slice oa on oc) 27
  have t2 := three_cell (w.alloc (.cells #[.int .i64 ep, .slice ma mn mc, .slice oa on oc] 27)) (.int .i64 ep') (.slice ma' mn' mc') (.slice oa' on' oc') 27
  have k1 : Keep (fun _ => False) w (w.alloc (.cells #[.int .i64 ep, .slice ma mn mc, .slice oa on oc] 27)) := (Keep.refl _ w).alloc _
  have k2 : Keep (fun _ => False) (w.alloc (.cells #[.int .i64 ep, .slice ma mn mc, .slice oa on oc] 27)) ((w.alloc (.cells #[.int .i64 ep, .slice ma mn mc, .slice oa on oc] 27)).alloc (.cells #[.int .i64 ep', .slice ma' mn' mc', .slice oa' on' oc'] 27)) := (Keep.refl _ _).alloc _
  have HX := Lib.hid (And.intro (k2.cell t1.1 (fun h => h)) (And.intro (k2.cell t1.2.1 (fun h => h)) (k2.cell t1.2.2.1 (fun h => h))))
  rw [World.size_alloc] at t2
  have HY := Lib.hid t2
  have HK := Lib.hid (k1.trans k2)
  clear t1 t2 k1 k2
  go_enter Tryz.func24, Tryz.ntmps24
  by_cases he : ep = ep'
  · have hbe : (ep != ep') = false := by simpa using he
    have HE := Lib.hid (decide_eq_true he)
    clear he
    by_cases hl : mn = mn'
    · subst hl
      have hble : ((mn : Int) != (mn : Int)) = false := by simp
      go_wp2_with fail
      generalize (w.alloc (.cells #[.int .i64 ep, .slice ma mn mc, .slice oa on oc] 27)).alloc (.cells #[.int .i64 ep', .slice ma' mn mc', .slice oa' on' oc'] 27) = W1 at *
      generalize w.heap.size = z at *
      with_reducible refine (HEI.out _ HK.out).mono ?_
      rintro e W2 ⟨rfl, k2⟩
      have HK2 := Lib.hid (HK.out.trans k2)
      have x1 := k2.cell HX.out.2.1 (fun h => h)
      have y1 := k2.cell HY.out.2.1 (fun h => h)
      clear k2
      cases ho : decide (ow = ow') with
      | true =>
        have HO := Lib.hid ho
        clear ho
        go_wp2_with fail
        go_loopg [5] (mn) (fun gh i wr => ∃ (k m : Nat), gh + k = mn ∧ i = .int .i64 k ∧ wr = W2.drewN m ∧ Hid (l.take k = l'.take k))
        case atStart => exact ⟨0, 0, Nat.add_zero _, rfl, rfl, rfl⟩
        case round =>
          obtain ⟨k, m, hk, rfl, rfl, HE2⟩ := hrel
          by_cases hlt : k < mn
          · have hkx : k < l.length := by rw [HLA.out]; exact hlt
            have hky : k < l'.length := by rw [HLB.out]; exact hlt
            obtain rfl := HAA.out (by omega)
            obtain rfl := HAB.out (by omega)
            have t1 : l.take (k + 1) = l.take k ++ [l[k]] := by rw [List.take_add_one, List.getElem?_eq_getElem hkx]; rfl
            have t2 : l'.take (k + 1) = l'.take k ++ [l'[k]] := by rw [List.take_add_one, List.getElem?_eq_getElem hky]; rfl
            have hb0 : (0 : Int) ≤ (k : Int) := by omega
            have hb1 : (k : Int) < (mn : Int) := by omega
            obtain ⟨qa0, qa1, qa2⟩ := HCA.out k _ (List.getElem?_eq_getElem hkx)
            obtain ⟨qb0, qb1, qb2⟩ := HCB.out k _ (List.getElem?_eq_getElem hky)
            have ca0 := HK2.out.cell qa0 (fun h => h)
            have ca1 := HK2.out.cell qa1 (fun h => h)
            have ca2 := HK2.out.cell qa2 (fun h => h)
            have cb0 := HK2.out.cell qb0 (fun h => h)
            have cb1 := HK2.out.cell qb1 (fun h => h)
            have cb2 := HK2.out.cell qb2 (fun h => h)
            clear qa0 qa1 qa2 qb0 qb1 qb2
            have hgd : Tryz.prog.eqGuardType Tryz.prog.depth 35 = false := by kernel_rfl
            -- the elements
            by_cases hst : l[k] = l'[k]
            · have HT : Hid (l.take (k + 1) = l'.take (k + 1)) := by
                show _ = _
                rw [t1, t2, HE2.out, hst]
              rw [← hst] at cb0 cb1 cb2
              clear t1 t2 hst
              generalize l[k] = x at *
              clear hkx hky
              obtain ⟨m0, m1, m2⟩ := x
              simp only [] at ca0 ca1 ca2 cb0 cb1 cb2
              go_wp2_with fail
              go_quiet (fail)
              go_wp2_with fail
              go_roundg (gk - 1)
              case rel => exact ⟨k + 1, _, by omega, by go_num, by first | rfl | exact World.drewN_drewN _ _ _, HT⟩
              case measure => omega
            · have HT : Hid (decide (l = l') = false) := Lib.hid (by
                rw [decide_eq_false_iff_not]
                intro e
                subst e
                exact hst rfl)
              generalize l[k] = x at *
              generalize l'[k] = y at *
              obtain ⟨m0, m1, m2⟩ := x
              obtain ⟨n0, n1, n2⟩ := y
              simp only [] at ca0 ca1 ca2 cb0 cb1 cb2
              have hst' : ¬ (m0 = n0 ∧ m1 = n1 ∧ m2 = n2) := fun ⟨a, b, c⟩ => hst (by rw [a, b, c])
              clear hkx hky t1 t2 hst
              by_cases q1 : m0 = n0
              · by_cases q2 : m1 = n1
                · have q3 : ¬ m2 = n2 := fun h => hst' ⟨q1, q2, h⟩
                  clear hst'
                  go_wp2_with fail
                  go_quiet (fail)
                  go_wp2_with fail
                  go_ret
                  exact ⟨by rw [HE.out, HT.out] <;> rfl, (HK2.out.drewN _).drewN _⟩
                · clear hst'
                  go_wp2_with fail
                  go_quiet (fail)
                  go_wp2_with fail
                  go_ret
                  exact ⟨by rw [HE.out, HT.out] <;> rfl, (HK2.out.drewN _).drewN _⟩
              · clear hst'
                go_wp2_with fail
                go_quiet (fail)
                go_wp2_with fail
                go_ret
                exact ⟨by rw [HE.out, HT.out] <;> rfl, (HK2.out.drewN _).drewN _⟩
          · have HT : Hid (decide (l = l') = true) := by
              show _ = _
              rw [decide_eq_true_eq]
              have h1 := HE2.out
              rw [List.take_of_length_le (by have := HLA.out; omega), List.take_of_length_le (by have := HLB.out; omega)] at h1
              exact h1
            go_wp2_with fail
            go_ret
            exact ⟨by rw [HE.out, HT.out, HO.out] <;> rfl, HK2.out.drewN _⟩
      | false =>
        have HO := Lib.hid ho
        clear ho
        go_wp2_with fail
        go_ret
        exact ⟨by rw [HO.out, Bool.and_false, Bool.and_false] <;> rfl, HK2.out⟩
    · have hble : ((mn : Int) != (mn' : Int)) = true := by simp; omega
      have HT : Hid (decide (l = l') = false) := Lib.hid (by
        rw [decide_eq_false_iff_not]
        intro e
        subst e
        have := HLA.out
        have := HLB.out
        omega)
      clear hl
      go_wp2_with fail
      go_ret
      exact ⟨by rw [HT.out, Bool.false_and, Bool.and_false] <;> rfl, HK.out⟩
  · have hbe : (ep != ep') = true := by simpa using he
    have HE := Lib.hid (decide_eq_false he)
    clear he
    go_wp2_with fail
    go_ret
    exact ⟨by rw [HE.out] <;> rfl, HK.out⟩

set_option maxRecDepth 100000 in
set_option maxHeartbeats 4000000 in
theorem refValidRing_any (v : Value) (ep : Int) (l : List Mb) (ow : List Int) (w : World) (h : Rng w v ep l ow) : Calls Tryz.prog 66 #[v] w fun e w' => e = .returned (.bool (validRB ep l ow)) ∧ Keep (fun _ => False) w w' := by
  have HR := Lib.hid h
  obtain ⟨-, vm, vo, rfl, hmb, hi⟩ := h
  have HLI : Hid (∀ W q, Keep (fun _ => False) w W → Calls Tryz.prog 76 #[vm, .int .i64 q] W fun e w' => e = .returned (.int .i64 (limitL l q)) ∧ Keep (fun _ => False) W w') := Lib.hid (fun W q k => refLimit_any vm l W (hmb.kept k) q)
  have HVA : Hid (∀ W, Keep (fun _ => False) w W → Calls Tryz.prog 75 #[vm] W fun e w' => e = .returned (.bool (validL l)) ∧ Keep (fun _ => False) W w') := Lib.hid (fun W k => refValid_any vm l W (hmb.kept k))
  have hform : ∃ ma mn mc, vm = .slice ma mn mc := by
    obtain ⟨a, c, b, off, h1, _⟩ := hmb.at_
    exact ⟨_, _, _, h1⟩
  obtain ⟨ma, mn, mc, rfl⟩ := hform
  obtain ⟨hn, hbd, a, c, b, off, rfl, hc, ha, hcell⟩ := hi
  have HC := Lib.hid hcell
  have HA := Lib.hid ha
  clear hcell ha hmb hbd
  obtain ⟨n, hn'⟩ : ∃ n, ow.length = n := ⟨_, rfl⟩
  have HL := Lib.hid hn'
  rw [hn'] at hn hc HR ⊢
  clear hn'
  have HLD : Hid (∀ W q, Keep (fun _ => False) w W → Calls Tryz.prog 105 #[.agg #[.int .i64 ep, .slice ma mn mc, .slice a n c], .int .i64 q] W fun e w' => e = .returned (.int .i64 (cnt ow q)) ∧ Keep (fun _ => False) W w') := Lib.hid (fun W q k => refLoad_any _ ep l ow W (HR.out.kept k) q)
  clear HR
  have HK0 : Hid (Keep (fun _ => False) w (w.alloc (.cells #[.int .i64 ep, .slice ma mn mc, .slice a n c] 27))) := Lib.hid ((Keep.refl _ w).alloc _)
  have HT3 := Lib.hid (three_cell w (.int .i64 ep) (.slice ma mn mc) (.slice a n c) 27)
  go_enter Tryz.func66, Tryz.ntmps66
  by_cases hep : 1 ≤ ep ∧ ep ≤ 1000000
  · have HE := Lib.hid (decide_eq_true hep)
    go_wp2_with fail
    generalize w.alloc (.cells #[.int .i64 ep, .slice ma mn mc, .slice a n c] 27) = W0 at *
    generalize w.heap.size = z at *
    with_reducible refine (rwithin_b ep 1 1000000 true HE.out _).mono ?_
    rintro e w' ⟨rfl, rfl⟩
    have d1 : W0.cell? ⟨z, 1, none⟩ = some (.slice ma mn mc) := HT3.out.2.1
    have d2 : W0.cell? ⟨z, 2, none⟩ = some (.slice a n c) := HT3.out.2.2.1
    go_wp2_with fail
    clear d1 d2
    with_reducible refine (HVA.out _ HK0.out).mono ?_
    rintro e W1 ⟨rfl, k1⟩
    have HK1 := Lib.hid (HK0.out.trans k1)
    have HZ0 := Lib.hid (k1.cell HT3.out.1 (fun h => h))
    have HZ1 := Lib.hid (k1.cell HT3.out.2.1 (fun h => h))
    have HZ2 := Lib.hid (k1.cell HT3.out.2.2.1 (fun h => h))
    clear k1
    by_cases hv : VL l
    · have HV := Lib.hid ((validL_iff l).2 hv)
      rw [HV.out]
      have d2 := HZ2.out
      by_cases h64 : n = 64
      · subst h64
        go_wp2_with fail
        clear d2
        go_loopg [3] 64 (fun gh v wr => ∃ k : Nat, gh + k = 64 ∧ v = .int .i64 k ∧ (∀ x ∈ ow.take k, cnt ow x ≤ limitL l x) ∧ Keep (fun _ => False) W1 wr)
        case atStart => exact ⟨0, by omega, rfl, by simp, Keep.refl _ _⟩
        case round =>
          obtain ⟨k, hk, rfl, hall, hkeep⟩ := hrel
          have HALL := Lib.hid hall
          have HK := Lib.hid hkeep
          clear hall hkeep
          have d2 := HK.out.cell HZ2.out (fun h => h)
          by_cases hlt : k < 64
          · obtain ⟨x, hx⟩ : ∃ x, ow[k]? = some x := ⟨_, List.getElem?_eq_getElem (by have := HL.out; omega)⟩
            obtain rfl := HA.out (by have := HL.out; omega)
            have HCX := Lib.hid (HC.out k x hx)
            have HX := Lib.hid hx
            clear hx
            have hkz : (k : Int) < 64 := by omega
            have hk0 : (0 : Int) ≤ (k : Int) := by omega
            have HLDx : Hid (∀ W, Keep (fun _ => False) w W → Calls Tryz.prog 105 #[.agg #[.int .i64 ep, .slice ma mn mc, .slice (some ⟨b, off, none⟩) 64 c], .int .i64 x] W fun e w' => e = .returned (.int .i64 (cnt ow x)) ∧ Keep (fun _ => False) W w') := Lib.hid (fun W k => HLD.out W x k)
            have HLIx : Hid (∀ W, Keep (fun _ => False) w W → Calls Tryz.prog 76 #[.slice ma mn mc, .int .i64 x] W fun e w' => e = .returned (.int .i64 (limitL l x)) ∧ Keep (fun _ => False) W w') := Lib.hid (fun W k => HLI.out W x k)
            have z0 : ∀ p : KW wr, p.val.cell? ⟨z, 0, none⟩ = some (.int .i64 ep) := fun p => p.k.cell (HK.out.cell HZ0.out (fun h => h)) (fun h => h)
            have z1 : ∀ p : KW wr, p.val.cell? ⟨z, 1, none⟩ = some (.slice ma mn mc) := fun p => p.k.cell (HK.out.cell HZ1.out (fun h => h)) (fun h => h)
            have z2 : ∀ p : KW wr, p.val.cell? ⟨z, 2, none⟩ = some (.slice (some ⟨b, off, none⟩) 64 c) := fun p => p.k.cell (HK.out.cell HZ2.out (fun h => h)) (fun h => h)
            have zx : ∀ p : KW wr, p.val.cell? ⟨b, off + k, none⟩ = some (.int .i64 x) := fun p => p.k.cell ((HK1.out.trans HK.out).cell HCX.out (fun h => h)) (fun h => h)
            by_cases hle : cnt ow x ≤ limitL l x
            · have HN : Hid (∀ y ∈ ow.take (k + 1), cnt ow y ≤ limitL l y) := Lib.hid (fun y hy => by
                rw [List.take_add_one, HX.out] at hy
                rcases List.mem_append.1 hy with hy | hy
                · exact HALL.out y hy
                · simp at hy; subst hy; exact hle)
              generalize cnt ow x = cx at *
              generalize limitL l x = lx at *
              have hng : ¬ (lx < cx) := by omega
              go_wp2_with fail
              clear d2
              refine wp_region_quiet_kept (by kernel_rfl) (by kernel_rfl) ?_
              repeat (quiet_step (first | (go_at_call 105; refine Calls.kept_of (HLDx.out _ ((HK1.out.trans HK.out).trans (KW.k _)))) | (go_at_call 76; refine Calls.kept_of (HLIx.out _ ((HK1.out.trans HK.out).trans (KW.k _))))))
              refine wpQuiet_nil ?_
              rintro _ ⟨p, rfl⟩
              have HP := Lib.hid (HK.out.trans p.k)
              clear z0 z1 z2 zx
              generalize p.val = W2 at *
              go_wp2_with fail
              go_roundg (gk - 1)
              case rel => exact ⟨k + 1, by omega, by go_num, HN.out, HP.out⟩
              case measure => omega
            · have HB : Hid (validRB ep l ow = false) := Lib.hid (by
                cases e : validRB ep l ow with
                | false => rfl
                | true =>
                  have := ((validRB_iff ep l ow).1 e).2.2.2.2 x
                  exact absurd this hle)
              generalize cnt ow x = cx at *
              generalize limitL l x = lx at *
              have hng : lx < cx := by omega
              go_wp2_with fail
              clear d2
              refine wp_region_quiet_kept (by kernel_rfl) (by kernel_rfl) ?_
              repeat (quiet_step (first | (go_at_call 105; refine Calls.kept_of (HLDx.out _ ((HK1.out.trans HK.out).trans (KW.k _)))) | (go_at_call 76; refine Calls.kept_of (HLIx.out _ ((HK1.out.trans HK.out).trans (KW.k _))))))
              refine wpQuiet_nil ?_
              rintro _ ⟨p, rfl⟩
              have HP := Lib.hid (HK1.out.trans (HK.out.trans p.k))
              clear z0 z1 z2 zx
              generalize p.val = W2 at *
              go_wp2_with fail
              go_ret
              exact ⟨by rw [HB.out] <;> rfl, HP.out⟩
          · obtain rfl : k = 64 := by omega
            have HB : Hid (validRB ep l ow = true) := Lib.hid (by
              have h1 := HALL.out
              rw [List.take_of_length_le (by have := HL.out; omega)] at h1
              unfold validRB
              rw [HE.out, HV.out, HL.out]
              simp only [decide_true, Bool.and_true, List.all_eq_true]
              exact fun y hy => decide_eq_true (h1 y hy))
            go_wp2_with fail
            go_ret
            exact ⟨by rw [HB.out] <;> rfl, HK1.out.trans HK.out⟩
      · have hne : ((n : Int) != 64) = true := by simp; omega
        have HB : Hid (validRB ep l ow = false) := Lib.hid (by unfold validRB; rw [HL.out, decide_eq_false h64]; simp)
        clear h64
        go_wp2_with fail
        go_ret
        exact ⟨by rw [HB.out] <;> rfl, HK1.out⟩
    · have HV := Lib.hid (validL_false hv)
      have HB : Hid (validRB ep l ow = false) := Lib.hid (by unfold validRB; rw [HV.out]; simp)
      rw [HV.out]
      go_wp2_with fail
      go_ret
      exact ⟨by rw [HB.out] <;> rfl, HK1.out⟩
  · have HE := Lib.hid (decide_eq_false hep)
    have HB : Hid (validRB ep l ow = false) := Lib.hid (by unfold validRB; rw [HE.out]; simp)
    go_wp2_with fail
    generalize w.alloc (.cells #[.int .i64 ep, .slice ma mn mc, .slice a n c] 27) = W0 at *
    with_reducible refine (rwithin_b ep 1 1000000 false HE.out _).mono ?_
    rintro e w' ⟨rfl, rfl⟩
    go_wp2_with fail
    go_ret
    exact ⟨by rw [HB.out] <;> rfl, HK0.out⟩
end Go.Proofs.YtplkmbfeeegaiaaGreatDoor

/-
  The reference's Assign.
-/
namespace Go.Proofs.YtplkmbfeeegaiaaGreatDoor
open Go.RowKit Go.Shelf

theorem slotT_ref' (s : Nat) : (⟨#[115, 108, 111, 116, 32]⟩ : ByteArray) ++ dig s = slotT s := by
  apply Go.WideShapes.bytes_inj
  simp [slotT, txt, addT]
/-- How many slots each node has, in an array. -/
def loadsL (ow : List Int) : List Int := (List.range 24).map (fun n : Nat => cnt ow n)
theorem loadsL_len (ow : List Int) : (loadsL ow).length = 24 := by simp [loadsL]
theorem loadsL_get {ow : List Int} {n : Nat} (hn : n < 24) : (loadsL ow)[n]? = some (cnt ow n) := by
  unfold loadsL
  rw [List.getElem?_map, List.getElem?_range hn]
  rfl
theorem loadsL_nil : loadsL [] = List.replicate 24 0 := by decide
theorem loadsL_snoc {ow : List Int} {n : Nat} (hn : n < 24) : loadsL (ow ++ [(n : Int)]) = (loadsL ow).set n (cnt ow n + 1) := by
  apply List.ext_getElem?
  intro i
  by_cases hi : i < 24
  · rw [loadsL_get hi, cnt_snoc]
    by_cases e : n = i
    · subst e
      rw [List.getElem?_set_self (by rw [loadsL_len]; exact hn), if_pos rfl]
    · rw [List.getElem?_set_ne e, loadsL_get hi, if_neg (by omega), Int.add_zero]
  · rw [List.getElem?_eq_none (by rw [loadsL_len]; omega), List.getElem?_eq_none (by rw [List.length_set, loadsL_len]; omega)]
theorem asg_succ (l : List Mb) (s : Nat) : asg PN QS l (s + 1) = stepA (ords PN l (QS s)) (asg PN QS l s) := rfl

set_option maxRecDepth 100000 in
set_option maxHeartbeats 8000000 in
theorem refAssign_ok (v : Value) (l : List Mb) (w : World) (h : Mbs w v l) (hv : VL l) : Calls Tryz.prog 114 #[v] w (AsgPost l w) := by
  have HVA := Lib.hid (refValid_any v l w h)
  rw [(validL_iff l).2 hv] at HVA
  have HM := Lib.hid h
  have HV := Lib.hid hv
  have HCL := Lib.hid (circ_len hv)
  have HCS : Hid ((circ PN l).Pairwise ltMk) := Lib.hid (circ_sorted PN hv.asc)
  obtain ⟨va, vn, vc, rfl⟩ : ∃ a n c, v = .slice a n c := by
    obtain ⟨a, c, b, off, h1, _⟩ := h.at_
    exact ⟨_, _, _, h1⟩
  clear h hv
  go_enter Tryz.func114, Tryz.ntmps114
  go_wp2_with fail
  with_reducible refine HVA.out.mono ?_
  rintro e W1 ⟨rfl, k1⟩
  have HK1 := Lib.hid k1
  clear k1 HVA
  go_wp2_with fail
  with_reducible refine (spots_any _ l _ (HM.out.kept HK1.out) HV.out).mono ?_
  rintro e W2 ⟨vs, rfl, hos⟩
  have HO := Lib.hid hos
  have HK2 := Lib.hid (HK1.out.trans hos.1)
  clear hos HK1
  obtain ⟨c, hc⟩ : ∃ c, circ PN l = c := ⟨_, rfl⟩
  have HC := Lib.hid hc
  rw [hc] at HO HCL HCS
  clear hc
  obtain ⟨n, hn⟩ : ∃ n, c.length = n := ⟨_, rfl⟩
  have HN := Lib.hid hn
  have hn2 : n ≤ 1536 := by have := HCL.out; omega
  have hn1 : 0 < n := by
    rw [← hn, ← HC.out]
    obtain ⟨m, hm⟩ := List.exists_mem_of_ne_nil l HV.out.ne
    have hok := HV.out.ok m hm
    unfold okMb at hok
    have hx0 : (⟨PN m.node 0, m.node, ((0 : Nat) : Int)⟩ : Mk) ∈ circ PN l := (mem_circ PN).2 ⟨m, hm, (mem_drawM PN).2 ⟨rfl, 0, by omega, rfl, rfl⟩⟩
    exact List.length_pos_of_mem hx0
  clear hn
  obtain ⟨sb, sc, hse⟩ : ∃ b cc, vs = .slice (some ⟨b, 0, none⟩) n cc := by
    rcases HO.out.form with ⟨_, h2⟩ | ⟨b, cc, h1⟩
    · have := HN.out; rw [h2] at this; simp at this; omega
    · exact ⟨b, cc, by rw [h1, HN.out]⟩
  subst hse
  have HSC : Hid (∀ (j : Nat) (x : Mk), c[j]? = some x → W2.cell? ⟨sb, j * 2, none⟩ = some (.int .i64 x.point) ∧ W2.cell? ⟨sb, j * 2 + 1, none⟩ = some (.int .i64 x.node)) := Lib.hid (fun j x hj => by
    have h3 := HO.out.2
    rw [HN.out] at h3
    have hj1 : j < n := by have := (List.getElem?_eq_some_iff.1 hj).1; have := HN.out; omega
    constructor
    · rw [h3.cellAt (j * 2) (by omega)]; exact flat_get encSp_len c j x 0 hj (by decide)
    · rw [h3.cellAt (j * 2 + 1) (by omega)]; exact flat_get encSp_len c j x 1 hj (by decide))
  clear HO
  obtain ⟨i0, hi, hz0, hz1, hz2⟩ := info_parts infoInt
  obtain ⟨W3, hmk, hown3, hgr3⟩ := run_makeSlice_full (P := Tryz.prog) W2 W2.heap.size 22 3 i0 _ 1 Tryz.underlying22 hi hz0 hz1 .i64 .i64 24 (by decide) (by rw [hz2]; decide) (by decide) (Nat.le_refl _)
  have hmk' : (Instr.makeSlice 22 (.int .i64 24) (.int .i64 24)).run Tryz.prog W2 = .ok (.slice (some ⟨W2.heap.size, 0, none⟩) 24 24) W3 := hmk
  have HOWN3 : Hid (W3.ownsRow W2.heap.size 3 1 (.slice (some ⟨W2.heap.size, 0, none⟩) 24 24) 24 ((loadsL []).map (fun x => Value.int .i64 x))) := Lib.hid (by
    have h := hown3
    rw [show (madeCells (Value.int .i64 0).cells (24 * 1)).toList = (loadsL []).map (fun x => Value.int .i64 x) by
      rw [loadsL_nil, List.map_replicate]
      exact toList_madeCells_one _ _] at h
    exact h)
  have HK23 : Hid (Keep (fun _ => False) W2 W3) := Lib.hid ((Keep.of_grown hgr3).mono (fun j e => by cases e))
  clear hmk hown3 hgr3 hi hz0 hz1 hz2
  generalize hg : W2.heap.size = g at hmk' HOWN3
  have HG := Lib.hid hg
  clear hg
  have HSZ3 : Hid (g < W3.heap.size) := Lib.hid (HOWN3.out.lt g rfl).2
  go_wp2_with fail
  clear hmk'
  have HSG : Hid (sb ≠ g) := Lib.hid (by
    obtain ⟨y, hy⟩ : ∃ y, c[0]? = some y := ⟨_, List.getElem?_eq_getElem (by rw [HN.out]; exact hn1)⟩
    have h := World.block_lt_of_cell? _ _ (HSC.out 0 y hy).1
    simp only [] at h
    have := HG.out
    omega)
  have HMG : Hid (∀ b, (Value.slice va vn vc).ownBlock = some b → b ≠ g) := Lib.hid (fun b hb => by
    obtain ⟨-, -, a, c', b', off, he, hc', ha, hcell⟩ := HM.out
    have hl0 : 0 < l.length := List.length_pos_iff.2 HV.out.ne
    have ha' := ha hl0
    obtain ⟨h1, _, _⟩ := Value.slice.inj he
    rw [h1, ha'] at hb
    cases hb
    have h := World.block_lt_of_cell? _ _ (hcell 0 _ (List.getElem?_eq_getElem hl0)).1
    simp only [] at h
    have := HG.out
    have := HK2.out.size
    show b' ≠ g
    omega)
  go_loopg [6, 7] 64 (fun gh v6 v7 wr => ∃ (s : Nat), gh + s = 64 ∧ v7 = .int .i64 s ∧ Keep (fun j => j = g) W3 wr ∧ wr.ownsRow W3.heap.size 3 1 v6 (asg PN QS l s).2.length ((asg PN QS l s).2.map (fun x => Value.int .i64 x)) ∧ wr.ownsRow g 3 1 (.slice (some ⟨g, 0, none⟩) 24 24) 24 ((loadsL (asg PN QS l s).2).map (fun x => Value.int .i64 x)))
  case atStart => exact ⟨0, by omega, rfl, Keep.refl _ _, World.ownsRow_nil _ _ _ _, by rw [← HG.out] at HOWN3 ⊢; exact HOWN3.out⟩
  case round =>
    clear HOWN3
    obtain ⟨s, hs, rfl, hkg, how, hld⟩ := hrel
    have HKG := Lib.hid hkg
    have HOW := Lib.hid how
    have HLD := Lib.hid hld
    clear hkg how hld
    by_cases hlt : s < 64
    · have HASG := Lib.hid (assign_at PN QS HV.out (show s ≤ 80 by omega))
      have HNX := Lib.hid (asg_succ l s)
      obtain ⟨st, hst⟩ : ∃ st, asg PN QS l s = st := ⟨_, rfl⟩
      rw [show assignK (fun s => ords PN l (QS s)) (limitL l) s = st from hst] at HASG
      rw [hst] at HOW HLD HNX
      have hsz : (s : Int) < 64 := by omega
      have hs0 : (0 : Int) ≤ (s : Int) := by omega
      have HSS := Lib.hid (And.intro hs hlt)
      have hd1 : (dig s).size ≤ 2 := dig_size (by omega)
      have HPT : Hid (∀ W, Calls Tryz.prog 78 #[.string ((⟨#[115, 108, 111, 116, 32]⟩ : ByteArray) ++ dig s)] W fun e w' => e = .returned (.int .i64 (QS s)) ∧ W = w') := Lib.hid (fun W => by
        rw [slotT_ref']
        exact refPoint_any _ (slotT_size (by omega)) W)
      have HDG : Hid (∀ W, Calls Tryz.prog 79 #[.int .i64 (s : Int)] W fun e w' => e = .returned (.string (dig s)) ∧ Keep (fun _ => False) W w') := Lib.hid (fun W => digits_any s (by omega) W)
      generalize dig s = ds at *
      have hz1 : ¬ (9223372036854775807 < 5 + ds.size) := by omega
      clear hs hlt hst
      go_wp2_with fail
      with_reducible refine (HDG.out _).mono ?_
      rintro e Y ⟨rfl, kk⟩
      have HYS := Lib.hid kk
      clear kk
      go_wp2_with fail
      with_reducible refine (HPT.out _).mono ?_
      rintro e w' ⟨rfl, rfl⟩
      have HLD2 := Lib.hid (ownsRow_keep HLD.out HYS.out (fun _ _ h => h))
      have HOW2 := Lib.hid (ownsRow_keep HOW.out HYS.out (fun _ _ h => h))
      have HMY : Hid (Mbs Y (.slice va vn vc) l) := Lib.hid (((HM.out.kept (HK2.out.trans HK23.out)).keep HKG.out (fun b hb e => HMG.out b hb e)).kept HYS.out)
      clear hz1 hd1 HDG HPT
      go_wp2_with fail
      go_loopg [9] n (fun gh2 v9 wr2 => ∃ (j : Nat), gh2 + j = n ∧ v9 = .int .i64 j ∧ Y = wr2 ∧ Hid (∀ q y, q < j → c[q]? = some y → y.point < QS s))
      case atStart => exact ⟨0, by omega, rfl, rfl, Lib.hid (fun q y h => absurd h (by omega))⟩
      case round =>
        obtain ⟨j, hj, rfl, rfl, HBEL⟩ := hrel
        by_cases hjn : j < n
        · obtain ⟨x, hx⟩ : ∃ x, c[j]? = some x := ⟨_, List.getElem?_eq_getElem (by rw [HN.out]; exact hjn)⟩
          have xc := HYS.out.cell (HKG.out.cell (HK23.out.cell (HSC.out j x hx).1 (fun h => h)) (fun e => HSG.out e)) (fun h => h)
          have HX := Lib.hid hx
          have hjz : (j : Int) < (n : Int) := by omega
          have hjz0 : (0 : Int) ≤ (j : Int) := by omega
          clear hx
          by_cases hpt : x.point < QS s
          · have HB2 : Hid (∀ q y, q < j + 1 → c[q]? = some y → y.point < QS s) := Lib.hid (fun q y hq hy => by
              by_cases e : q < j
              · exact HBEL.out q y e hy
              · obtain rfl : q = j := by omega
                rw [HX.out] at hy
                cases hy
                exact hpt)
            go_wp2_with fail
            clear xc
            go_roundg (gk - 1)
            case rel => exact ⟨j + 1, by omega, by go_num, rfl, HB2⟩
            case measure => omega
          · have hgo : ¬ ∃ y, c[j]? = some y ∧ y.point < QS s := fun ⟨y, hy, h⟩ => by
              rw [HX.out] at hy
              cases hy
              exact hpt h
            go_wp2_with fail
            clear xc
            have HJ : Hid (lows c (QS s) = j) := Lib.hid (by
              rcases Nat.lt_trichotomy (lows c (QS s)) j with h | h | h
              · obtain ⟨y, hy⟩ : ∃ y, c[lows c (QS s)]? = some y := ⟨_, List.getElem?_eq_getElem (by rw [HN.out]; omega)⟩
                have h1 := HBEL.out _ y h hy
                have h2 := (lows_below HCS.out (QS s) hy).1 h1
                omega
              · exact h
              · obtain ⟨y, hy⟩ : ∃ y, c[j]? = some y := ⟨_, List.getElem?_eq_getElem (by have := lows_le c (QS s); omega)⟩
                exact absurd ⟨y, hy, (lows_below HCS.out (QS s) hy).2 h⟩ hgo)
            have hj0 : (0 : Int) ≤ (j : Int) := by omega
            clear hgo HBEL
            go_wp2_with fail
            go_loopg [6, 10] n (fun gh2 v6 v10 wr2 => ∃ (i : Nat), gh2 + i = n ∧ u6 = v6 ∧ v10 = .int .i64 i ∧ (∀ q, q < i → st.1 (cwN c (QS s) q) ≤ 0) ∧ Keep (fun _ => False) Y wr2)
            case atStart => exact ⟨0, by omega, rfl, rfl, fun q h => absurd h (by omega), Keep.refl _ _⟩
            case round =>
              obtain ⟨i, hi, rfl, rfl, hle, hkeep⟩ := hrel
              have HLE := Lib.hid hle
              have HKY := Lib.hid hkeep
              clear hle hkeep
              by_cases hin : i < n
              · obtain ⟨x, hx, hcw⟩ := cwN_at HCS.out (QS s) (i := i) (by rw [HN.out]; exact hin)
                rw [HJ.out, HN.out] at hx
                have HCW := Lib.hid hcw
                have xc := HKY.out.cell (HYS.out.cell (HKG.out.cell (HK23.out.cell (HSC.out _ x hx).2 (fun h => h)) (fun e => HSG.out e)) (fun h => h)) (fun h => h)
                obtain ⟨ix, hix⟩ : ∃ ix, (j + i) % n = ix := ⟨_, rfl⟩
                rw [hix] at xc hx
                have hixn : ix < n := by rw [← hix]; exact Nat.mod_lt _ (by omega)
                have e1 : ((j : Int) + (i : Int)) % (n : Int) = (ix : Int) := by rw [← hix]; first | rw [Int.natCast_emod, Int.natCast_add] | rw [Int.natCast_mod, Int.natCast_add] | simp
                have hinz : (i : Int) < (n : Int) := by omega
                have hi0 : (0 : Int) ≤ (i : Int) := by omega
                have hixz : (ix : Int) < (n : Int) := by omega
                have hix0 : (0 : Int) ≤ (ix : Int) := by omega
                have hnz : (n : Int) ≠ 0 := by omega
                have hwji : IntKind.i64.wrap ((j : Int) + (i : Int)) = (j : Int) + (i : Int) := wrapI (by unfold I64; omega)
                obtain ⟨m, hm, hmx⟩ : ∃ m ∈ l, m.node = x.node := by
                  have h1 : x ∈ circ PN l := by rw [HC.out]; exact List.mem_of_getElem? hx
                  obtain ⟨m, hm, hxm⟩ := (mem_circ PN).1 h1
                  exact ⟨m, hm, ((mem_drawM PN).1 hxm).1.symm⟩
                have hok := HV.out.ok m hm
                unfold okMb at hok
                rw [hmx] at hok
                obtain ⟨nq, hnq⟩ : ∃ q : Nat, x.node = q := ⟨x.node.toNat, by omega⟩
                rw [hnq] at xc hok
                have HNQ : Hid (cwN c (QS s) i = (nq : Int)) := Lib.hid (by rw [HCW.out, hnq])
                have hnq23 : nq ≤ 23 := by omega
                clear hx hcw hm hmx hok hix HCW hnq
                have HLDR := Lib.hid (ownsRow_keep HLD2.out HKY.out (fun _ _ h => h))
                have hl0 := HLDR.out.cellAt nq (by omega)
                rw [List.getElem?_map, loadsL_get (by omega)] at hl0
                have HL0 : Hid (wr.cell? ⟨g, nq, none⟩ = some (.int .i64 (cnt st.2 nq))) := Lib.hid hl0
                have HLIM : Hid (∀ W, Keep (fun _ => False) Y W → Calls Tryz.prog 76 #[.slice va vn vc, .int .i64 (nq : Int)] W fun e w' => e = .returned (.int .i64 (limitL l nq)) ∧ Keep (fun _ => False) W w') := Lib.hid (fun W kk => refLimit_any _ l W (HMY.out.kept kk) nq)
                have hroom := HASG.out.room nq
                have hcn := cnt_nn st.2 nq
                have hlb := limitL_nn l nq
                clear hl0
                have z0 : ∀ p : KW wr, p.val.cell? ⟨g, nq, none⟩ = some (.int .i64 (cnt st.2 nq)) := fun p => p.k.cell HL0.out (fun h => h)
                have hq0 : (0 : Int) ≤ (nq : Int) := by omega
                have hq24 : (nq : Int) < 24 := by omega
                generalize hcq : cnt st.2 nq = cq at *
                generalize limitL l nq = lq at *
                by_cases hlt2 : cq < lq
                · have HSF : Hid ((asg PN QS l (s + 1)).2 = st.2 ++ [(nq : Int)]) := Lib.hid (by
                    rw [HNX.out, step_found (i := i) (by rw [HC.out, HN.out]; exact hin) (by rw [HC.out, HNQ.out]; omega) (fun q hq => by rw [HC.out]; exact HLE.out q hq), HC.out, HNQ.out])
                  have hwc : IntKind.i64.wrap (cq + 1) = cq + 1 := wrapI (by unfold I64; omega)
                  go_wp2_with fail
                  clear xc
                  refine wp_region_quiet_kept (by kernel_rfl) (by kernel_rfl) ?_
                  repeat (quiet_step ((go_at_call 76; refine Calls.kept_of (HLIM.out _ (HKY.out.trans (KW.k _))))))
                  refine wpQuiet_nil ?_
                  rintro _ ⟨p, rfl⟩
                  have HP := Lib.hid (HKY.out.trans p.k)
                  have HLD3 := Lib.hid (ownsRow_keep HLDR.out p.k (fun _ _ h => h))
                  have g0 := p.k.cell HL0.out (fun h => h)
                  clear z0
                  generalize p.val = Y1 at *
                  have gf : ∀ o, Y1.frozen? ⟨g, o, none⟩ = false := fun o => HLD3.out.frozenAt o
                  have HKZ : Hid (Keep (fun jj => jj = g) Y (Y1.setCell ⟨g, nq, none⟩ (.int .i64 (cq + 1)))) := Lib.hid ((HP.out.mono (fun _ h => h.elim)).setCell (p := ⟨g, nq, none⟩) _ (.inl rfl))
                  have HLD4 : Hid ((Y1.setCell ⟨g, nq, none⟩ (.int .i64 (cq + 1))).ownsRow g 3 1 (.slice (some ⟨g, 0, none⟩) 24 24) 24 ((loadsL (st.2 ++ [(nq : Int)])).map (fun x => Value.int .i64 x))) := Lib.hid (by
                    have h := (HLD3.out.stored nq (.int .i64 (cq + 1))).1
                    have e := loadsL_snoc (ow := st.2) (n := nq) (by omega)
                    rw [hcq] at e
                    rw [← List.map_set (f := fun x => Value.int .i64 x), ← e] at h
                    exact h)
                  have HUG : Hid (∀ b, u6.ownBlock = some b → b ≠ g) := Lib.hid (fun b hb e => by
                    have h1 := (HOW2.out.lt b hb).1
                    have h2 := HSZ3.out
                    omega)
                  have HOWZ := Lib.hid (ownsRow_keep HOW2.out HKZ.out (fun b hb e => HUG.out b hb e))
                  clear hcq hroom hcn hlb hlt2
                  go_upto_region 19 with (fail)
                  clear g0 gf hwc
                  generalize Y1.setCell ⟨g, nq, none⟩ (.int .i64 (cq + 1)) = Z1 at *
                  obtain ⟨v', W', hr, hown', kapp, -, gg, cc, hv'⟩ := app_one 22 3 1 8 _ Tryz.underlying22 infoInt rfl (by decide) (by decide) Z1 22 W3.heap.size u6 st.2.length (st.2.map (fun x => Value.int .i64 x)) [.int .i64 (nq : Int)] HOWZ.out rfl (by simp [Value.oneCell']) (by have := HASG.out.len; omega) (by have h1 := HKG.out.size; have h2 := HYS.out.size; have h3 := HKZ.out.size; omega)
                  have HR := Lib.hid hr
                  have HNEW : Hid (W'.ownsRow W3.heap.size 3 1 v' (asg PN QS l (s + 1)).2.length ((asg PN QS l (s + 1)).2.map (fun x => Value.int .i64 x))) := Lib.hid (by
                    rw [HSF.out, List.length_append, List.map_append]
                    exact hown')
                  have HLD5 : Hid (W'.ownsRow g 3 1 (.slice (some ⟨g, 0, none⟩) 24 24) 24 ((loadsL (asg PN QS l (s + 1)).2).map (fun x => Value.int .i64 x))) := Lib.hid (by
                    rw [HSF.out]
                    exact ownsRow_keep HLD4.out kapp (fun b hb e => by cases hb; exact HUG.out g e rfl))
                  have HKW' : Hid (Keep (fun jj => jj = g) W3 W') := Lib.hid (((HKG.out.trans (HYS.out.mono (fun _ h => h.elim))).trans HKZ.out).trans' kapp (fun b e => .inr (HOW2.out.lt b e).1))
                  clear hr hown' kapp hv' HLD4 HOWZ
                  go_wp2_with (at_builtin; refine wpList_app rfl (.tmp 71) (.tmp 73) 22 rfl rfl rfl HR.out ?_)
                  go_roundg (64 - (s + 1))
                  case rel => exact ⟨s + 1, by have := HSS.out; omega, by go_num, HKW'.out, HNEW.out, HLD5.out⟩
                  case measure => have := HSS.out; omega
                · have HLE2 : Hid (∀ q, q < i + 1 → st.1 (cwN c (QS s) q) ≤ 0) := Lib.hid (fun q hq => by
                    by_cases e : q < i
                    · exact HLE.out q e
                    · obtain rfl : q = i := by omega
                      rw [HNQ.out]; omega)
                  go_wp2_with fail
                  clear xc
                  refine wp_region_quiet_kept (by kernel_rfl) (by kernel_rfl) ?_
                  repeat (quiet_step ((go_at_call 76; refine Calls.kept_of (HLIM.out _ (HKY.out.trans (KW.k _))))))
                  refine wpQuiet_nil ?_
                  rintro _ ⟨p, rfl⟩
                  have HP := Lib.hid (HKY.out.trans p.k)
                  clear z0
                  generalize p.val = Y1 at *
                  go_wp2_with fail
                  go_roundg (gk - 1)
                  case rel => exact ⟨i + 1, by omega, rfl, by go_num, HLE2.out, HP.out⟩
                  case measure => omega
              · have hin' : ¬ ((i : Int) < (n : Int)) := by omega
                have HSF : Hid (asg PN QS l (s + 1) = st) := Lib.hid (by
                  rw [HNX.out]
                  exact step_none (fun q hq => by
                    rw [HC.out, HN.out] at hq
                    rw [HC.out]
                    exact HLE.out q (by omega)))
                have HKW' : Hid (Keep (fun jj => jj = g) W3 wr) := Lib.hid (HKG.out.trans ((HYS.out.trans HKY.out).mono (fun _ h => h.elim)))
                have HNEW := Lib.hid (ownsRow_keep HOW2.out HKY.out (fun _ _ h => h))
                have HLD5 := Lib.hid (ownsRow_keep HLD2.out HKY.out (fun _ _ h => h))
                go_wp2_with fail
                go_roundg (64 - (s + 1))
                case rel => exact ⟨s + 1, by have := HSS.out; omega, by go_num, HKW'.out, by rw [HSF.out]; exact HNEW.out, by rw [HSF.out]; exact HLD5.out⟩
                case measure => have := HSS.out; omega
        · have hjz : ¬ ((j : Int) < (n : Int)) := by omega
          have hgo : ¬ ∃ y, c[j]? = some y ∧ y.point < QS s := fun ⟨y, hy, h⟩ => by
            have := (List.getElem?_eq_some_iff.1 hy).1
            have := HN.out
            omega
          go_wp2_with fail
          have HJ : Hid (lows c (QS s) = j) := Lib.hid (by
            rcases Nat.lt_trichotomy (lows c (QS s)) j with h | h | h
            · obtain ⟨y, hy⟩ : ∃ y, c[lows c (QS s)]? = some y := ⟨_, List.getElem?_eq_getElem (by rw [HN.out]; omega)⟩
              have h1 := HBEL.out _ y h hy
              have h2 := (lows_below HCS.out (QS s) hy).1 h1
              omega
            · exact h
            · obtain ⟨y, hy⟩ : ∃ y, c[j]? = some y := ⟨_, List.getElem?_eq_getElem (by have := lows_le c (QS s); omega)⟩
              exact absurd ⟨y, hy, (lows_below HCS.out (QS s) hy).2 h⟩ hgo)
          have hj0 : (0 : Int) ≤ (j : Int) := by omega
          clear hgo HBEL
          go_wp2_with fail
          go_loopg [6, 10] n (fun gh2 v6 v10 wr2 => ∃ (i : Nat), gh2 + i = n ∧ u6 = v6 ∧ v10 = .int .i64 i ∧ (∀ q, q < i → st.1 (cwN c (QS s) q) ≤ 0) ∧ Keep (fun _ => False) Y wr2)
          case atStart => exact ⟨0, by omega, rfl, rfl, fun q h => absurd h (by omega), Keep.refl _ _⟩
          case round =>
            obtain ⟨i, hi, rfl, rfl, hle, hkeep⟩ := hrel
            have HLE := Lib.hid hle
            have HKY := Lib.hid hkeep
            clear hle hkeep
            by_cases hin : i < n
            · obtain ⟨x, hx, hcw⟩ := cwN_at HCS.out (QS s) (i := i) (by rw [HN.out]; exact hin)
              rw [HJ.out, HN.out] at hx
              have HCW := Lib.hid hcw
              have xc := HKY.out.cell (HYS.out.cell (HKG.out.cell (HK23.out.cell (HSC.out _ x hx).2 (fun h => h)) (fun e => HSG.out e)) (fun h => h)) (fun h => h)
              obtain ⟨ix, hix⟩ : ∃ ix, (j + i) % n = ix := ⟨_, rfl⟩
              rw [hix] at xc hx
              have hixn : ix < n := by rw [← hix]; exact Nat.mod_lt _ (by omega)
              have e1 : ((j : Int) + (i : Int)) % (n : Int) = (ix : Int) := by rw [← hix]; first | rw [Int.natCast_emod, Int.natCast_add] | rw [Int.natCast_mod, Int.natCast_add] | simp
              have hinz : (i : Int) < (n : Int) := by omega
              have hi0 : (0 : Int) ≤ (i : Int) := by omega
              have hixz : (ix : Int) < (n : Int) := by omega
              have hix0 : (0 : Int) ≤ (ix : Int) := by omega
              have hnz : (n : Int) ≠ 0 := by omega
              have hwji : IntKind.i64.wrap ((j : Int) + (i : Int)) = (j : Int) + (i : Int) := wrapI (by unfold I64; omega)
              obtain ⟨m, hm, hmx⟩ : ∃ m ∈ l, m.node = x.node := by
                have h1 : x ∈ circ PN l := by rw [HC.out]; exact List.mem_of_getElem? hx
                obtain ⟨m, hm, hxm⟩ := (mem_circ PN).1 h1
                exact ⟨m, hm, ((mem_drawM PN).1 hxm).1.symm⟩
              have hok := HV.out.ok m hm
              unfold okMb at hok
              rw [hmx] at hok
              obtain ⟨nq, hnq⟩ : ∃ q : Nat, x.node = q := ⟨x.node.toNat, by omega⟩
              rw [hnq] at xc hok
              have HNQ : Hid (cwN c (QS s) i = (nq : Int)) := Lib.hid (by rw [HCW.out, hnq])
              have hnq23 : nq ≤ 23 := by omega
              clear hx hcw hm hmx hok hix HCW hnq
              have HLDR := Lib.hid (ownsRow_keep HLD2.out HKY.out (fun _ _ h => h))
              have hl0 := HLDR.out.cellAt nq (by omega)
              rw [List.getElem?_map, loadsL_get (by omega)] at hl0
              have HL0 : Hid (wr.cell? ⟨g, nq, none⟩ = some (.int .i64 (cnt st.2 nq))) := Lib.hid hl0
              have HLIM : Hid (∀ W, Keep (fun _ => False) Y W → Calls Tryz.prog 76 #[.slice va vn vc, .int .i64 (nq : Int)] W fun e w' => e = .returned (.int .i64 (limitL l nq)) ∧ Keep (fun _ => False) W w') := Lib.hid (fun W kk => refLimit_any _ l W (HMY.out.kept kk) nq)
              have hroom := HASG.out.room nq
              have hcn := cnt_nn st.2 nq
              have hlb := limitL_nn l nq
              clear hl0
              have z0 : ∀ p : KW wr, p.val.cell? ⟨g, nq, none⟩ = some (.int .i64 (cnt st.2 nq)) := fun p => p.k.cell HL0.out (fun h => h)
              have hq0 : (0 : Int) ≤ (nq : Int) := by omega
              have hq24 : (nq : Int) < 24 := by omega
              generalize hcq : cnt st.2 nq = cq at *
              generalize limitL l nq = lq at *
              by_cases hlt2 : cq < lq
              · have HSF : Hid ((asg PN QS l (s + 1)).2 = st.2 ++ [(nq : Int)]) := Lib.hid (by
                  rw [HNX.out, step_found (i := i) (by rw [HC.out, HN.out]; exact hin) (by rw [HC.out, HNQ.out]; omega) (fun q hq => by rw [HC.out]; exact HLE.out q hq), HC.out, HNQ.out])
                have hwc : IntKind.i64.wrap (cq + 1) = cq + 1 := wrapI (by unfold I64; omega)
                go_wp2_with fail
                clear xc
                refine wp_region_quiet_kept (by kernel_rfl) (by kernel_rfl) ?_
                repeat (quiet_step ((go_at_call 76; refine Calls.kept_of (HLIM.out _ (HKY.out.trans (KW.k _))))))
                refine wpQuiet_nil ?_
                rintro _ ⟨p, rfl⟩
                have HP := Lib.hid (HKY.out.trans p.k)
                have HLD3 := Lib.hid (ownsRow_keep HLDR.out p.k (fun _ _ h => h))
                have g0 := p.k.cell HL0.out (fun h => h)
                clear z0
                generalize p.val = Y1 at *
                have gf : ∀ o, Y1.frozen? ⟨g, o, none⟩ = false := fun o => HLD3.out.frozenAt o
                have HKZ : Hid (Keep (fun jj => jj = g) Y (Y1.setCell ⟨g, nq, none⟩ (.int .i64 (cq + 1)))) := Lib.hid ((HP.out.mono (fun _ h => h.elim)).setCell (p := ⟨g, nq, none⟩) _ (.inl rfl))
                have HLD4 : Hid ((Y1.setCell ⟨g, nq, none⟩ (.int .i64 (cq + 1))).ownsRow g 3 1 (.slice (some ⟨g, 0, none⟩) 24 24) 24 ((loadsL (st.2 ++ [(nq : Int)])).map (fun x => Value.int .i64 x))) := Lib.hid (by
                  have h := (HLD3.out.stored nq (.int .i64 (cq + 1))).1
                  have e := loadsL_snoc (ow := st.2) (n := nq) (by omega)
                  rw [hcq] at e
                  rw [← List.map_set (f := fun x => Value.int .i64 x), ← e] at h
                  exact h)
                have HUG : Hid (∀ b, u6.ownBlock = some b → b ≠ g) := Lib.hid (fun b hb e => by
                  have h1 := (HOW2.out.lt b hb).1
                  have h2 := HSZ3.out
                  omega)
                have HOWZ := Lib.hid (ownsRow_keep HOW2.out HKZ.out (fun b hb e => HUG.out b hb e))
                clear hcq hroom hcn hlb hlt2
                go_upto_region 19 with (fail)
                clear g0 gf hwc
                generalize Y1.setCell ⟨g, nq, none⟩ (.int .i64 (cq + 1)) = Z1 at *
                obtain ⟨v', W', hr, hown', kapp, -, gg, cc, hv'⟩ := app_one 22 3 1 8 _ Tryz.underlying22 infoInt rfl (by decide) (by decide) Z1 22 W3.heap.size u6 st.2.length (st.2.map (fun x => Value.int .i64 x)) [.int .i64 (nq : Int)] HOWZ.out rfl (by simp [Value.oneCell']) (by have := HASG.out.len; omega) (by have h1 := HKG.out.size; have h2 := HYS.out.size; have h3 := HKZ.out.size; omega)
                have HR := Lib.hid hr
                have HNEW : Hid (W'.ownsRow W3.heap.size 3 1 v' (asg PN QS l (s + 1)).2.length ((asg PN QS l (s + 1)).2.map (fun x => Value.int .i64 x))) := Lib.hid (by
                  rw [HSF.out, List.length_append, List.map_append]
                  exact hown')
                have HLD5 : Hid (W'.ownsRow g 3 1 (.slice (some ⟨g, 0, none⟩) 24 24) 24 ((loadsL (asg PN QS l (s + 1)).2).map (fun x => Value.int .i64 x))) := Lib.hid (by
                  rw [HSF.out]
                  exact ownsRow_keep HLD4.out kapp (fun b hb e => by cases hb; exact HUG.out g e rfl))
                have HKW' : Hid (Keep (fun jj => jj = g) W3 W') := Lib.hid (((HKG.out.trans (HYS.out.mono (fun _ h => h.elim))).trans HKZ.out).trans' kapp (fun b e => .inr (HOW2.out.lt b e).1))
                clear hr hown' kapp hv' HLD4 HOWZ
                go_wp2_with (at_builtin; refine wpList_app rfl (.tmp 71) (.tmp 73) 22 rfl rfl rfl HR.out ?_)
                go_roundg (64 - (s + 1))
                case rel => exact ⟨s + 1, by have := HSS.out; omega, by go_num, HKW'.out, HNEW.out, HLD5.out⟩
                case measure => have := HSS.out; omega
              · have HLE2 : Hid (∀ q, q < i + 1 → st.1 (cwN c (QS s) q) ≤ 0) := Lib.hid (fun q hq => by
                  by_cases e : q < i
                  · exact HLE.out q e
                  · obtain rfl : q = i := by omega
                    rw [HNQ.out]; omega)
                go_wp2_with fail
                clear xc
                refine wp_region_quiet_kept (by kernel_rfl) (by kernel_rfl) ?_
                repeat (quiet_step ((go_at_call 76; refine Calls.kept_of (HLIM.out _ (HKY.out.trans (KW.k _))))))
                refine wpQuiet_nil ?_
                rintro _ ⟨p, rfl⟩
                have HP := Lib.hid (HKY.out.trans p.k)
                clear z0
                generalize p.val = Y1 at *
                go_wp2_with fail
                go_roundg (gk - 1)
                case rel => exact ⟨i + 1, by omega, rfl, by go_num, HLE2.out, HP.out⟩
                case measure => omega
            · have hin' : ¬ ((i : Int) < (n : Int)) := by omega
              have HSF : Hid (asg PN QS l (s + 1) = st) := Lib.hid (by
                rw [HNX.out]
                exact step_none (fun q hq => by
                  rw [HC.out, HN.out] at hq
                  rw [HC.out]
                  exact HLE.out q (by omega)))
              have HKW' : Hid (Keep (fun jj => jj = g) W3 wr) := Lib.hid (HKG.out.trans ((HYS.out.trans HKY.out).mono (fun _ h => h.elim)))
              have HNEW := Lib.hid (ownsRow_keep HOW2.out HKY.out (fun _ _ h => h))
              have HLD5 := Lib.hid (ownsRow_keep HLD2.out HKY.out (fun _ _ h => h))
              go_wp2_with fail
              go_roundg (64 - (s + 1))
              case rel => exact ⟨s + 1, by have := HSS.out; omega, by go_num, HKW'.out, by rw [HSF.out]; exact HNEW.out, by rw [HSF.out]; exact HLD5.out⟩
              case measure => have := HSS.out; omega
    · obtain rfl : s = 64 := by omega
      have HE : Hid (AsgPost l w (.returned (.tuple #[u6, .int .i64 0])) wr) := Lib.hid ⟨u6, rfl, ownsRow_lo HOW.out (by have h1 := HK2.out.size; have h2 := HK23.out.size; omega), (HK2.out.trans HK23.out).trans' HKG.out (fun b e => .inr (by have h1 := HK2.out.size; have h2 := HG.out; have : b = g := e; omega))⟩
      go_wp2_with fail
      refine bodyPost_ret (v := .tuple #[u6, .int .i64 0]) (by simp [results, Tryz.results114, go_sem]) rfl ?_
      exact HE.out
end Go.Proofs.YtplkmbfeeegaiaaGreatDoor

/-
  Members in a slice of their own; what the laws' pick answers.
-/
namespace Go.Proofs.YtplkmbfeeegaiaaGreatDoor
open Go.RowKit Go.Shelf

def pk (c n : Int) : Int := (if c < 0 then -(c + 1) else c) % n
theorem pk_bd (c n : Int) (hn : 1 ≤ n) : 0 ≤ pk c n ∧ pk c n < n := by
  unfold pk
  exact ⟨Int.emod_nonneg _ (by omega), Int.emod_lt_of_pos _ (by omega)⟩
theorem nil_rng (W : World) : Rng W (ringV 0 (.slice none 0 0) (.slice none 0 0)) 0 [] [] := ⟨by unfold I64; decide, _, _, rfl, ⟨by simp, by simp, none, 0, 0, 0, rfl, by simp, fun h => by simp at h, fun j x hj => by simp at hj⟩, Its.nil W⟩
theorem encMb_len (m : Mb) : (encMb m).length = 3 := rfl

/-- Members in a slice of their own. -/
def OwnB (w : World) (l : List Mb) (v : Value) (W : World) : Prop := Keep (fun _ => False) w W ∧ W.ownsRow w.heap.size 35 3 v l.length (flatB l)
theorem OwnB.nil {w W : World} (k : Keep (fun _ => False) w W) : OwnB w [] (.slice none 0 0) W := ⟨k, by simpa [flatB] using World.ownsRow_nil W w.heap.size 35 3⟩
theorem OwnB.keep {w W W' : World} {l : List Mb} {v : Value} (h : OwnB w l v W) (k : Keep (fun _ => False) W W') : OwnB w l v W' := ⟨h.1.trans k, ownsRow_keep h.2 k (fun _ _ h => h)⟩
theorem OwnB.snoc {w W : World} {l : List Mb} {v : Value} (h : OwnB w l v W) (x : Mb) (hl : l.length ≤ 100000) :
    ∃ v' w', (Builtin.append_ #[25, 25] 25 #[v, .slice (some ⟨W.heap.size, 0, none⟩) 1 1]).run Tryz.prog (W.alloc (.cells #[.int .i64 x.node, .int .i64 x.region, .int .i64 x.weight] 35)) = .ok v' w' ∧ OwnB w (l ++ [x]) v' w' ∧ Keep (fun j => v.ownBlock = some j) W w' ∧ (∃ g n c, v' = .slice (some ⟨g, 0, none⟩) n c) := by
  obtain ⟨v', w', r1, r2, r3, r4, g, c, r5⟩ := app_one 25 35 3 24 _ Tryz.underlying25 infoMb rfl (by decide) (by decide) W 25 w.heap.size v l.length (flatB l) (encMb x) h.2 rfl (by simp [encMb, Value.oneCell']) (by omega) h.1.size
  refine ⟨v', w', r1, ⟨h.1.trans' r3 (fun j e => .inr (h.2.lt j e).1), ?_⟩, r3, g, _, c, r5⟩
  rw [flatB_append, flatB_one, List.length_append]
  exact r2
def OwnPost (l : List Mb) (w : World) (e : Ending) (w' : World) : Prop := ∃ v, e = .returned v ∧ OwnB w l v w'
end Go.Proofs.YtplkmbfeeegaiaaGreatDoor

/-
  New refused.
-/
namespace Go.Proofs.YtplkmbfeeegaiaaGreatDoor
open Go.RowKit Go.Shelf

/-- What New answers where it refuses. -/
def NewBad (w : World) (e : Ending) (w' : World) : Prop := e = .returned (.tuple #[ringV 0 (.slice none 0 0) (.slice none 0 0), .int .i64 120]) ∧ Keep (fun _ => False) w w'

set_option maxRecDepth 100000 in
set_option maxHeartbeats 2000000 in
theorem new_epoch (ep : Int) (v : Value) (l : List Mb) (w : World) (h : Mbs w v l) (hv : VL l) (hT : Tab w) (he : ¬ (1 ≤ ep ∧ ep ≤ 1000000)) : Calls Tryz.prog 13 #[.int .i64 ep, v] w (NewBad w) := by
  have HAS : Hid (∀ W, Keep (fun _ => False) w W → Calls Tryz.prog 52 #[v] W (AsgPost l W)) := Lib.hid (fun W k => assign_ok v l W (h.kept k) hv (hT.kept k))
  have HEP := Lib.hid (decide_eq_false he)
  clear h hv hT he
  have HK0 : Hid (Keep (fun _ => False) w (w.alloc (.cells #[.int .i64 0, .slice none 0 0, .slice none 0 0] 27))) := Lib.hid ((Keep.refl _ w).alloc _)
  have HT3 := Lib.hid (three_cell w (.int .i64 0) (.slice none 0 0) (.slice none 0 0) 27)
  go_enter Tryz.func13, Tryz.ntmps13
  go_wp2_with fail
  generalize w.alloc (.cells #[.int .i64 0, .slice none 0 0, .slice none 0 0] 27) = W0 at *
  generalize hz : w.heap.size = z at HT3
  have HZ := Lib.hid hz
  clear hz
  with_reducible refine (HAS.out _ HK0.out).mono ?_
  rintro e W1 ⟨vo, rfl, how, k1⟩
  have HK1 := Lib.hid (HK0.out.trans k1)
  have f0 := k1.cell HT3.out.1 (fun h => h)
  have f1 := k1.cell HT3.out.2.1 (fun h => h)
  have f2 := k1.cell HT3.out.2.2.1 (fun h => h)
  have ff : ∀ o, W1.frozen? ⟨z, o, none⟩ = false := fun o => (k1.frozen (World.block_lt_of_cell? _ _ HT3.out.1) (fun h => h) o).trans (HT3.out.2.2.2 o)
  clear k1 how
  go_wp2_with fail
  with_reducible refine (within_b ep 1 1000000 false HEP.out _).mono ?_
  rintro e w' ⟨rfl, rfl⟩
  go_wp2_with fail
  have g0 : (((W1.setCell ⟨z, 0, none⟩ (.int .i64 0)).setCell ⟨z, 1, none⟩ (.slice none 0 0)).setCell ⟨z, 2, none⟩ (.slice none 0 0)).cell? ⟨z, 0, none⟩ = some (.int .i64 0) := (cell_set_off (by decide)).trans ((cell_set_off (by decide)).trans (cell_set_same f0))
  have g1 : (((W1.setCell ⟨z, 0, none⟩ (.int .i64 0)).setCell ⟨z, 1, none⟩ (.slice none 0 0)).setCell ⟨z, 2, none⟩ (.slice none 0 0)).cell? ⟨z, 1, none⟩ = some (.slice none 0 0) := (cell_set_off (by decide)).trans (cell_set_same ((cell_set_off (by decide)).trans f1))
  have g2 : (((W1.setCell ⟨z, 0, none⟩ (.int .i64 0)).setCell ⟨z, 1, none⟩ (.slice none 0 0)).setCell ⟨z, 2, none⟩ (.slice none 0 0)).cell? ⟨z, 2, none⟩ = some (.slice none 0 0) := cell_set_same ((cell_set_off (by decide)).trans ((cell_set_off (by decide)).trans f2))
  have HKS : Hid (Keep (fun j => j = z) W1 (((W1.setCell ⟨z, 0, none⟩ (.int .i64 0)).setCell ⟨z, 1, none⟩ (.slice none 0 0)).setCell ⟨z, 2, none⟩ (.slice none 0 0))) := Lib.hid ((((Keep.refl (fun j => j = z) W1).setCell (p := ⟨z, 0, none⟩) _ (.inl rfl)).setCell (p := ⟨z, 1, none⟩) _ (.inl rfl)).setCell (p := ⟨z, 2, none⟩) _ (.inl rfl))
  generalize ((W1.setCell ⟨z, 0, none⟩ (.int .i64 0)).setCell ⟨z, 1, none⟩ (.slice none 0 0)).setCell ⟨z, 2, none⟩ (.slice none 0 0) = W3 at *
  refine bodyPost_ret (v := .tuple #[ringV 0 (.slice none 0 0) (.slice none 0 0), .int .i64 120]) (by simp [results, Tryz.results13, go_sem, g0, g1, g2]) rfl ?_
  exact ⟨rfl, HK1.out.trans' HKS.out (fun j e => .inr (by rw [e, HZ.out]; exact Nat.le_refl _))⟩
end Go.Proofs.YtplkmbfeeegaiaaGreatDoor

/-
  The reference's Assign and New refuse members that are not valid, New other epochs.
-/
namespace Go.Proofs.YtplkmbfeeegaiaaGreatDoor
open Go.RowKit Go.Shelf

set_option maxRecDepth 100000 in
set_option maxHeartbeats 1000000 in
theorem refAssign_bad (v : Value) (l : List Mb) (w : World) (h : Mbs w v l) (hv : ¬ VL l) : Calls Tryz.prog 114 #[v] w fun e w' => e = .returned (.tuple #[.slice none 0 0, .int .i64 120]) ∧ Keep (fun _ => False) w w' := by
  have HVA := Lib.hid (refValid_any v l w h)
  rw [validL_false hv] at HVA
  clear h hv
  go_enter Tryz.func114, Tryz.ntmps114
  go_wp2_with fail
  with_reducible refine HVA.out.mono ?_
  rintro e W1 ⟨rfl, k1⟩
  have HK1 := Lib.hid k1
  clear k1 HVA
  go_wp2_with fail
  refine bodyPost_ret (v := .tuple #[.slice none 0 0, .int .i64 120]) (by simp [results, Tryz.results114, go_sem]) rfl ?_
  exact ⟨rfl, HK1.out⟩

set_option maxRecDepth 100000 in
set_option maxHeartbeats 2000000 in
theorem refNew_epoch (ep : Int) (v : Value) (l : List Mb) (w : World) (h : Mbs w v l) (hv : VL l) (he : ¬ (1 ≤ ep ∧ ep ≤ 1000000)) : Calls Tryz.prog 80 #[.int .i64 ep, v] w (NewBad w) := by
  have HAS : Hid (∀ W, Keep (fun _ => False) w W → Calls Tryz.prog 114 #[v] W (AsgPost l W)) := Lib.hid (fun W k => refAssign_ok v l W (h.kept k) hv)
  have HEP := Lib.hid (decide_eq_false he)
  clear h hv he
  have HK0 : Hid (Keep (fun _ => False) w (w.alloc (.cells #[.int .i64 0, .slice none 0 0, .slice none 0 0] 27))) := Lib.hid ((Keep.refl _ w).alloc _)
  have HT3 := Lib.hid (three_cell w (.int .i64 0) (.slice none 0 0) (.slice none 0 0) 27)
  go_enter Tryz.func80, Tryz.ntmps80
  go_wp2_with fail
  generalize w.alloc (.cells #[.int .i64 0, .slice none 0 0, .slice none 0 0] 27) = W0 at *
  generalize hz : w.heap.size = z at HT3
  have HZ := Lib.hid hz
  clear hz
  with_reducible refine (HAS.out _ HK0.out).mono ?_
  rintro e W1 ⟨vo, rfl, how, k1⟩
  have HK1 := Lib.hid (HK0.out.trans k1)
  have f0 := k1.cell HT3.out.1 (fun h => h)
  have f1 := k1.cell HT3.out.2.1 (fun h => h)
  have f2 := k1.cell HT3.out.2.2.1 (fun h => h)
  have ff : ∀ o, W1.frozen? ⟨z, o, none⟩ = false := fun o => (k1.frozen (World.block_lt_of_cell? _ _ HT3.out.1) (fun h => h) o).trans (HT3.out.2.2.2 o)
  clear k1 how
  go_wp2_with fail
  with_reducible refine (rwithin_b ep 1 1000000 false HEP.out _).mono ?_
  rintro e w' ⟨rfl, rfl⟩
  go_wp2_with fail
  have g0 : (((W1.setCell ⟨z, 0, none⟩ (.int .i64 0)).setCell ⟨z, 1, none⟩ (.slice none 0 0)).setCell ⟨z, 2, none⟩ (.slice none 0 0)).cell? ⟨z, 0, none⟩ = some (.int .i64 0) := (cell_set_off (by decide)).trans ((cell_set_off (by decide)).trans (cell_set_same f0))
  have g1 : (((W1.setCell ⟨z, 0, none⟩ (.int .i64 0)).setCell ⟨z, 1, none⟩ (.slice none 0 0)).setCell ⟨z, 2, none⟩ (.slice none 0 0)).cell? ⟨z, 1, none⟩ = some (.slice none 0 0) := (cell_set_off (by decide)).trans (cell_set_same ((cell_set_off (by decide)).trans f1))
  have g2 : (((W1.setCell ⟨z, 0, none⟩ (.int .i64 0)).setCell ⟨z, 1, none⟩ (.slice none 0 0)).setCell ⟨z, 2, none⟩ (.slice none 0 0)).cell? ⟨z, 2, none⟩ = some (.slice none 0 0) := cell_set_same ((cell_set_off (by decide)).trans ((cell_set_off (by decide)).trans f2))
  have HKS : Hid (Keep (fun j => j = z) W1 (((W1.setCell ⟨z, 0, none⟩ (.int .i64 0)).setCell ⟨z, 1, none⟩ (.slice none 0 0)).setCell ⟨z, 2, none⟩ (.slice none 0 0))) := Lib.hid ((((Keep.refl (fun j => j = z) W1).setCell (p := ⟨z, 0, none⟩) _ (.inl rfl)).setCell (p := ⟨z, 1, none⟩) _ (.inl rfl)).setCell (p := ⟨z, 2, none⟩) _ (.inl rfl))
  generalize ((W1.setCell ⟨z, 0, none⟩ (.int .i64 0)).setCell ⟨z, 1, none⟩ (.slice none 0 0)).setCell ⟨z, 2, none⟩ (.slice none 0 0) = W3 at *
  refine bodyPost_ret (v := .tuple #[ringV 0 (.slice none 0 0) (.slice none 0 0), .int .i64 120]) (by simp [results, Tryz.results80, go_sem, g0, g1, g2]) rfl ?_
  exact ⟨rfl, HK1.out.trans' HKS.out (fun j e => .inr (by rw [e, HZ.out]; exact Nat.le_refl _))⟩

set_option maxRecDepth 100000 in
set_option maxHeartbeats 2000000 in
theorem refNew_bad (ep : Int) (v : Value) (l : List Mb) (w : World) (h : Mbs w v l) (hv : ¬ VL l) : Calls Tryz.prog 80 #[.int .i64 ep, v] w (NewBad w) := by
  have HAS : Hid (∀ W, Keep (fun _ => False) w W → Calls Tryz.prog 114 #[v] W fun e w' => e = .returned (.tuple #[.slice none 0 0, .int .i64 120]) ∧ Keep (fun _ => False) W w') := Lib.hid (fun W k => refAssign_bad v l W (h.kept k) hv)
  clear h hv
  have HK0 : Hid (Keep (fun _ => False) w (w.alloc (.cells #[.int .i64 0, .slice none 0 0, .slice none 0 0] 27))) := Lib.hid ((Keep.refl _ w).alloc _)
  have HT3 := Lib.hid (three_cell w (.int .i64 0) (.slice none 0 0) (.slice none 0 0) 27)
  go_enter Tryz.func80, Tryz.ntmps80
  go_wp2_with fail
  generalize w.alloc (.cells #[.int .i64 0, .slice none 0 0, .slice none 0 0] 27) = W0 at *
  generalize hz : w.heap.size = z at HT3
  have HZ := Lib.hid hz
  clear hz
  with_reducible refine (HAS.out _ HK0.out).mono ?_
  rintro e W1 ⟨rfl, k1⟩
  have HK1 := Lib.hid (HK0.out.trans k1)
  have f0 := k1.cell HT3.out.1 (fun h => h)
  have f1 := k1.cell HT3.out.2.1 (fun h => h)
  have f2 := k1.cell HT3.out.2.2.1 (fun h => h)
  have ff : ∀ o, W1.frozen? ⟨z, o, none⟩ = false := fun o => (k1.frozen (World.block_lt_of_cell? _ _ HT3.out.1) (fun h => h) o).trans (HT3.out.2.2.2 o)
  clear k1
  go_wp2_with fail
  have g0 : (((W1.setCell ⟨z, 0, none⟩ (.int .i64 0)).setCell ⟨z, 1, none⟩ (.slice none 0 0)).setCell ⟨z, 2, none⟩ (.slice none 0 0)).cell? ⟨z, 0, none⟩ = some (.int .i64 0) := (cell_set_off (by decide)).trans ((cell_set_off (by decide)).trans (cell_set_same f0))
  have g1 : (((W1.setCell ⟨z, 0, none⟩ (.int .i64 0)).setCell ⟨z, 1, none⟩ (.slice none 0 0)).setCell ⟨z, 2, none⟩ (.slice none 0 0)).cell? ⟨z, 1, none⟩ = some (.slice none 0 0) := (cell_set_off (by decide)).trans (cell_set_same ((cell_set_off (by decide)).trans f1))
  have g2 : (((W1.setCell ⟨z, 0, none⟩ (.int .i64 0)).setCell ⟨z, 1, none⟩ (.slice none 0 0)).setCell ⟨z, 2, none⟩ (.slice none 0 0)).cell? ⟨z, 2, none⟩ = some (.slice none 0 0) := cell_set_same ((cell_set_off (by decide)).trans ((cell_set_off (by decide)).trans f2))
  have HKS : Hid (Keep (fun j => j = z) W1 (((W1.setCell ⟨z, 0, none⟩ (.int .i64 0)).setCell ⟨z, 1, none⟩ (.slice none 0 0)).setCell ⟨z, 2, none⟩ (.slice none 0 0))) := Lib.hid ((((Keep.refl (fun j => j = z) W1).setCell (p := ⟨z, 0, none⟩) _ (.inl rfl)).setCell (p := ⟨z, 1, none⟩) _ (.inl rfl)).setCell (p := ⟨z, 2, none⟩) _ (.inl rfl))
  generalize ((W1.setCell ⟨z, 0, none⟩ (.int .i64 0)).setCell ⟨z, 1, none⟩ (.slice none 0 0)).setCell ⟨z, 2, none⟩ (.slice none 0 0) = W3 at *
  refine bodyPost_ret (v := .tuple #[ringV 0 (.slice none 0 0) (.slice none 0 0), .int .i64 120]) (by simp [results, Tryz.results80, go_sem, g0, g1, g2]) rfl ?_
  exact ⟨rfl, HK1.out.trans' HKS.out (fun j e => .inr (by rw [e, HZ.out]; exact Nat.le_refl _))⟩
end Go.Proofs.YtplkmbfeeegaiaaGreatDoor
