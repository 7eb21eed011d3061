/-
  last.
-/
import Derived.Test.YtogkkghliogpeaaB0
import Derived.Test.YtogkkghliogpeaaG3
namespace Go.Proofs.Ytogkkghliogpeaa
open Go.RowKit

/-- The sketch at s: its capacity, its total, its counters. -/
structure SkAt (w : World) (s bm : Nat) (cap tot : Int) (L : List C) : Prop where
  c0 : w.cell? ⟨s, 0, none⟩ = some (.int .i64 cap)
  c1 : w.cell? ⟨s, 1, none⟩ = some (.int .i64 tot)
  c2 : w.cell? ⟨s, 2, none⟩ = some (.map (some bm))
  fz : ∀ o, w.frozen? ⟨s, o, none⟩ = false
  map : MapRel Try.prog 9 w bm (CRel L)
  keys : (L.map C.key).Nodup
  ks : ∀ x ∈ L, x.key.size ≤ maxLen

theorem SkAt.ne {w : World} {s bm : Nat} {cap tot : Int} {L : List C} (h : SkAt w s bm cap tot L) : s ≠ bm := h.map.not_cell h.c0
theorem SkAt.lt {w : World} {s bm : Nat} {cap tot : Int} {L : List C} (h : SkAt w s bm cap tot L) : s < w.heap.size ∧ bm < w.heap.size := ⟨World.block_lt_of_cell? _ _ h.c0, h.map.lt⟩
theorem SkAt.keep {w w' : World} {s bm : Nat} {cap tot : Int} {L : List C} {A : Nat → Prop} (h : SkAt w s bm cap tot L) (k : Keep A w w') (h1 : ¬ A s) (h2 : ¬ A bm) : SkAt w' s bm cap tot L :=
  ⟨k.cell h.c0 h1, k.cell h.c1 h1, k.cell h.c2 h1, fun o => (World.frozen?_of_block (w := w) (a := ⟨s, o, none⟩) (k.block _ h.lt.1 h1)).trans (h.fz o), h.map.of_heap (k.block _ h.lt.2 h2), h.keys, h.ks⟩

theorem Keep.drewN {A : Nat → Prop} {a w : World} (h : Keep A a w) (k : Nat) : Keep A a (w.drewN k) := ⟨h.os, h.tape, h.output, h.size, h.block⟩

theorem compare_sk {w : World} {s bm : Nat} {cap tot : Int} {L : List C} (h : SkAt w s bm cap tot L) (a b : ByteArray) (ha : a.size ≤ maxLen) (hb : b.size ≤ maxLen) :
    Calls Try.prog 43 #[ptr s, .string a, .string b] w fun e w' => e = .returned (.int .i64 (cmpK L a b)) ∧ Keep (fun _ => False) w w' :=
  (compare_any s bm L a b w h.c2 h.map ha hb).mono fun _ _ ⟨h1, h2⟩ => ⟨h1, by rw [h2]; exact ((Keep.refl _ w).alloc _).drewN 1⟩

set_option maxRecDepth 100000 in
set_option maxHeartbeats 400000 in
theorem later_first (key : ByteArray) (bf bs bo : Nat) (w : World) (hf : w.cell? ⟨bf, 0, none⟩ = some (.bool true)) :
    Calls Try.prog 42 #[.string key, ptr bf, ptr bs, ptr bo] w fun e w' => e = .returned (.bool true) ∧ Keep (fun _ => False) w w' := by
  go_enter Try.func42, Try.ntmps42
  go_wp2_with fail
  go_ret
  exact ⟨rfl, Keep.refl _ _⟩
set_option maxRecDepth 100000 in
set_option maxHeartbeats 400000 in
theorem later_more {w : World} {s bm : Nat} {cap tot : Int} {L : List C} (h : SkAt w s bm cap tot L) (key out : ByteArray) (bf bs bo : Nat) (hf : w.cell? ⟨bf, 0, none⟩ = some (.bool false)) (hs : w.cell? ⟨bs, 0, none⟩ = some (ptr s)) (ho : w.cell? ⟨bo, 0, none⟩ = some (.string out)) (hk : key.size ≤ maxLen) (hok : out.size ≤ maxLen) :
    Calls Try.prog 42 #[.string key, ptr bf, ptr bs, ptr bo] w fun e w' => e = .returned (.bool (decide (0 < cmpK L key out))) ∧ Keep (fun _ => False) w w' := by
  have H := Lib.hid h
  clear h
  go_enter Try.func42, Try.ntmps42
  go_wp2_with fail
  with_reducible refine (compare_sk H.out key out hk hok).mono ?_
  rintro e w' ⟨rfl, k⟩
  have K := Lib.hid k
  clear k
  go_wp2_with fail
  go_ret
  exact ⟨rfl, K.out⟩

/-- out is the last one of the counters S. -/
def IsLast (L S : List C) (out : ByteArray) : Prop := out ∈ S.map C.key ∧ ∀ x ∈ S, cmpK L x.key out ≤ 0

def encC (x : C) : Value × Value := (.string x.key, bnd x.lo x.hi)

/-- The loop of last: S has been seen, l is to come. -/
structure LastR (w : World) (s bm r : Nat) (cap tot : Int) (L S l : List C) (wr : World) : Prop where
  k : Keep (fun _ => False) w wr
  rg : Ranging Try.prog 9 wr bm r (CRel L) (l.map encC)
  pm : L.Perm (S ++ l)
  bs : wr.cell? ⟨w.heap.size, 0, none⟩ = some (ptr s)
  bo : ∃ out, wr.cell? ⟨w.heap.size + 1, 0, none⟩ = some (.string out) ∧ out.size ≤ maxLen ∧ (S ≠ [] → IsLast L S out)
  bf : wr.cell? ⟨w.heap.size + 2, 0, none⟩ = some (.bool S.isEmpty)
  fo : wr.frozen? ⟨w.heap.size + 1, 0, none⟩ = false
  ff : wr.frozen? ⟨w.heap.size + 2, 0, none⟩ = false

def LastPost (w : World) (L : List C) (e : Ending) (w' : World) : Prop := ∃ out, e = .returned (.string out) ∧ Keep (fun _ => False) w w' ∧ (L ≠ [] → IsLast L L out) ∧ out.size ≤ maxLen

theorem encC_key {x : C} {k v : Value} (h : encC x = (k, v)) : k = .string x.key ∧ v = bnd x.lo x.hi := by
  unfold encC at h
  cases h
  exact ⟨rfl, rfl⟩

abbrev lastW (w : World) (s : Nat) : World := ((w.alloc (.cells #[ptr s] 25)).alloc (.cells #[.string ⟨#[]⟩] 9)).alloc (.cells #[.bool true] 4)

theorem perm_of_mem {α : Type} : ∀ {A B : List α}, A.Nodup → B.Nodup → (∀ x, x ∈ A ↔ x ∈ B) → A.Perm B
  | [], B, _, _, h => by
    cases B with
    | nil => exact List.Perm.refl _
    | cons b r => exact absurd ((h b).2 (by simp)) (by simp)
  | a :: A, B, hA, hB, h => by
    obtain ⟨X, Y, rfl⟩ := List.append_of_mem ((h a).1 (by simp))
    rw [List.nodup_cons] at hA
    have hp : (X ++ a :: Y).Perm (a :: (X ++ Y)) := List.perm_middle
    have hB' := hp.nodup_iff.1 hB
    rw [List.nodup_cons] at hB'
    refine (List.Perm.cons a (perm_of_mem hA.2 hB'.2 (fun x => ?_))).trans hp.symm
    have h1 := h x
    rw [hp.mem_iff] at h1
    simp only [List.mem_cons] at h1
    constructor
    · intro hx
      rcases h1.1 (.inr hx) with e | e
      · subst e; exact absurd hx hA.1
      · exact e
    · intro hx
      rcases h1.2 (.inr hx) with e | e
      · subst e; exact absurd hx hB'.1
      · exact e

/-- A nodup list that reads as the counters is a permutation of them. -/
theorem list_of_rel {L : List C} (hn : (L.map C.key).Nodup) {left : List (Value × Value)} (h1 : (left.map (·.1)).Nodup) (h2 : ∀ k v, (k, v) ∈ left ↔ CRel L k v) : (L.map encC).Perm left := by
  have nd1 : left.Nodup := by
    have : ∀ (l : List (Value × Value)), (l.map (·.1)).Nodup → l.Nodup := by
      intro l
      induction l with
      | nil => intro _; exact List.nodup_nil
      | cons a r ih =>
        intro h
        rw [List.map_cons, List.nodup_cons] at h
        exact List.nodup_cons.2 ⟨fun hm => h.1 (List.mem_map_of_mem hm), ih h.2⟩
    exact this _ h1
  have nd2 : (L.map encC).Nodup := by
    have : ∀ (l : List C), (l.map C.key).Nodup → (l.map encC).Nodup := by
      intro l
      induction l with
      | nil => intro _; exact List.nodup_nil
      | cons a r ih =>
        intro h
        rw [List.map_cons, List.nodup_cons] at h ⊢
        refine ⟨fun hm => h.1 ?_, ih h.2⟩
        obtain ⟨y, hy, e⟩ := List.mem_map.1 hm
        unfold encC at e
        injection e with e1 e2
        rw [← Value.string.inj e1]
        exact List.mem_map_of_mem hy
    exact this _ hn
  refine perm_of_mem nd2 nd1 (fun p => ?_)
  obtain ⟨k, v⟩ := p
  rw [h2, List.mem_map]
  constructor
  · rintro ⟨x, hx, e⟩
    obtain ⟨e1, e2⟩ := encC_key e
    exact ⟨x, hx, e1, e2⟩
  · rintro ⟨x, hx, e1, e2⟩
    exact ⟨x, hx, by rw [e1, e2]; rfl⟩

theorem new_cell (W : World) (v : Value) (t : TypeId) : (W.alloc (.cells #[v] t)).cell? ⟨W.heap.size, 0, none⟩ = some v ∧ (W.alloc (.cells #[v] t)).frozen? ⟨W.heap.size, 0, none⟩ = false := by
  have hh : (W.alloc (.cells #[v] t)).heap[W.heap.size]? = some (.cells #[v] t) := World.alloc_heap_new _ _
  constructor
  · unfold World.cell?; simp only [hh]; rfl
  · unfold World.frozen?; simp only [hh]; simp
theorem Keep.frozen {A : Nat → Prop} {w w' : World} (k : Keep A w w') {b : Nat} (hb : b < w.heap.size) (hA : ¬ A b) (o : Nat) : w'.frozen? ⟨b, o, none⟩ = w.frozen? ⟨b, o, none⟩ :=
  World.frozen?_of_block (w := w) (a := ⟨b, o, none⟩) (k.block _ hb hA)

theorem LastR.begin {w : World} {s bm : Nat} {cap tot : Int} {L : List C} {ob : Obj} (rg : Ranging Try.prog 9 ((lastW w s).alloc ob) bm (lastW w s).heap.size (CRel L) (L.map encC)) :
    LastR w s bm (lastW w s).heap.size cap tot L [] L ((lastW w s).alloc ob) := by
  have n1 := new_cell w (ptr s) 25
  have n2 := new_cell (w.alloc (.cells #[ptr s] 25)) (.string ⟨#[]⟩) 9
  have n3 := new_cell ((w.alloc (.cells #[ptr s] 25)).alloc (.cells #[.string ⟨#[]⟩] 9)) (.bool true) 4
  have e2 : (w.alloc (.cells #[ptr s] 25)).heap.size = w.heap.size + 1 := by simp
  have e3 : ((w.alloc (.cells #[ptr s] 25)).alloc (.cells #[.string ⟨#[]⟩] 9)).heap.size = w.heap.size + 2 := by simp
  rw [e2] at n2
  rw [e3] at n3
  have k1 : Keep (fun _ => False) (w.alloc (.cells #[ptr s] 25)) ((lastW w s).alloc ob) := (((Keep.refl _ _).alloc _).alloc _).alloc _
  have k2 : Keep (fun _ => False) ((w.alloc (.cells #[ptr s] 25)).alloc (.cells #[.string ⟨#[]⟩] 9)) ((lastW w s).alloc ob) := ((Keep.refl _ _).alloc _).alloc _
  have k3 : Keep (fun _ => False) (lastW w s) ((lastW w s).alloc ob) := (Keep.refl _ _).alloc _
  exact ⟨((((Keep.refl _ w).alloc _).alloc _).alloc _).alloc _, rg, List.Perm.refl _, k1.cell n1.1 (fun h => h), ⟨_, k2.cell n2.1 (fun h => h), by unfold maxLen; simp [ByteArray.size], fun h => absurd rfl h⟩, k3.cell n3.1 (fun h => h),
    (k2.frozen (by rw [e3]; omega) (fun h => h) 0).trans n2.2, (k3.frozen (World.block_lt_of_cell? _ _ n3.1) (fun h => h) 0).trans n3.2⟩

theorem perm_step {L S X Y : List C} {x : C} (h : L.Perm (S ++ (X ++ x :: Y))) : L.Perm ((S ++ [x]) ++ (X ++ Y)) := by
  refine h.trans ?_
  rw [List.append_assoc]
  exact List.Perm.append_left S List.perm_middle

/-- A later one has come: it is kept. -/
theorem LastR.put {w : World} {s bm : Nat} {cap tot : Int} {L S X Y : List C} {x : C} {w2 : World} (hs : SkAt w s bm cap tot L) (k : Keep (fun _ => False) w w2) (rg : Ranging Try.prog 9 w2 bm (w.heap.size + 1 + 1 + 1) (CRel L) ((X ++ Y).map encC)) (pm : L.Perm (S ++ (X ++ x :: Y)))
    (bs : w2.cell? ⟨w.heap.size, 0, none⟩ = some (ptr s)) {u v : Value} (bo : w2.cell? ⟨w.heap.size + 1, 0, none⟩ = some u) (bf : w2.cell? ⟨w.heap.size + 1 + 1, 0, none⟩ = some v) (fo : w2.frozen? ⟨w.heap.size + 1, 0, none⟩ = false) (ff : w2.frozen? ⟨w.heap.size + 1 + 1, 0, none⟩ = false) (hl : IsLast L (S ++ [x]) x.key) :
    LastR w s bm (w.heap.size + 1 + 1 + 1) cap tot L (S ++ [x]) (X ++ Y) ((w2.setCell ⟨w.heap.size + 1, 0, none⟩ (.string x.key)).setCell ⟨w.heap.size + 1 + 1, 0, none⟩ (.bool false)) := by
  have hbm := hs.lt.2
  have e : ∀ i, i ≠ w.heap.size + 1 → i ≠ w.heap.size + 1 + 1 → ((w2.setCell ⟨w.heap.size + 1, 0, none⟩ (.string x.key)).setCell ⟨w.heap.size + 1 + 1, 0, none⟩ (.bool false)).heap[i]? = w2.heap[i]? := fun i h1 h2 => by
    rw [heap_set_ne (by simpa using h2), heap_set_ne (by simpa using h1)]
  refine ⟨(k.setCell _ (.inr (show w.heap.size ≤ w.heap.size + 1 by omega))).setCell _ (.inr (show w.heap.size ≤ w.heap.size + 1 + 1 by omega)), rg.of_heap (e _ (by omega) (by omega)) (e _ (by omega) (by omega)), perm_step pm, ?_, ⟨x.key, ?_, hs.ks x (pm.mem_iff.2 (by simp)), fun _ => hl⟩, ?_, ?_, ?_⟩
  · rw [cell_set_blk (by omega), cell_set_blk (by omega)]; exact bs
  · rw [cell_set_blk (by omega)]; exact cell_set_same bo
  · have : (S ++ [x]).isEmpty = false := by cases S <;> rfl
    rw [this]
    exact cell_set_same (by rw [cell_set_blk (by omega)]; exact bf)
  · rw [World.frozen?_setCell, World.frozen?_setCell]; exact fo
  · rw [World.frozen?_setCell, World.frozen?_setCell]; exact ff

set_option maxRecDepth 100000 in
set_option maxHeartbeats 400000 in
theorem last_sk {w : World} {s bm : Nat} {cap tot : Int} {L : List C} (h : SkAt w s bm cap tot L) : Calls Try.prog 31 #[ptr s] w (LastPost w L) := by
  have k3 : Keep (fun _ => False) w (lastW w s) := (((Keep.refl _ w).alloc _).alloc _).alloc _
  have h3 := h.keep k3 (fun h => h) (fun h => h)
  have hc2 := h3.c2
  obtain ⟨ob, left, hrun, hrg, hnd, hmem⟩ := h3.map.range (t := 56) Try.underlying56
  have hrg' := hrg.perm (list_of_rel h.keys hnd hmem).symm
  have HR : Hid (LastR w s bm (lastW w s).heap.size cap tot L [] L ((lastW w s).alloc ob)) := Lib.hid (LastR.begin hrg')
  have HSZ : Hid ((lastW w s).heap.size = w.heap.size + 1 + 1 + 1) := Lib.hid (by simp)
  have H := Lib.hid h
  clear h h3 hrg hrg' hnd hmem k3
  go_enter Try.func31, Try.ntmps31
  go_wp2_with fail
  generalize (lastW w s).alloc ob = W4 at *
  rw [HSZ.out] at HR
  clear hrun hc2 HSZ
  go_loopw [5] (fun _ wr => ∃ S l, LastR w s bm (w.heap.size + 1 + 1 + 1) cap tot L S l wr) (fun _ wr => wr.rangeLeft bm (w.heap.size + 1 + 1 + 1))
  case atStart => exact ⟨[], L, HR.out⟩
  case round =>
    obtain ⟨S, l, hr⟩ := hrel
    obtain ⟨out, hbo, hok, hlast⟩ := hr.bo
    have HLA := Lib.hid hlast
    have HRR := Lib.hid hr
    have hbs := hr.bs
    have hbf := hr.bf
    clear hlast
    rcases hr.rg.next 0 with ⟨h0, hrun⟩ | ⟨k, v, left', w', hp, hR, hrun, hrg', kk, hsz, hen⟩
    · have hl : l = [] := by simpa using h0
      subst hl
      have hfo := hr.fo
      have HF : Hid (∀ e w', e = Ending.returned (.string out) → Keep (fun _ => False) w w' → LastPost w L e w') := Lib.hid (fun e w' he hk => ⟨out, he, hk, fun hL => by
        have hpm := hr.pm
        rw [List.append_nil] at hpm
        have hS : S ≠ [] := fun h => by rw [h] at hpm; exact hL (List.perm_nil.1 hpm)
        obtain ⟨h1, h2⟩ := HLA.out hS
        exact ⟨(hpm.map C.key).mem_iff.2 h1, fun x hx => h2 x (hpm.mem_iff.1 hx)⟩, hok⟩)
      have HKK := Lib.hid hr.k
      clear hr hbs hbf h0
      go_wp2_with fail
      have hcell : (wr.setCell ⟨w.heap.size + 1, 0, none⟩ (.string out)).cell? ⟨w.heap.size + 1, 0, none⟩ = some (.string out) := cell_set_same hbo
      exact bodyPost_ret (v := .string out) (by simp [results, Try.results31, go_sem, hcell]) rfl (HF.out _ _ rfl (HKK.out.setCell _ (.inr (by simp))))
    · obtain ⟨x, hxl, hxe⟩ := List.mem_map.1 (hp.mem_iff.2 (List.mem_cons_self))
      obtain ⟨rfl, rfl⟩ := encC_key hxe
      obtain ⟨X, Y, rfl⟩ := List.append_of_mem hxl
      have hp2 : ((X ++ Y).map encC).Perm left' := by
        have h1 : ((X ++ x :: Y).map encC).Perm (encC x :: (X ++ Y).map encC) := (List.perm_middle).map encC
        have h2 := h1.symm.trans hp
        exact List.Perm.cons_inv h2
      have hrg2 := hrg'.perm hp2.symm
      have HRG := Lib.hid hrg2
      have HKK := Lib.hid kk
      have HHK := Lib.hid (H.out.ks x (hr.pm.mem_iff.2 (by simp)))
      have nr : ∀ i, i < w.heap.size + 1 + 1 + 1 → ¬ i = w.heap.size + 1 + 1 + 1 := fun i hi => by omega
      replace hbs := kk.cell hbs (nr _ (by omega))
      replace hbf := kk.cell hbf (nr _ (by omega))
      replace hbo := kk.cell hbo (nr _ (by omega))
      have HFO : Hid (w'.frozen? ⟨w.heap.size + 1, 0, none⟩ = false) := Lib.hid ((World.frozen?_of_block (w := wr) (a := ⟨w.heap.size + 1, 0, none⟩) (kk.block _ (World.block_lt_of_cell? _ _ HRR.out.bo.choose_spec.1) (nr (w.heap.size + 1) (by omega)))).trans hr.fo)
      have HFF : Hid (w'.frozen? ⟨w.heap.size + 2, 0, none⟩ = false) := Lib.hid ((World.frozen?_of_block (w := wr) (a := ⟨w.heap.size + 2, 0, none⟩) (kk.block _ (World.block_lt_of_cell? _ _ hr.bf) (nr (w.heap.size + 2) (by omega)))).trans hr.ff)
      have HKW : Hid (Keep (fun _ => False) w w') := Lib.hid (hr.k.trans' kk (fun i hi => .inr (by omega)))
      clear hp hp2 hrg' hrg2 hxl hxe hR kk
      clear hr
      have hbf' : w'.cell? ⟨w.heap.size + 1 + 1, 0, none⟩ = some (.bool S.isEmpty) := hbf
      cases hS : S.isEmpty with
      | true =>
        rw [hS] at hbf' hbf
        go_wp2_with fail
        with_reducible refine (later_first _ _ _ _ _ hbf').mono ?_
        rintro e w2 ⟨rfl, k2⟩
        have hbo2 := k2.cell hbo (fun h => h)
        have hbf2 := k2.cell hbf' (fun h => h)
        have hfo2 : w2.frozen? ⟨w.heap.size + 1, 0, none⟩ = false := (World.frozen?_of_block (w := w') (a := ⟨w.heap.size + 1, 0, none⟩) (k2.block _ (World.block_lt_of_cell? _ _ hbo) (fun h => h))).trans HFO.out
        have hff2 : w2.frozen? ⟨w.heap.size + 1 + 1, 0, none⟩ = false := (World.frozen?_of_block (w := w') (a := ⟨w.heap.size + 2, 0, none⟩) (k2.block _ (World.block_lt_of_cell? _ _ hbf) (fun h => h))).trans HFF.out
        have hS0 : S = [] := by simpa using hS
        have HPUT := Lib.hid (LastR.put H.out (HKW.out.trans k2) (HRG.out.of_heap (k2.block _ HRG.out.lt.2.1 (fun h => h)) (k2.block _ HRG.out.lt.1 (fun h => h))) HRR.out.pm (k2.cell hbs (fun h => h)) hbo2 hbf2 hfo2 hff2 (by rw [hS0]; exact ⟨by simp, fun y hy => by rw [List.nil_append, List.mem_singleton] at hy; rw [hy, cmpK_zero.2 rfl]; decide⟩))
        go_wp2_with fail
        go_roundw
        case rel => exact ⟨S ++ [x], X ++ Y, HPUT.out⟩
        case measure => rw [HPUT.out.rg.left_eq, HRR.out.rg.left_eq]; simp
      | false =>
        rw [hS] at hbf' hbf
        have hS0 : S ≠ [] := fun h => by rw [h] at hS; cases hS
        obtain ⟨hla1, hla2⟩ := HLA.out hS0
        have HL1 := Lib.hid hla1
        have HL2 := Lib.hid hla2
        have HSW := Lib.hid (H.out.keep HKW.out (fun h => h) (fun h => h))
        clear hla1 hla2
        go_wp2_with fail
        with_reducible refine (later_more HSW.out _ out _ _ _ hbf' hbs hbo HHK.out hok).mono ?_
        rintro e w2 ⟨rfl, k2⟩
        have hbo2 := k2.cell hbo (fun h => h)
        have hbf2 := k2.cell hbf' (fun h => h)
        have hfo2 : w2.frozen? ⟨w.heap.size + 1, 0, none⟩ = false := (World.frozen?_of_block (w := w') (a := ⟨w.heap.size + 1, 0, none⟩) (k2.block _ (World.block_lt_of_cell? _ _ hbo) (fun h => h))).trans HFO.out
        have hff2 : w2.frozen? ⟨w.heap.size + 1 + 1, 0, none⟩ = false := (World.frozen?_of_block (w := w') (a := ⟨w.heap.size + 2, 0, none⟩) (k2.block _ (World.block_lt_of_cell? _ _ hbf) (fun h => h))).trans HFF.out
        have HRG2 := Lib.hid (HRG.out.of_heap (k2.block _ HRG.out.lt.2.1 (fun h => h)) (k2.block _ HRG.out.lt.1 (fun h => h)))
        have HK2 := Lib.hid (HKW.out.trans k2)
        have hbs2 := k2.cell hbs (fun h => h)
        by_cases hpos : 0 < cmpK L x.key out
        · have hdec : decide (0 < cmpK L x.key out) = true := by simpa using hpos
          have HPUT := Lib.hid (LastR.put H.out HK2.out HRG2.out HRR.out.pm hbs2 hbo2 hbf2 hfo2 hff2 ⟨by simp, fun y hy => by
            rcases List.mem_append.1 hy with hy | hy
            · have h1 := HL2.out y hy
              apply Classical.byContradiction
              intro h2
              have h3 := cmpK_pos.1 (show 0 < cmpK L y.key x.key by omega)
              have h4 := cmpK_pos.2 ((cmpK_pos.1 hpos).trans h3)
              omega
            · rw [List.mem_singleton] at hy; rw [hy, cmpK_zero.2 rfl]; decide⟩)
          rw [hdec]
          clear hdec hpos
          go_wp2_with fail
          go_roundw
          case rel => exact ⟨S ++ [x], X ++ Y, HPUT.out⟩
          case measure => rw [HPUT.out.rg.left_eq, HRR.out.rg.left_eq]; simp
        · have hdec : decide (0 < cmpK L x.key out) = false := by simpa using hpos
          have HSK : Hid (LastR w s bm (w.heap.size + 1 + 1 + 1) cap tot L (S ++ [x]) (X ++ Y) w2) := Lib.hid ⟨HK2.out, HRG2.out, perm_step HRR.out.pm, hbs2, ⟨out, hbo2, hok, fun _ => ⟨by rw [List.map_append]; exact List.mem_append_left _ HL1.out, fun y hy => by
            rcases List.mem_append.1 hy with hy | hy
            · exact HL2.out y hy
            · rw [List.mem_singleton] at hy; rw [hy]; omega⟩⟩, by rw [show (S ++ [x]).isEmpty = false by cases S <;> rfl]; exact hbf2, hfo2, hff2⟩
          rw [hdec]
          clear hdec hpos
          go_wp2_with fail
          go_roundw
          case rel => exact ⟨S ++ [x], X ++ Y, HSK.out⟩
          case measure => rw [HSK.out.rg.left_eq, HRR.out.rg.left_eq]; simp
end Go.Proofs.Ytogkkghliogpeaa
