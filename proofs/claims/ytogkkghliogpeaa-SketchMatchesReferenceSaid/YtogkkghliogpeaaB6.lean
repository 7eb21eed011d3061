/-
  counter, Get, of, Total, New.
-/
import Derived.Test.YtogkkghliogpeaaB5
namespace Go.Proofs.Ytogkkghliogpeaa
open Go.RowKit

/-- A counter as a value. -/
abbrev ctrV (key : ByteArray) (n e : Int) : Value := .agg #[.string key, .int .i64 n, .int .i64 e]

set_option maxRecDepth 100000 in
set_option maxHeartbeats 400000 in
theorem counter_sk {w : World} {s bm cap : Nat} {L : List C} (h : Sk w s bm cap L) (key : ByteArray) (hk : key.size ≤ maxLen) :
    Calls Try.prog 35 #[ptr s, .string key] w fun e w' => e = .returned (ctrV key (hiOf L key) (hiOf L key - loOf L key)) ∧ Keep (fun _ => False) w w' := by
  have kal := (Keep.refl (fun _ => False) w).alloc (.cells #[.string ⟨#[]⟩, .int .i64 0, .int .i64 0] 37)
  have hs1 := h.keep kal (fun h => h) (fun h => h)
  have c2 := hs1.at_.c2
  have lk := look_one hs1.at_.map hk
  obtain ⟨hb1, hb2, hb3, hb4⟩ := h.ok.hi0 key
  have hs := h.ok.sum
  have H := Lib.hid h
  have HS := Lib.hid hs1
  have HK := Lib.hid kal
  clear h hs1 kal
  go_enter Try.func35, Try.ntmps35
  go_wp2_with fail
  refine bodyPost_ret (v := ctrV key (hiOf L key) (hiOf L key - loOf L key)) (by simp [results, Try.results35, go_sem]) rfl ⟨rfl, ?_⟩
  exact ((Keep.refl _ w).alloc _).alloc _

set_option maxRecDepth 100000 in
set_option maxHeartbeats 400000 in
theorem total_nil (w : World) : Calls Try.prog 16 #[.pointer none] w fun e w' => e = .returned (.int .i64 0) ∧ w = w' := by
  go_enter Try.func16, Try.ntmps16
  go_wp2_with fail
  go_ret
  exact ⟨rfl, rfl⟩
set_option maxRecDepth 100000 in
set_option maxHeartbeats 400000 in
theorem total_sk {w : World} {s bm cap : Nat} {L : List C} (h : Sk w s bm cap L) : Calls Try.prog 16 #[ptr s] w fun e w' => e = .returned (.int .i64 (sumH L)) ∧ w = w' := by
  have c1 := h.at_.c1
  clear h
  go_enter Try.func16, Try.ntmps16
  go_wp2_with fail
  go_ret
  exact ⟨rfl, rfl⟩

set_option maxRecDepth 100000 in
set_option maxHeartbeats 400000 in
theorem new_bad (k : Int) (hk : k < 1 ∨ 64 < k) (w : World) : Calls Try.prog 12 #[.int .i64 k] w fun e w' => e = .returned (.tuple #[.pointer none, .int .i64 140]) ∧ w = w' := by
  by_cases h1 : k < 1
  · clear hk
    go_enter Try.func12, Try.ntmps12
    go_wp2_with fail
    exact bodyPost_ret (v := .tuple #[.pointer none, .int .i64 140]) (by simp [results, Try.results12, go_sem]) rfl ⟨rfl, rfl⟩
  · have h2 : 64 < k := by omega
    clear hk
    go_enter Try.func12, Try.ntmps12
    go_wp2_with fail
    exact bodyPost_ret (v := .tuple #[.pointer none, .int .i64 140]) (by simp [results, Try.results12, go_sem]) rfl ⟨rfl, rfl⟩
theorem three_cell (W : World) (x y z : Value) (t : TypeId) : (W.alloc (.cells #[x, y, z] t)).cell? ⟨W.heap.size, 0, none⟩ = some x ∧ (W.alloc (.cells #[x, y, z] t)).cell? ⟨W.heap.size, 1, none⟩ = some y ∧ (W.alloc (.cells #[x, y, z] t)).cell? ⟨W.heap.size, 2, none⟩ = some z ∧ ∀ o, (W.alloc (.cells #[x, y, z] t)).frozen? ⟨W.heap.size, o, none⟩ = false := by
  have hh : (W.alloc (.cells #[x, y, z] t)).heap[W.heap.size]? = some (.cells #[x, y, z] t) := World.alloc_heap_new _ _
  refine ⟨?_, ?_, ?_, fun o => ?_⟩
  · unfold World.cell?; simp only [hh]; rfl
  · unfold World.cell?; simp only [hh]; rfl
  · unfold World.cell?; simp only [hh]; rfl
  · unfold World.frozen?; simp only [hh]; simp
/-- A sketch that is made. -/
theorem new_at (w : World) (k : Int) : SkAt ((w.alloc (.map #[] 0)).alloc (.cells #[.int .i64 k, .int .i64 0, .map (some w.heap.size)] 58)) (w.heap.size + 1) w.heap.size k 0 [] := by
  obtain ⟨h0, h1, h2, hf⟩ := three_cell (w.alloc (.map #[] 0)) (.int .i64 k) (.int .i64 0) (.map (some w.heap.size)) 58
  rw [World.size_alloc] at h0 h1 h2 hf
  refine ⟨h0, h1, h2, hf, ?_, by simp, by simp⟩
  have := (MapRel.made Try.prog 9 w).of_heap (w' := (w.alloc (.map #[] 0)).alloc (.cells #[.int .i64 k, .int .i64 0, .map (some w.heap.size)] 58)) (Below.heap_alloc _ _ _ (by simp))
  exact this.congr (fun k v => by unfold CRel; simp)

def NewPost (k : Nat) (w : World) (e : Ending) (w' : World) : Prop := ∃ s bm, e = .returned (.tuple #[ptr s, .int .i64 0]) ∧ Sk w' s bm k [] ∧ Keep (fun _ => False) w w' ∧ w.heap.size ≤ s ∧ w.heap.size ≤ bm

set_option maxRecDepth 100000 in
set_option maxHeartbeats 400000 in
theorem new_ok (k : Nat) (h1 : 1 ≤ k) (h2 : k ≤ 64) (w : World) : Calls Try.prog 12 #[.int .i64 k] w (NewPost k w) := by
  have h3 : ¬ (k : Int) < 1 := by omega
  have h4 : ¬ 64 < (k : Int) := by omega
  have hmm := @run_makeMap Try.prog
  go_enter Try.func12, Try.ntmps12
  go_wp2_with fail
  refine bodyPost_ret (v := .tuple #[ptr (w.heap.size + 1), .int .i64 0]) (by simp [results, Try.results12, go_sem]) rfl ?_
  exact ⟨_, _, rfl, ⟨new_at w k, OkL.nil h1 h2⟩, ((Keep.refl _ w).alloc _).alloc _, by omega, Nat.le_refl _⟩

set_option maxRecDepth 100000 in
set_option maxHeartbeats 400000 in
theorem get_nil (key : ByteArray) (w : World) : Calls Try.prog 26 #[.pointer none, .string key] w fun e w' => e = .returned (.tuple #[ctrV ⟨#[]⟩ 0 0, .bool false]) ∧ Keep (fun _ => False) w w' := by
  go_enter Try.func26, Try.ntmps26
  go_wp2_with fail
  refine bodyPost_ret (v := .tuple #[ctrV ⟨#[]⟩ 0 0, .bool false]) (by simp [results, Try.results26, go_sem]) rfl ⟨rfl, ?_⟩
  exact (Keep.refl _ w).alloc _

/-- What Get answers. -/
def getV (L : List C) (key : ByteArray) : Value := match atC L key with
  | none => .tuple #[ctrV ⟨#[]⟩ 0 0, .bool false]
  | some x => .tuple #[ctrV key x.hi (x.hi - x.lo), .bool true]

set_option maxRecDepth 100000 in
set_option maxHeartbeats 400000 in
theorem get_sk {w : World} {s bm cap : Nat} {L : List C} (h : Sk w s bm cap L) (key : ByteArray) (hk : key.size ≤ maxLen) :
    Calls Try.prog 26 #[ptr s, .string key] w fun e w' => e = .returned (getV L key) ∧ Keep (fun _ => False) w w' := by
  have kal := (Keep.refl (fun _ => False) w).alloc (.cells #[.string ⟨#[]⟩, .int .i64 0, .int .i64 0] 37)
  have hs1 := h.keep kal (fun h => h) (fun h => h)
  have c2 := hs1.at_.c2
  have lk := look_two hs1.at_.map hk
  have HV : Hid (∀ v, v = getV L key → getV L key = v) := Lib.hid (fun v h => h.symm)
  cases hat : atC L key with
  | none =>
    have eh : hiOf L key = 0 := by unfold hiOf; rw [hat]
    have el : loOf L key = 0 := by unfold loOf; rw [hat]
    rw [hat, eh, el] at lk
    simp only [Option.isSome_none] at lk
    have hv : getV L key = .tuple #[ctrV ⟨#[]⟩ 0 0, .bool false] := by unfold getV; rw [hat]
    have HVV := Lib.hid hv
    clear h hs1 kal hat eh el hv HV
    go_enter Try.func26, Try.ntmps26
    go_wp2_with fail
    refine bodyPost_ret (v := .tuple #[ctrV ⟨#[]⟩ 0 0, .bool false]) (by simp [results, Try.results26, go_sem]) rfl ⟨by rw [HVV.out], ?_⟩
    exact ((Keep.refl _ w).alloc _).alloc _
  | some x =>
    have eh : hiOf L key = x.hi := by unfold hiOf; rw [hat]
    have el : loOf L key = x.lo := by unfold loOf; rw [hat]
    rw [hat, eh, el] at lk
    simp only [Option.isSome_some] at lk
    have hv : getV L key = .tuple #[ctrV key x.hi (x.hi - x.lo), .bool true] := by unfold getV; rw [hat]
    have HVV := Lib.hid hv
    have HEH := Lib.hid (And.intro eh el)
    have H := Lib.hid h
    clear h hs1 kal hat eh el hv HV
    go_enter Try.func26, Try.ntmps26
    go_wp2_with fail
    have HK := Lib.hid (((Keep.refl (fun _ => False) w).alloc (.cells #[.string ⟨#[]⟩, .int .i64 0, .int .i64 0] 37)).alloc (.cells #[.int .i64 x.lo, .int .i64 x.hi] 60))
    obtain ⟨d0, d1, d2, df⟩ := three_cell w (.string ⟨#[]⟩) (.int .i64 0) (.int .i64 0) 37
    have k2 := (Keep.refl (fun _ => False) (w.alloc (.cells #[.string ⟨#[]⟩, .int .i64 0, .int .i64 0] 37))).alloc (.cells #[.int .i64 x.lo, .int .i64 x.hi] 60)
    have e0 := k2.cell d0 (fun h => h)
    have e1 := k2.cell d1 (fun h => h)
    have e2 := k2.cell d2 (fun h => h)
    have ef := fun o => (k2.frozen (b := w.heap.size) (by simp) (fun h => h) o).trans (df o)
    generalize (w.alloc (.cells #[.string ⟨#[]⟩, .int .i64 0, .int .i64 0] 37)).alloc (.cells #[.int .i64 x.lo, .int .i64 x.hi] 60) = W at *
    have HE := Lib.hid (And.intro e0 (And.intro e1 (And.intro e2 ef)))
    clear d0 d1 d2 df k2 e0 e1 e2 ef c2 lk
    with_reducible refine (counter_sk (H.out.keep HK.out (fun h => h) (fun h => h)) key hk).mono ?_
    rintro e W2 ⟨rfl, k2⟩
    rw [HEH.out.1, HEH.out.2]
    have e0 := k2.cell HE.out.1 (fun h => h)
    have e1 := k2.cell HE.out.2.1 (fun h => h)
    have e2 := k2.cell HE.out.2.2.1 (fun h => h)
    have hlt := World.block_lt_of_cell? _ _ HE.out.1
    have f0 := (k2.frozen (b := w.heap.size) hlt (fun h => h) 0).trans (HE.out.2.2.2 0)
    have f1 := (k2.frozen (b := w.heap.size) hlt (fun h => h) 1).trans (HE.out.2.2.2 1)
    have f2 := (k2.frozen (b := w.heap.size) hlt (fun h => h) 2).trans (HE.out.2.2.2 2)
    have HK2 := Lib.hid (HK.out.trans k2)
    clear k2
    go_wp2_with fail
    have g0 : (((W2.setCell ⟨w.heap.size, 0, none⟩ (.string key)).setCell ⟨w.heap.size, 1, none⟩ (.int .i64 x.hi)).setCell ⟨w.heap.size, 2, none⟩ (.int .i64 (x.hi - x.lo))).cell? ⟨w.heap.size, 0, none⟩ = some (.string key) := (cell_set_off (by decide)).trans ((cell_set_off (by decide)).trans (cell_set_same e0))
    have g1 : (((W2.setCell ⟨w.heap.size, 0, none⟩ (.string key)).setCell ⟨w.heap.size, 1, none⟩ (.int .i64 x.hi)).setCell ⟨w.heap.size, 2, none⟩ (.int .i64 (x.hi - x.lo))).cell? ⟨w.heap.size, 1, none⟩ = some (.int .i64 x.hi) := (cell_set_off (by decide)).trans (cell_set_same ((cell_set_off (by decide)).trans e1))
    have g2 : (((W2.setCell ⟨w.heap.size, 0, none⟩ (.string key)).setCell ⟨w.heap.size, 1, none⟩ (.int .i64 x.hi)).setCell ⟨w.heap.size, 2, none⟩ (.int .i64 (x.hi - x.lo))).cell? ⟨w.heap.size, 2, none⟩ = some (.int .i64 (x.hi - x.lo)) := cell_set_same ((cell_set_off (by decide)).trans ((cell_set_off (by decide)).trans e2))
    refine bodyPost_ret (v := .tuple #[ctrV key x.hi (x.hi - x.lo), .bool true]) (by simp [results, Try.results26, go_sem, g0, g1, g2]) rfl ⟨by rw [HVV.out], ?_⟩
    exact ((HK2.out.setCell _ (.inr (Nat.le_refl _))).setCell _ (.inr (Nat.le_refl _))).setCell _ (.inr (Nat.le_refl _))

/-- What is known of a key. -/
def ofHi (cap : Nat) (L : List C) (key : ByteArray) : Int := match atC L key with | none => leastC cap L | some x => x.hi

set_option maxRecDepth 100000 in
set_option maxHeartbeats 400000 in
theorem of_sk {w : World} {s bm cap : Nat} {L : List C} (h : Sk w s bm cap L) (key : ByteArray) (hk : key.size ≤ maxLen) :
    Calls Try.prog 37 #[ptr s, .string key] w fun e w' => e = .returned (bnd (loOf L key) (ofHi cap L key)) ∧ Keep (fun _ => False) w w' := by
  have kal := (Keep.refl (fun _ => False) w).alloc (.cells #[.int .i64 0, .int .i64 0] 60)
  have hs1 := h.keep kal (fun h => h) (fun h => h)
  have c2 := hs1.at_.c2
  have lk := look_two hs1.at_.map hk
  cases hat : atC L key with
  | some x =>
    have eh : hiOf L key = x.hi := by unfold hiOf; rw [hat]
    have el : loOf L key = x.lo := by unfold loOf; rw [hat]
    have eo : ofHi cap L key = x.hi := by unfold ofHi; rw [hat]
    rw [hat, eh, el] at lk
    simp only [Option.isSome_some] at lk
    rw [el, eo]
    clear h hs1 kal hat eh el eo
    go_enter Try.func37, Try.ntmps37
    go_wp2_with fail
    refine bodyPost_ret (v := bnd x.lo x.hi) (by simp [results, Try.results37, go_sem]) rfl ⟨rfl, ?_⟩
    exact ((Keep.refl _ w).alloc _).alloc _
  | none =>
    have eh : hiOf L key = 0 := by unfold hiOf; rw [hat]
    have el : loOf L key = 0 := by unfold loOf; rw [hat]
    have eo : ofHi cap L key = leastC cap L := by unfold ofHi; rw [hat]
    rw [hat, eh, el] at lk
    simp only [Option.isSome_none] at lk
    rw [el, eo]
    have H := Lib.hid h
    clear h hs1 kal hat eh el eo
    go_enter Try.func37, Try.ntmps37
    go_wp2_with fail
    have HK := Lib.hid (((Keep.refl (fun _ => False) w).alloc (.cells #[.int .i64 0, .int .i64 0] 60)).alloc (.cells #[.int .i64 0, .int .i64 0] 60))
    obtain ⟨d0, d1, df⟩ := two_cell w (.int .i64 0) (.int .i64 0) 60
    have k2 := (Keep.refl (fun _ => False) (w.alloc (.cells #[.int .i64 0, .int .i64 0] 60))).alloc (.cells #[.int .i64 0, .int .i64 0] 60)
    have e0 := k2.cell d0 (fun h => h)
    have e1 := k2.cell d1 (fun h => h)
    have ef := fun o => (k2.frozen (b := w.heap.size) (by simp) (fun h => h) o).trans (df o)
    generalize (w.alloc (.cells #[.int .i64 0, .int .i64 0] 60)).alloc (.cells #[.int .i64 0, .int .i64 0] 60) = W at *
    have HE := Lib.hid (And.intro e0 (And.intro e1 ef))
    clear d0 d1 df k2 e0 e1 ef c2 lk
    with_reducible refine (least_sk (H.out.keep HK.out (fun h => h) (fun h => h))).mono ?_
    rintro e W2 ⟨rfl, k2⟩
    have e0 := k2.cell HE.out.1 (fun h => h)
    have e1 := k2.cell HE.out.2.1 (fun h => h)
    have hlt := World.block_lt_of_cell? _ _ HE.out.1
    have f0 := (k2.frozen (b := w.heap.size) hlt (fun h => h) 0).trans (HE.out.2.2 0)
    have f1 := (k2.frozen (b := w.heap.size) hlt (fun h => h) 1).trans (HE.out.2.2 1)
    have HK2 := Lib.hid (HK.out.trans k2)
    clear k2
    go_wp2_with fail
    have g0 : ((W2.setCell ⟨w.heap.size, 0, none⟩ (.int .i64 0)).setCell ⟨w.heap.size, 1, none⟩ (.int .i64 (leastC cap L))).cell? ⟨w.heap.size, 0, none⟩ = some (.int .i64 0) := (cell_set_off (by decide)).trans (cell_set_same e0)
    have g1 : ((W2.setCell ⟨w.heap.size, 0, none⟩ (.int .i64 0)).setCell ⟨w.heap.size, 1, none⟩ (.int .i64 (leastC cap L))).cell? ⟨w.heap.size, 1, none⟩ = some (.int .i64 (leastC cap L)) := cell_set_same ((cell_set_off (by decide)).trans e1)
    refine bodyPost_ret (v := bnd 0 (leastC cap L)) (by simp [results, Try.results37, go_sem, g0, g1]) rfl ⟨rfl, ?_⟩
    exact (HK2.out.setCell _ (.inr (Nat.le_refl _))).setCell _ (.inr (Nat.le_refl _))
end Go.Proofs.Ytogkkghliogpeaa
